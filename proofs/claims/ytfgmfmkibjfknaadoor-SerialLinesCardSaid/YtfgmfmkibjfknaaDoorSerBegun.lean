/-
The walk of serialBegun: true in any case.
-/
import Derived.Test.YtfgmfmkibjfknaaDoorSerBack
import Derived.Test.YtfgmfmkibjfknaaDoorSerHtml4
import Derived.KernelRfl
namespace Go.Proofs.YtfgmfmkibjfknaaDoor
open Go.RowKit Go.Cl
attribute [local go_sem ↓] Go.wp_at_zero Go.wp_at_succ

def begS : ByteArray := (⟨#[126, 10, 104, 116, 109, 108, 10, 32, 112, 32, 105, 100, 61, 34, 120, 34, 10, 32, 32, 34, 121, 34, 10]⟩ : ByteArray)
def begL : List Nd := [⟨1, ⟨#[]⟩, [], ⟨#[]⟩, -1, [1]⟩, ⟨2, (⟨#[104, 116, 109, 108]⟩ : ByteArray), [], ⟨#[]⟩, 0, [2]⟩, ⟨2, (⟨#[112]⟩ : ByteArray), [((⟨#[105, 100]⟩ : ByteArray), (⟨#[120]⟩ : ByteArray))], ⟨#[]⟩, 1, [3]⟩, ⟨3, ⟨#[]⟩, [], (⟨#[121]⟩ : ByteArray), 2, []⟩]
theorem beg_f : backF 202 (begS.data.toList.drop 2) [rootN] [0] = some begL := by kernel_rfl
theorem beg_c : checkD begL = 0 := by kernel_rfl
theorem beg_t : treeL begL true = begS.data.toList := by kernel_rfl
theorem beg_p : Lib.hasPrefix begS.data.toList [126, 10] = true := by kernel_rfl
theorem beg_back : backR begS.data.toList = some (begL, true) := by
  unfold backR
  rw [beg_p, if_pos rfl, beg_f]
  show (if _ then _ else _) = _
  rw [if_pos ⟨beg_c, beg_t⟩]
theorem beg_html : htmlR begL 0 = (((⟨#[60, 104, 116, 109, 108, 62, 60, 112, 32, 105, 100, 61, 34, 120, 34, 62, 121, 60, 47, 112, 62, 60, 47, 104, 116, 109, 108, 62]⟩ : ByteArray)).data.toList, 0) := by kernel_rfl
set_option maxRecDepth 100000 in
set_option maxHeartbeats 2000000 in
theorem serBegun_any (w : World) (m : Int) (hm : maxAt w m) : Calls Tryd.prog 11 #[] w fun e w' => e = .returned (.bool true) ∧ Below w.heap.size w w' := by
  have HBK := Lib.hid (back_any begS w m hm (by decide))
  go_enter Tryd.func11, Tryd.ntmps11
  go_upto_region 2 with (go_at_call 9; refine HBK.out.mono ?_; rintro e' w1 ⟨hb1, hr1⟩; rw [beg_back] at hr1; obtain ⟨A', c', rfl, hs⟩ := hr1; have HS := Lib.hid hs; have HB1 := Lib.hid hb1; clear hs hb1)
  obtain ⟨w2, hw2⟩ : ∃ w2, w2 = w1.alloc (.cells #[.slice A' 4 c', .bool true] 24) := ⟨_, rfl⟩
  have hb12 : Below w1.heap.size w1 w2 := by rw [hw2]; exact (Below.refl _ _).alloc (Nat.le_refl _) _
  have hx2 : w2.heap[w1.heap.size]? = some (.cells #[.slice A' 4 c', .bool true] 24 (0, 0)) := by rw [hw2]; exact heap_alloc_new w1 _
  have HB2 := Lib.hid (HB1.out.trans (hb12.mono HB1.out.size))
  have hs2 : Sl tNd w2 (lt w1.heap.size) A' 4 c' begL := (HS.out.more (D' := lt w1.heap.size) (fun b h => h.2)).below hb12 (Nat.le_refl _)
  have HH := Lib.hid (html_any A' 4 c' begL true 0 w2 w1.heap.size m hs2 hb12.size (cell_be hm HB2.out))
  rw [beg_html] at HH
  have z0 := cell_blk (i := 0) hx2 rfl
  have z1 := cell_blk (i := 1) hx2 rfl
  have HX2 := Lib.hid hx2
  rw [show begL.length = 4 from rfl]
  rw [← hw2]
  clear hw2 hb12 hs2 hx2
  go_upto_region 3 with (go_at_call 30; refine HH.out.mono ?_; rintro e' w3 ⟨rfl, hb3⟩; have HB3 := Lib.hid (HB2.out.trans (hb3.mono HB2.out.size)); have hx3 := (hb3.block _ (Array.getElem?_eq_some_iff.1 HX2.out).1).trans HX2.out; have y0 := cell_blk (i := 0) hx3 rfl; have y1 := cell_blk (i := 1) hx3 rfl; clear hx3 hb3)
  clear z0 z1
  go_wp2_with fail
  go_ret
  exact ⟨rfl, HB3.out⟩
end Go.Proofs.YtfgmfmkibjfknaaDoor
