/-
The walks of serial.Tree and of some.
-/
import Derived.Test.YtfgmfmkibjfknaaDoorSerLines
namespace Go.Proofs.YtfgmfmkibjfknaaDoor
open Go.RowKit Go.Cl
attribute [local go_sem ↓] Go.wp_at_zero Go.wp_at_succ

/-- What Tree says. -/
def treeT (l : List Nd) (q : Bool) : List UInt8 := if checkD l = 0 then treeL l q else []
set_option maxRecDepth 100000 in
set_option maxHeartbeats 2000000 in
theorem treeDoc_any (A : Option Addr) (n c : Nat) (l : List Nd) (q : Bool) (w : World) (B : Nat) (hl : Sl tNd w (lt B) A n c l) (hB : B ≤ w.heap.size) :
    Calls Tryd.prog 8 #[.agg #[.slice A n c, .bool q]] w fun e w' => e = .returned (.tuple #[.string ⟨(treeT l q).toArray⟩, .int .i64 (checkD l)]) ∧ Below w.heap.size w w' := by
  obtain ⟨w0, hw0⟩ : ∃ w0, w0 = w.alloc (.cells #[.slice A n c, .bool q] 24) := ⟨_, rfl⟩
  have hbx : w0.heap[w.heap.size]? = some (.cells #[.slice A n c, .bool q] 24 (0, 0)) := by rw [hw0]; exact heap_alloc_new w _
  have b0 : w0.cell? ⟨w.heap.size, 0, none⟩ = some (.slice A n c) := cell_blk hbx rfl
  have b1 : w0.cell? ⟨w.heap.size, 1, none⟩ = some (.bool q) := cell_blk hbx rfl
  have hb0 : Below w.heap.size w w0 := by rw [hw0]; exact (Below.refl _ _).alloc (Nat.le_refl _) _
  have HB0 := Lib.hid hb0
  have HBX := Lib.hid hbx
  have HL := Lib.hid (hl.below hb0 hB)
  have HBW : Hid (B ≤ w0.heap.size) := Nat.le_trans hB hb0.size
  have HCH := Lib.hid (check_dom A n c l q w0 B (hl.below hb0 hB) (Nat.le_trans hB hb0.size))
  clear hb0 hbx hl hB
  go_enter Tryd.func8, Tryd.ntmps8
  go_upto_region 1 with fail
  rw [← hw0]
  clear hw0
  go_upto_region 2 with (go_at_call 22; refine HCH.out.mono ?_; rintro e w1 ⟨rfl, hb1⟩)
  have HB1 := Lib.hid (HB0.out.trans (hb1.mono HB0.out.size))
  have hbx1 := (hb1.block _ (Array.getElem?_eq_some_iff.1 HBX.out).1).trans HBX.out
  have y0 := cell_blk (i := 0) hbx1 rfl
  have y1 := cell_blk (i := 1) hbx1 rfl
  have HL1 := Lib.hid (HL.out.below hb1 HBW.out)
  have HS1 : Hid (B ≤ w1.heap.size) := Nat.le_trans HBW.out hb1.size
  clear hb1 hbx1 b0 b1
  by_cases hce : checkD l = 0
  · have HT := Lib.hid (tree_any A n c l q w1 B (good_of hce) (good_of hce).pos HL1.out HS1.out)
    have HR := Lib.hid (show treeT l q = treeL l q from if_pos hce)
    have HC := Lib.hid hce
    rw [hce]
    clear hce
    go_wp2_with (go_at_call 23; refine HT.out.mono ?_; rintro e w2 ⟨rfl, hb2⟩)
    refine bodyPost_ret (v := .tuple #[.string ⟨(treeL l q).toArray⟩, .int .i64 0]) (by simp [results, Tryd.results8, go_sem]) rfl ⟨by rw [HR.out, HC.out], HB1.out.trans (hb2.mono HB1.out.size)⟩
  · have HR := Lib.hid (show treeT l q = [] from if_neg hce)
    have hce1 : (checkD l != 0) = true := by simpa using hce
    clear hce
    go_wp2_with fail
    refine bodyPost_ret (v := .tuple #[.string ⟨#[]⟩, .int .i64 (checkD l)]) (by simp [results, Tryd.results8, go_sem]) rfl ⟨by rw [HR.out], HB1.out⟩
set_option maxRecDepth 100000 in
theorem someS_any (s : ByteArray) (m : Int) (k : Nat) (u : World) (hk : min (s.size : Int) m = (k : Int)) : Calls Tryd.prog 7 #[.string s, .int .i64 m] u fun e w' => e = .returned (.string (s.extract 0 k)) ∧ w' = u := by
  have h0 : (0 : Int) ≤ (k : Int) := by omega
  have h1 : (k : Int) ≤ (s.size : Int) := by omega
  have h2 : k ≤ s.size := by omega
  have HK := Lib.hid hk
  go_enter Tryd.func7, Tryd.ntmps7
  go_wp2_with fail
  go_ret
  exact ⟨rfl, rfl⟩
end Go.Proofs.YtfgmfmkibjfknaaDoor
