/-
Patches: the walks of Diff and Run.
-/
import Derived.Test.YtomleengbnfikaaDoorPatNode
import Derived.Test.YtomleengbnfikaaDoorDomAsks
namespace Go.Proofs.YtomleengbnfikaaDoor
open Go.RowKit Go.Cl
attribute [local go_sem ↓] Go.wp_at_zero Go.wp_at_succ

set_option maxRecDepth 100000 in
set_option maxHeartbeats 8000000 in
theorem diff_any (A : Option Addr) (n c : Nat) (l : List Nd) (q : Bool) (A2 : Option Addr) (n2 c2 : Nat) (l2 : List Nd) (q2 : Bool) (ds : List Edt) (w : World) (B : Nat) (hl : Sl tNd w (lt B) A n c l) (hl2 : Sl tNd w (lt B) A2 n2 c2 l2) (hB : B ≤ w.heap.size) (G : Good l) (G2 : Good l2) (h100 : l.length ≤ 100) (h1002 : l2.length ≤ 100) (hds : ds.length ≤ 1000)
    (hnode : ∀ (W : World) (base E : Nat) (v : Value), w.heap.size ≤ base → Below w.heap.size w W → Df W base E A n c q A2 n2 c2 q2 v [] (n : Int) → Calls Tryd.prog 18 #[.pointer (some ⟨E, 0, none⟩), .int .i64 0, .int .i64 0] W fun e' W' => e' = .returned undef ∧ ∃ m', DStep W base E A n c q A2 n2 c2 q2 v ds m' W') :
    Calls Tryd.prog 8 #[.agg #[.slice A n c, .bool q], .agg #[.slice A2 n2 c2, .bool q2]] w fun e w' => Below w.heap.size w w' ∧ ∃ A' c', e = .returned (.tuple #[.slice A' ds.length c', .int .i64 0]) ∧ Sl tEdt w' (rg w.heap.size w'.heap.size) A' ds.length c' ds := by
  obtain ⟨wa, hwa⟩ : ∃ wa, wa = w.alloc (.cells #[.slice A n c, .bool q] 24) := ⟨_, rfl⟩
  obtain ⟨w0, hw0⟩ : ∃ w0, w0 = wa.alloc (.cells #[.slice A2 n2 c2, .bool q2] 24) := ⟨_, rfl⟩
  have za : wa.heap.size = w.heap.size + 1 := by rw [hwa]; exact World.size_alloc w _
  have hb0 : Below w.heap.size w w0 := by rw [hw0, hwa]; exact balloc3 (balloc3 (Below.refl _ _) _) _
  have hx1 : w0.heap[w.heap.size]? = some (.cells #[.slice A n c, .bool q] 24 (0, 0)) := by rw [hw0, Lib.alloc_old _ _ _ (by omega), hwa]; exact heap_alloc_new w _
  have hx2 : w0.heap[w.heap.size + 1]? = some (.cells #[.slice A2 n2 c2, .bool q2] 24 (0, 0)) := by rw [hw0, ← za]; exact heap_alloc_new wa _
  have hs0 := hl.below hb0 hB
  have hs2 := hl2.below hb0 hB
  have hB0 : B ≤ w0.heap.size := Nat.le_trans hB hb0.size
  have HCK := Lib.hid (check_dom A n c l q w0 B hs0 hB0)
  rw [check_of G] at HCK
  have HOR := Lib.hid (fun W (hW : Below w0.heap.size w0 W) => (order_any A2 n2 c2 l2 q2 W B (hs2.below hW hB0) (Nat.le_trans hB0 hW.size)).mono (R' := fun e w' => Below W.heap.size W w' ∧ ∃ A5 n5 c5, n5 ≤ 100 ∧ e = .returned (.tuple #[.slice A5 n5 c5, .int .i64 0])) fun e w' h => by
    obtain ⟨_, v, e1, e2⟩ := h.2.resolve_left fun h => h.1 (check_of G2)
    obtain ⟨A5, c5, rfl⟩ := Own.form e2
    refine ⟨h.1, A5, _, c5, ?_, e1⟩
    exact Nat.le_trans ((tree_of (check_of G2)).pre_few (tree_of (check_of G2)).pos) h1002)
  have hn := hl.hn
  have hnc := hl.hc
  have x0 := cell_blk (i := 0) (v := .slice A n c) hx1 rfl
  have x1 := cell_blk (i := 1) (v := .bool q) hx1 rfl
  have HB0 := Lib.hid hb0
  have HX1 := Lib.hid hx1
  have HX2 := Lib.hid hx2
  have HND := Lib.hid hnode
  have hn100 : n ≤ 100 := by omega
  clear za hb0 hx1 hx2 hl hl2 hB G G2 hnode hn h100 h1002 hs0 hs2 hB0
  go_enter Tryd.func8, Tryd.ntmps8
  go_upto_region 1 with fail
  rw [← hwa, ← hw0]
  clear hwa hw0
  go_upto_region 4 with (go_at_call 11; refine HCK.out.mono ?_; rintro e w1 ⟨rfl, hb1⟩)
  have y0 := cell_be (cell_blk (i := 0) (v := .slice A2 n2 c2) HX2.out rfl) hb1
  have y1 := cell_be (cell_blk (i := 1) (v := .bool q2) HX2.out rfl) hb1
  have HO1 := Lib.hid (HOR.out w1 hb1)
  have HB1 := Lib.hid hb1
  clear x0 x1 hb1 HCK HOR
  go_upto_region 5 with (go_at_call 17; refine HO1.out.mono ?_; rintro e w2 ⟨hb2, A5, n5, c5, h5, rfl⟩)
  have hb02 := bst HB1.out hb2
  have k1 := (hb02.block _ (Array.getElem?_eq_some_iff.1 HX1.out).1).trans HX1.out
  have k2 := (hb02.block _ (Array.getElem?_eq_some_iff.1 HX2.out).1).trans HX2.out
  have a0 := cell_blk (i := 0) (v := .slice A n c) k1 rfl
  have a1 := cell_blk (i := 1) (v := .bool q) k1 rfl
  have b0 := cell_blk (i := 0) (v := .slice A2 n2 c2) k2 rfl
  have b1 := cell_blk (i := 1) (v := .bool q2) k2 rfl
  have HB2 := Lib.hid (HB0.out.trans (hb02.mono HB0.out.size))
  have hgt : ¬ (200 : Int) < (n : Int) + (n5 : Int) := by omega
  clear hb2 hb02 k1 k2 y0 y1 HO1
  obtain ⟨w3, hw3⟩ : ∃ w3, w3 = w2.alloc (.cells (dfCells A n c q A2 n2 c2 q2 (.slice none 0 0) (n : Int)) 59) := ⟨_, rfl⟩
  have hx3 : w3.heap[w2.heap.size]? = some (.cells (dfCells A n c q A2 n2 c2 q2 (.slice none 0 0) (n : Int)) 59 (0, 0)) := by rw [hw3]; exact heap_alloc_new w2 _
  have hb23 : Below w2.heap.size w2 w3 := by rw [hw3]; exact balloc3 (Below.refl _ _) _
  have hdf : Df w3 w2.heap.size w2.heap.size A n c q A2 n2 c2 q2 (.slice none 0 0) [] (n : Int) := ⟨hx3, OwnF.nil _ _ _, Nat.le_refl _⟩
  have HNO := Lib.hid (HND.out w3 w2.heap.size w2.heap.size (.slice none 0 0) HB2.out.size (HB2.out.trans (hb23.mono HB2.out.size)) hdf)
  have HDF := Lib.hid hdf
  have HB23 := Lib.hid hb23
  unfold dfCells at hw3
  clear hx3 hb23 hdf HND
  go_upto_region 10 with fail
  rw [← hw3]
  clear hw3 a0 a1 b0 b1
  go_upto_region 11 with (go_at_call 18; refine HNO.out.mono ?_; rintro e w4 ⟨rfl, m', hs⟩)
  obtain ⟨⟨v', hd', _⟩, ht⟩ := hs
  obtain ⟨A', c', hv, hsl⟩ := OwnF.slr hd'.row (by decide) (by show ds.length * 160 ≤ _; omega)
  subst hv
  have x4 : w4.cell? ⟨w2.heap.size, 4, none⟩ = some (.slice A' ds.length c') := cell_blk (i := 4) hd'.box rfl
  have HSL := Lib.hid hsl
  have HBF : Hid (Below w2.heap.size w2 w4) := HB23.out.trans ((ht.below (B := w2.heap.size) (fun b hb => (HDF.out.mine b hb).1) HB23.out.size))
  clear hd' ht hsl
  go_wp2_with fail
  exact bodyPost_ret (v := .tuple #[.slice A' ds.length c', .int .i64 0]) (by simp [results, Tryd.results8, go_sem]) rfl ⟨HB2.out.trans (HBF.out.mono HB2.out.size), A', c', rfl, HSL.out.more fun b hb => ⟨Nat.le_trans HB2.out.size hb.1, hb.2⟩⟩
end Go.Proofs.YtomleengbnfikaaDoor
