/-
The walk of span's span.
-/
import Derived.Test.YtcnogokemilhnaaDoorSpanLess
namespace Go.Proofs.YtcnogokemilhnaaDoor
open Go.RowKit Go.Cl
attribute [local go_sem ↓] Go.wp_at_zero Go.wp_at_succ

/-- What span says of a range. -/
def spanS (l : List Nd) (a b : Pt) : Int := if ptsS l [a, b] ≠ 0 then ptsS l [a, b] else if 0 < orderR l a b then 9 else 0
set_option maxRecDepth 100000 in
set_option maxHeartbeats 4000000 in
theorem span_any (A : Option Addr) (n c : Nat) (l : List Nd) (q : Bool) (a b : Pt) (w : World) (B : Nat) (hl : Sl tNd w (lt B) A n c l) (hB : B ≤ w.heap.size) (ha1 : (Lit.int .i64 a.node).wf = true) (ha2 : (Lit.int .i64 a.at_).wf = true) (hb1 : (Lit.int .i64 b.node).wf = true) (hb2 : (Lit.int .i64 b.at_).wf = true) :
    Calls Tryd.prog 61 #[.agg #[.slice A n c, .bool q], .agg #[.int .i64 a.node, .int .i64 a.at_, .int .i64 b.node, .int .i64 b.at_]] w fun e w' => e = .returned (.tuple #[.agg #[.slice A n c, .bool q], .int .i64 (spanS l a b)]) ∧ Below w.heap.size w w' := by
  obtain ⟨wa, hwa⟩ : ∃ wa, wa = w.alloc (.cells #[.slice A n c, .bool q] 24) := ⟨_, rfl⟩
  obtain ⟨wb, hwb⟩ : ∃ wb, wb = wa.alloc (.cells #[.int .i64 a.node, .int .i64 a.at_, .int .i64 b.node, .int .i64 b.at_] 63) := ⟨_, rfl⟩
  obtain ⟨w0, hw0⟩ : ∃ w0, w0 = wb.alloc (.cells #[.slice none 0 0, .bool false] 106) := ⟨_, rfl⟩
  obtain ⟨w1, hw1⟩ : ∃ w1, w1 = w0.alloc (.cells #[.int .i64 a.node, .int .i64 a.at_, .int .i64 b.node, .int .i64 b.at_] 57) := ⟨_, rfl⟩
  have za : wa.heap.size = w.heap.size + 1 := by rw [hwa]; exact World.size_alloc w _
  have zb : wb.heap.size = w.heap.size + 1 + 1 := by rw [hwb, World.size_alloc, za]
  have z0 : w0.heap.size = w.heap.size + 1 + 1 + 1 := by rw [hw0, World.size_alloc, zb]
  have z1 : w1.heap.size = w0.heap.size + 1 := by rw [hw1, World.size_alloc]
  have hx1 : w0.heap[w.heap.size]? = some (.cells #[.slice A n c, .bool q] 24 (0, 0)) := by rw [hw0, Lib.alloc_old _ _ _ (by omega), hwb, Lib.alloc_old _ _ _ (by omega), hwa]; exact heap_alloc_new w _
  have hx2 : w0.heap[w.heap.size + 1]? = some (.cells #[.int .i64 a.node, .int .i64 a.at_, .int .i64 b.node, .int .i64 b.at_] 63 (0, 0)) := by rw [hw0, Lib.alloc_old _ _ _ (by omega), hwb, ← za]; exact heap_alloc_new wa _
  have hx3 : w0.heap[w.heap.size + 1 + 1]? = some (.cells #[.slice none 0 0, .bool false] 106 (0, 0)) := by rw [hw0, ← zb]; exact heap_alloc_new wb _
  have hb0 : Below w.heap.size w w0 := by rw [hw0, hwb, hwa]; exact (((Below.refl _ _).alloc (Nat.le_refl _) _).alloc (by simp) _).alloc (by simp; omega) _
  have hb01 : Below w0.heap.size w0 w1 := by rw [hw1]; exact (Below.refl _ _).alloc (Nat.le_refl _) _
  have hps : Sl tPt w1 (lt (w0.heap.size + 1)) (some ⟨w0.heap.size, 0, none⟩) 2 2 [a, b] := by
    rw [hw1]
    exact Sl.fresh (n := 2) (w := w0) (B := w0.heap.size) 57 (two_row ha1 ha2 hb1 hb2) (Nat.le_refl _) rfl (by decide)
  have hdoc1 := (hl.below hb0 hB).below hb01 (Nat.le_trans hB hb0.size)
  have HPT := Lib.hid (points_any A n c l q (some ⟨w0.heap.size, 0, none⟩) 2 2 [a, b] w1 (w0.heap.size + 1) (hdoc1.up (Nat.le_trans hB (Nat.le_trans hb0.size (by omega)))) hps (by omega))
  have HB1 := Lib.hid (hb0.trans (hb01.mono hb0.size))
  have HX2 := Lib.hid ((hb01.block _ (by omega)).trans hx2)
  have HX3 := Lib.hid ((hb01.block _ (by omega)).trans hx3)
  have HD1 := Lib.hid hdoc1
  have HBW : Hid (B ≤ w1.heap.size) := Nat.le_trans hB (Nat.le_trans hb0.size hb01.size)
  have d0 : w0.cell? ⟨w.heap.size, 0, none⟩ = some (.slice A n c) := cell_blk hx1 rfl
  have d1 : w0.cell? ⟨w.heap.size, 1, none⟩ = some (.bool q) := cell_blk hx1 rfl
  have p0 : w0.cell? ⟨w.heap.size + 1, 0, none⟩ = some (.int .i64 a.node) := cell_blk hx2 rfl
  have p1 : w0.cell? ⟨w.heap.size + 1, 1, none⟩ = some (.int .i64 a.at_) := cell_blk hx2 rfl
  have p2 : w0.cell? ⟨w.heap.size + 1, 2, none⟩ = some (.int .i64 b.node) := cell_blk hx2 rfl
  have p3 : w0.cell? ⟨w.heap.size + 1, 3, none⟩ = some (.int .i64 b.at_) := cell_blk hx2 rfl
  clear za zb z0 z1 hx1 hx2 hx3 hb0 hb01 hps hdoc1 hl hB ha1 ha2 hb1 hb2
  go_enter Tryd.func61, Tryd.ntmps61
  go_upto_region 1 with fail
  rw [← hwa, ← hwb, ← hw0]
  clear hwa hwb hw0
  go_upto_region 2 with (go_at_call 59; rw [← hw1]; refine HPT.out.mono ?_; rintro e w2 ⟨rfl, hb2⟩)
  obtain ⟨w3, hw3⟩ : ∃ w3, w3 = w2.alloc (.cells #[.slice A n c, .bool q] 106) := ⟨_, rfl⟩
  rw [← hw3]
  have hb23 : Below w2.heap.size w2 w3 := by rw [hw3]; exact (Below.refl _ _).alloc (Nat.le_refl _) _
  have hb13 := hb2.trans (hb23.mono hb2.size)
  have hx4 : w3.heap[w2.heap.size]? = some (.cells #[.slice A n c, .bool q] 106 (0, 0)) := by rw [hw3]; exact heap_alloc_new w2 _
  have g0 : w3.cell? ⟨w2.heap.size, 0, none⟩ = some (.slice A n c) := cell_blk hx4 rfl
  have g1 : w3.cell? ⟨w2.heap.size, 1, none⟩ = some (.bool q) := cell_blk hx4 rfl
  have HB3 := Lib.hid (HB1.out.trans (hb13.mono HB1.out.size))
  have hx5 := (hb13.block _ (Array.getElem?_eq_some_iff.1 HX3.out).1).trans HX3.out
  by_cases he : ptsS l [a, b] = 0
  · obtain ⟨hck, hpp⟩ := pts_ok he
    obtain ⟨ma, hma, hoa⟩ := pt_ok2 HD1.out (hpp a (by simp))
    obtain ⟨mb, hmb, hob⟩ := pt_ok2 HD1.out (hpp b (by simp))
    have hxs := (hb13.block _ (Array.getElem?_eq_some_iff.1 HX2.out).1).trans HX2.out
    have hr0 : spanS l a b = if 0 < orderR l ⟨(ma : Int), a.at_⟩ ⟨(mb : Int), b.at_⟩ then 9 else 0 := by
      unfold spanS
      rw [if_neg (by simpa using he), ← hma, ← hmb]
    have s0 : w3.cell? ⟨w.heap.size + 1, 0, none⟩ = some (.int .i64 (ma : Int)) := by rw [← hma]; exact cell_blk hxs rfl
    have s1 : w3.cell? ⟨w.heap.size + 1, 1, none⟩ = some (.int .i64 a.at_) := cell_blk hxs rfl
    have s2 : w3.cell? ⟨w.heap.size + 1, 2, none⟩ = some (.int .i64 (mb : Int)) := by rw [← hmb]; exact cell_blk hxs rfl
    have s3 : w3.cell? ⟨w.heap.size + 1, 3, none⟩ = some (.int .i64 b.at_) := cell_blk hxs rfl
    have HO := Lib.hid (ptOrder_any A n c l q ma mb a.at_ b.at_ w3 B (HD1.out.below hb13 HBW.out) (Nat.le_trans HBW.out hb13.size) (tree_of hck) hoa hob)
    rw [he]
    have HX4 := Lib.hid hx4
    have HX5 := Lib.hid hx5
    clear hw1 hw3 hb2 hb23 hb13 hx4 hx5 hxs he hck hpp hma hmb hoa hob d0 d1 p0 p1 p2 p3 HPT
    generalize orderR l ⟨(ma : Int), a.at_⟩ ⟨(mb : Int), b.at_⟩ = od at *
    by_cases ho : 0 < od
    · have HR := Lib.hid (hr0.trans (if_pos ho))
      clear hr0
      go_upto_region 4 with (go_at_call 60; refine HO.out.mono ?_; rintro e w4 ⟨rfl, hb4⟩)
      have hb5 := HB3.out.trans (hb4.mono HB3.out.size)
      have hy4 := (hb4.block _ (Array.getElem?_eq_some_iff.1 HX4.out).1).trans HX4.out
      have hy5 := (hb4.block _ (Array.getElem?_eq_some_iff.1 HX5.out).1).trans HX5.out
      have o0 := cell_blk (i := 0) hy4 rfl
      have o1 := cell_blk (i := 1) hy4 rfl
      have n0 := cell_blk (i := 0) hy5 rfl
      have n1 := cell_blk (i := 1) hy5 rfl
      have m0 := free_blk (i := 0) hy5
      have m1 := free_blk (i := 1) hy5
      have hrs8 := set_blk (i := 0) hy5 (.slice A n c)
      have hrs9 := set_blk (i := 1) hrs8 (.bool q)
      have u0 := cell_blk (i := 0) (v := .slice A n c) hrs9 rfl
      have u1 := cell_blk (i := 1) (v := .bool q) hrs9 rfl
      have HBF := Lib.hid ((hb5.setCell (p := ⟨w.heap.size + 1 + 1, 0, none⟩) (by show w.heap.size ≤ w.heap.size + 1 + 1; omega) (.slice A n c)).setCell (p := ⟨w.heap.size + 1 + 1, 1, none⟩) (by show w.heap.size ≤ w.heap.size + 1 + 1; omega) (.bool q))
      clear hrs8 hrs9 hy5
      go_wp2_with fail
      refine bodyPost_ret (v := .tuple #[.agg #[.slice A n c, .bool q], .int .i64 9]) (by simp [results, Tryd.results61, go_sem, u0, u1]) rfl ⟨by rw [HR.out], HBF.out⟩
    · have HR := Lib.hid (hr0.trans (if_neg ho))
      clear hr0
      go_upto_region 4 with (go_at_call 60; refine HO.out.mono ?_; rintro e w4 ⟨rfl, hb4⟩)
      have hb5 := HB3.out.trans (hb4.mono HB3.out.size)
      have hy4 := (hb4.block _ (Array.getElem?_eq_some_iff.1 HX4.out).1).trans HX4.out
      have hy5 := (hb4.block _ (Array.getElem?_eq_some_iff.1 HX5.out).1).trans HX5.out
      have o0 := cell_blk (i := 0) hy4 rfl
      have o1 := cell_blk (i := 1) hy4 rfl
      have n0 := cell_blk (i := 0) hy5 rfl
      have n1 := cell_blk (i := 1) hy5 rfl
      have m0 := free_blk (i := 0) hy5
      have m1 := free_blk (i := 1) hy5
      have hrs8 := set_blk (i := 0) hy5 (.slice A n c)
      have hrs9 := set_blk (i := 1) hrs8 (.bool q)
      have u0 := cell_blk (i := 0) (v := .slice A n c) hrs9 rfl
      have u1 := cell_blk (i := 1) (v := .bool q) hrs9 rfl
      have HBF := Lib.hid ((hb5.setCell (p := ⟨w.heap.size + 1 + 1, 0, none⟩) (by show w.heap.size ≤ w.heap.size + 1 + 1; omega) (.slice A n c)).setCell (p := ⟨w.heap.size + 1 + 1, 1, none⟩) (by show w.heap.size ≤ w.heap.size + 1 + 1; omega) (.bool q))
      clear hrs8 hrs9 hy5
      go_wp2_with fail
      refine bodyPost_ret (v := .tuple #[.agg #[.slice A n c, .bool q], .int .i64 0]) (by simp [results, Tryd.results61, go_sem, u0, u1]) rfl ⟨by rw [HR.out], HBF.out⟩
  · have HR := Lib.hid (show spanS l a b = ptsS l [a, b] from if_pos he)
    have he1 : (ptsS l [a, b] == 0) = false := by simpa using he
    have hb5 := HB3.out
    clear hw1 hw3 hb2 hb23 hb13 hx4 he d0 d1 p0 p1 p2 p3 HPT
    generalize ptsS l [a, b] = er at *
    have n0 := cell_blk (i := 0) hx5 rfl
    have n1 := cell_blk (i := 1) hx5 rfl
    have m0 := free_blk (i := 0) hx5
    have m1 := free_blk (i := 1) hx5
    have hrs8 := set_blk (i := 0) hx5 (.slice A n c)
    have hrs9 := set_blk (i := 1) hrs8 (.bool q)
    have u0 := cell_blk (i := 0) (v := .slice A n c) hrs9 rfl
    have u1 := cell_blk (i := 1) (v := .bool q) hrs9 rfl
    have HBF := Lib.hid ((hb5.setCell (p := ⟨w.heap.size + 1 + 1, 0, none⟩) (by show w.heap.size ≤ w.heap.size + 1 + 1; omega) (.slice A n c)).setCell (p := ⟨w.heap.size + 1 + 1, 1, none⟩) (by show w.heap.size ≤ w.heap.size + 1 + 1; omega) (.bool q))
    clear hrs8 hrs9 hx5
    go_wp2_with fail
    refine bodyPost_ret (v := .tuple #[.agg #[.slice A n c, .bool q], .int .i64 er]) (by simp [results, Tryd.results61, go_sem, u0, u1]) rfl ⟨by rw [HR.out], HBF.out⟩
end Go.Proofs.YtcnogokemilhnaaDoor
