/-
The walk of package span: Less.
-/
import Derived.Test.YtcnogokemilhnaaDoorSpanPts
namespace Go.Proofs.YtcnogokemilhnaaDoor
open Go.RowKit Go.Cl
attribute [local go_sem ↓] Go.wp_at_zero Go.wp_at_succ

/-- What Less says. -/
def lessS (l : List Nd) (a b : Pt) : Bool × Int := if ptsS l [a, b] ≠ 0 then (false, ptsS l [a, b]) else (decide (orderR l a b < 0), 0)
theorem pts_one {l : List Nd} {ps : List Pt} (h : ptsF l ps = 0) : ∀ p ∈ ps, ptE l p = 0 := by
  induction ps with
  | nil => intro p hp; cases hp
  | cons x r ih =>
    intro p hp
    rw [ptsF] at h
    by_cases he : ptE l x ≠ 0
    · rw [if_pos he] at h; exact absurd h he
    · rw [if_neg he] at h
      rcases List.mem_cons.1 hp with rfl | hp
      · simpa using he
      · exact ih h p hp
theorem pts_ok {l : List Nd} {ps : List Pt} (h : ptsS l ps = 0) : checkD l = 0 ∧ ∀ p ∈ ps, ptE l p = 0 := by
  unfold ptsS at h
  by_cases hc : checkD l = 0
  · rw [if_neg (by simpa using hc)] at h
    exact ⟨hc, pts_one h⟩
  · rw [if_pos hc] at h; exact absurd h hc
theorem pt_ok {l : List Nd} {p : Pt} (h : ptE l p = 0) : ∃ m : Nat, p.node = (m : Int) ∧ m < l.length ∧ 0 ≤ p.at_ ∧ p.at_ ≤ (roomD l m : Int) ∧ topR l m = 0 := by
  unfold ptE at h
  by_cases h1 : p.node < 0 ∨ (l.length : Int) ≤ p.node ∨ p.at_ < 0 ∨ (roomD l p.node : Int) < p.at_
  · rw [if_pos h1] at h; cases h
  · rw [if_neg h1] at h
    by_cases h2 : topR l p.node ≠ 0
    · rw [if_pos h2] at h; cases h
    · obtain ⟨m, hm⟩ : ∃ m : Nat, p.node = (m : Int) := ⟨p.node.toNat, by omega⟩
      rw [hm] at h1 h2
      exact ⟨m, hm, by omega, by omega, by omega, by simpa using h2⟩
theorem pt_ok2 {w : World} {D : Nat → Prop} {A : Option Addr} {n c : Nat} {l : List Nd} (hs : Sl tNd w D A n c l) {p : Pt} (h : ptE l p = 0) : ∃ m : Nat, p.node = (m : Int) ∧ PtOk l m p.at_ := by
  obtain ⟨m, h1, h2, h3, h4, h5⟩ := pt_ok h
  exact ⟨m, h1, h2, h3, by have := roomD_le hs m; omega, h5⟩
theorem two_row {w : World} {D : Nat → Prop} {a b : Pt} (h1 : (Lit.int .i64 a.node).wf = true) (h2 : (Lit.int .i64 a.at_).wf = true) (h3 : (Lit.int .i64 b.node).wf = true) (h4 : (Lit.int .i64 b.at_).wf = true) :
    Row tPt w D [a, b] [.int .i64 a.node, .int .i64 a.at_, .int .i64 b.node, .int .i64 b.at_] :=
  ⟨[.int .i64 a.node, .int .i64 a.at_], _, rfl, ⟨[_], [_], rfl, ⟨rfl, h1⟩, rfl, h2⟩, [.int .i64 b.node, .int .i64 b.at_], [], rfl, ⟨[_], [_], rfl, ⟨rfl, h3⟩, rfl, h4⟩, rfl⟩
set_option maxRecDepth 100000 in
set_option maxHeartbeats 4000000 in
theorem less_any (A : Option Addr) (n c : Nat) (l : List Nd) (q : Bool) (a b : Pt) (w : World) (B : Nat) (hl : Sl tNd w (lt B) A n c l) (hB : B ≤ w.heap.size) (ha1 : (Lit.int .i64 a.node).wf = true) (ha2 : (Lit.int .i64 a.at_).wf = true) (hb1 : (Lit.int .i64 b.node).wf = true) (hb2 : (Lit.int .i64 b.at_).wf = true) :
    Calls Tryd.prog 26 #[.agg #[.slice A n c, .bool q], .agg #[.int .i64 a.node, .int .i64 a.at_], .agg #[.int .i64 b.node, .int .i64 b.at_]] w fun e w' => e = .returned (.tuple #[.bool (lessS l a b).1, .int .i64 (lessS l a b).2]) ∧ Below w.heap.size w w' := by
  obtain ⟨wa, hwa⟩ : ∃ wa, wa = w.alloc (.cells #[.slice A n c, .bool q] 24) := ⟨_, rfl⟩
  obtain ⟨wb, hwb⟩ : ∃ wb, wb = wa.alloc (.cells #[.int .i64 a.node, .int .i64 a.at_] 57) := ⟨_, rfl⟩
  obtain ⟨w0, hw0⟩ : ∃ w0, w0 = wb.alloc (.cells #[.int .i64 b.node, .int .i64 b.at_] 57) := ⟨_, rfl⟩
  obtain ⟨w1, hw1⟩ : ∃ w1, w1 = w0.alloc (.cells #[.int .i64 a.node, .int .i64 a.at_, .int .i64 b.node, .int .i64 b.at_] 57) := ⟨_, rfl⟩
  have za : wa.heap.size = w.heap.size + 1 := by rw [hwa]; exact World.size_alloc w _
  have zb : wb.heap.size = w.heap.size + 1 + 1 := by rw [hwb, World.size_alloc, za]
  have z0 : w0.heap.size = w.heap.size + 1 + 1 + 1 := by rw [hw0, World.size_alloc, zb]
  have z1 : w1.heap.size = w0.heap.size + 1 := by rw [hw1, World.size_alloc]
  have hx1 : w0.heap[w.heap.size]? = some (.cells #[.slice A n c, .bool q] 24 (0, 0)) := by rw [hw0, Lib.alloc_old _ _ _ (by omega), hwb, Lib.alloc_old _ _ _ (by omega), hwa]; exact heap_alloc_new w _
  have hx2 : w0.heap[w.heap.size + 1]? = some (.cells #[.int .i64 a.node, .int .i64 a.at_] 57 (0, 0)) := by rw [hw0, Lib.alloc_old _ _ _ (by omega), hwb, ← za]; exact heap_alloc_new wa _
  have hx3 : w0.heap[w.heap.size + 1 + 1]? = some (.cells #[.int .i64 b.node, .int .i64 b.at_] 57 (0, 0)) := by rw [hw0, ← zb]; exact heap_alloc_new wb _
  have hb0 : Below w.heap.size w w0 := by rw [hw0, hwb, hwa]; exact (((Below.refl _ _).alloc (Nat.le_refl _) _).alloc (by simp) _).alloc (by simp; omega) _
  have hb01 : Below w0.heap.size w0 w1 := by rw [hw1]; exact (Below.refl _ _).alloc (Nat.le_refl _) _
  have hps : Sl tPt w1 (lt (w0.heap.size + 1)) (some ⟨w0.heap.size, 0, none⟩) 2 2 [a, b] := by
    rw [hw1]
    exact Sl.fresh (n := 2) (w := w0) (B := w0.heap.size) 57 (two_row ha1 ha2 hb1 hb2) (Nat.le_refl _) rfl (by decide)
  have hdoc1 := (hl.below hb0 hB).below hb01 (Nat.le_trans hB hb0.size)
  have HPT := Lib.hid (points_any A n c l q (some ⟨w0.heap.size, 0, none⟩) 2 2 [a, b] w1 (w0.heap.size + 1) (hdoc1.up (Nat.le_trans hB (Nat.le_trans hb0.size (by omega)))) hps (by omega))
  have HB1 := Lib.hid (hb0.trans (hb01.mono hb0.size))
  have HX2 := Lib.hid ((hb01.block _ (by omega)).trans hx2)
  have HX3 := Lib.hid ((hb01.block _ (by omega)).trans hx3)
  have HD1 := Lib.hid hdoc1
  have HBW : Hid (B ≤ w1.heap.size) := Nat.le_trans hB (Nat.le_trans hb0.size hb01.size)
  have d0 : w0.cell? ⟨w.heap.size, 0, none⟩ = some (.slice A n c) := cell_blk hx1 rfl
  have d1 : w0.cell? ⟨w.heap.size, 1, none⟩ = some (.bool q) := cell_blk hx1 rfl
  have p0 : w0.cell? ⟨w.heap.size + 1, 0, none⟩ = some (.int .i64 a.node) := cell_blk hx2 rfl
  have p1 : w0.cell? ⟨w.heap.size + 1, 1, none⟩ = some (.int .i64 a.at_) := cell_blk hx2 rfl
  have r0 : w0.cell? ⟨w.heap.size + 1 + 1, 0, none⟩ = some (.int .i64 b.node) := cell_blk hx3 rfl
  have r1 : w0.cell? ⟨w.heap.size + 1 + 1, 1, none⟩ = some (.int .i64 b.at_) := cell_blk hx3 rfl
  clear za zb z0 z1 hx1 hx2 hx3 hb0 hb01 hps hdoc1 hl hB ha1 ha2 hb1 hb2
  go_enter Tryd.func26, Tryd.ntmps26
  go_upto_region 1 with fail
  rw [← hwa, ← hwb, ← hw0]
  clear hwa hwb hw0
  go_upto_region 2 with (go_at_call 59; rw [← hw1]; refine HPT.out.mono ?_; rintro e w2 ⟨rfl, hb2⟩)
  obtain ⟨w3, hw3⟩ : ∃ w3, w3 = w2.alloc (.cells #[.slice A n c, .bool q] 106) := ⟨_, rfl⟩
  rw [← hw3]
  have hb23 : Below w2.heap.size w2 w3 := by rw [hw3]; exact (Below.refl _ _).alloc (Nat.le_refl _) _
  have hb13 := hb2.trans (hb23.mono hb2.size)
  have hx4 : w3.heap[w2.heap.size]? = some (.cells #[.slice A n c, .bool q] 106 (0, 0)) := by rw [hw3]; exact heap_alloc_new w2 _
  have g0 : w3.cell? ⟨w2.heap.size, 0, none⟩ = some (.slice A n c) := cell_blk hx4 rfl
  have g1 : w3.cell? ⟨w2.heap.size, 1, none⟩ = some (.bool q) := cell_blk hx4 rfl
  have HB3 := Lib.hid (HB1.out.trans (hb13.mono HB1.out.size))
  by_cases he : ptsS l [a, b] = 0
  · obtain ⟨hck, hpp⟩ := pts_ok he
    obtain ⟨ma, hma, hoa⟩ := pt_ok2 HD1.out (hpp a (by simp))
    obtain ⟨mb, hmb, hob⟩ := pt_ok2 HD1.out (hpp b (by simp))
    have HR := Lib.hid (show lessS l a b = (decide (orderR l ⟨(ma : Int), a.at_⟩ ⟨(mb : Int), b.at_⟩ < 0), 0) from by
      unfold lessS
      rw [if_neg (by simpa using he), ← hma, ← hmb])
    have s0 : w3.cell? ⟨w.heap.size + 1, 0, none⟩ = some (.int .i64 (ma : Int)) := by rw [← hma]; exact cell_blk ((hb13.block _ (Array.getElem?_eq_some_iff.1 HX2.out).1).trans HX2.out) rfl
    have s1 : w3.cell? ⟨w.heap.size + 1, 1, none⟩ = some (.int .i64 a.at_) := cell_blk ((hb13.block _ (Array.getElem?_eq_some_iff.1 HX2.out).1).trans HX2.out) rfl
    have t0 : w3.cell? ⟨w.heap.size + 1 + 1, 0, none⟩ = some (.int .i64 (mb : Int)) := by rw [← hmb]; exact cell_blk ((hb13.block _ (Array.getElem?_eq_some_iff.1 HX3.out).1).trans HX3.out) rfl
    have t1 : w3.cell? ⟨w.heap.size + 1 + 1, 1, none⟩ = some (.int .i64 b.at_) := cell_blk ((hb13.block _ (Array.getElem?_eq_some_iff.1 HX3.out).1).trans HX3.out) rfl
    have HO := Lib.hid (ptOrder_any A n c l q ma mb a.at_ b.at_ w3 B (HD1.out.below hb13 HBW.out) (Nat.le_trans HBW.out hb13.size) (tree_of hck) hoa hob)
    rw [he]
    clear hw1 hw3 hb2 hb23 hb13 hx4 he hck hpp hma hmb hoa hob d0 d1 p0 p1 r0 r1 HPT
    generalize orderR l ⟨(ma : Int), a.at_⟩ ⟨(mb : Int), b.at_⟩ = od at *
    go_wp2_with (go_at_call 60; refine HO.out.mono ?_; rintro e w4 ⟨rfl, hb4⟩)
    go_ret2
    exact ⟨by rw [HR.out]; rfl, HB3.out.trans (hb4.mono HB3.out.size)⟩
  · have HR := Lib.hid (show lessS l a b = (false, ptsS l [a, b]) from if_pos he)
    have he1 : (ptsS l [a, b] != 0) = true := by simpa using he
    clear hw1 hw3 hb2 hb23 hb13 hx4 he d0 d1 p0 p1 r0 r1 HPT
    generalize ptsS l [a, b] = er at *
    go_wp2_with fail
    go_ret2
    exact ⟨by rw [HR.out]; rfl, HB3.out⟩
end Go.Proofs.YtcnogokemilhnaaDoor
