/-
The walks of package walk: Step, Before.
-/
import Derived.Test.YtmemadajjmmlpaaDoorWalkCheck
namespace Go.Proofs.YtmemadajjmmlpaaDoor
open Go.RowKit Go.Cl
attribute [local go_sem ↓] Go.wp_at_zero Go.wp_at_succ

/-- What Step says. -/
def stepS (l : List Nd) (m how : Int) : Int × Bool × Int :=
  if checkD l ≠ 0 then (0, false, checkD l) else if how < 1 ∨ 8 < how then (0, false, 1)
  else if checkW l [m] ≠ 0 then (0, false, checkW l [m]) else (max (stepR l m how) 0, decide (0 ≤ stepR l m how), 0)
theorem checkW_nil (l : List Nd) : checkW l [] = checkD l := by
  unfold checkW
  by_cases h : checkD l = 0
  · rw [if_neg (by rw [h]; simp), h]; rfl
  · rw [if_pos h]
theorem checkW_in {l : List Nd} {xs : List Int} (h : checkW l xs = 0) : checkD l = 0 ∧ (∀ x ∈ xs, ∃ m : Nat, x = (m : Int) ∧ m < l.length ∧ topR l m = 0) := by
  unfold checkW at h
  by_cases h1 : checkD l = 0
  · rw [if_neg (by rw [h1]; simp)] at h
    by_cases h2 : outB l.length xs = true
    · rw [if_pos h2] at h; cases h
    · rw [if_neg h2] at h
      by_cases h3 : looseB l xs = true
      · rw [if_pos h3] at h; cases h
      · refine ⟨h1, fun x hx => ?_⟩
        have h2' : outB l.length xs = false := by simpa using h2
        have h3' : looseB l xs = false := by simpa using h3
        unfold outB at h2'
        unfold looseB at h3'
        rw [List.any_eq_false] at h2' h3'
        have a := h2' x hx
        have b := h3' x hx
        simp at a b
        exact ⟨x.toNat, by omega, by omega, by rw [show ((x.toNat : Nat) : Int) = x from by omega]; exact b⟩
  · rw [if_pos h1] at h; exact absurd h h1
theorem ints_one {w : World} {x : Int} (hx : (Lit.int .i64 x).wf = true) : Sl (tInt .i64) (w.alloc (.cells #[.int .i64 x] 3)) (lt (w.heap.size + 1)) (some ⟨w.heap.size, 0, none⟩) 1 1 [x] :=
  Sl.fresh (T := tInt .i64) (B := w.heap.size) (cells := [.int .i64 x]) 3 ⟨[_], [], rfl, ⟨rfl, hx⟩, rfl⟩ (Nat.le_refl _) rfl (by decide)
theorem ints_two {w : World} {x y : Int} (hx : (Lit.int .i64 x).wf = true) (hy : (Lit.int .i64 y).wf = true) : Sl (tInt .i64) (w.alloc (.cells #[.int .i64 x, .int .i64 y] 3)) (lt (w.heap.size + 1)) (some ⟨w.heap.size, 0, none⟩) 2 2 [x, y] :=
  Sl.fresh (T := tInt .i64) (B := w.heap.size) (cells := [.int .i64 x, .int .i64 y]) 3 ⟨[_], [_], rfl, ⟨rfl, hx⟩, [_], [], rfl, ⟨rfl, hy⟩, rfl⟩ (Nat.le_refl _) rfl (by decide)

theorem ret3 {a a' : Int} {b b' : Bool} {c c' : Int} (h : (a, b, c) = (a', b', c')) : Ending.returned (.tuple #[.int .i64 a, .bool b, .int .i64 c]) = .returned (.tuple #[.int .i64 a', .bool b', .int .i64 c']) := by
  injection h with h1 h2
  injection h2 with h2 h3
  rw [h1, h2, h3]
set_option maxRecDepth 100000 in
set_option maxHeartbeats 4000000 in
theorem stepS_any (A : Option Addr) (n c : Nat) (l : List Nd) (q : Bool) (m how : Int) (w : World) (B : Nat) (hl : Sl tNd w (lt B) A n c l) (hB : B ≤ w.heap.size) (hmw : (Lit.int .i64 m).wf = true) :
    Calls Tryd.prog 39 #[.agg #[.slice A n c, .bool q], .int .i64 m, .int .i64 how] w fun e w' => e = .returned (.tuple #[.int .i64 (stepS l m how).1, .bool (stepS l m how).2.1, .int .i64 (stepS l m how).2.2]) ∧ Below w.heap.size w w' := by
  obtain ⟨w0, hw0⟩ : ∃ w0, w0 = w.alloc (.cells #[.slice A n c, .bool q] 24) := ⟨_, rfl⟩
  have hbx : w0.heap[w.heap.size]? = some (.cells #[.slice A n c, .bool q] 24 (0, 0)) := by rw [hw0]; exact heap_alloc_new w _
  have b0 : w0.cell? ⟨w.heap.size, 0, none⟩ = some (.slice A n c) := cell_blk hbx rfl
  have b1 : w0.cell? ⟨w.heap.size, 1, none⟩ = some (.bool q) := cell_blk hbx rfl
  have hb0 : Below w.heap.size w w0 := by rw [hw0]; exact (Below.refl _ _).alloc (Nat.le_refl _) _
  have hz0 : w0.heap.size = w.heap.size + 1 := by rw [hw0]; exact World.size_alloc w _
  have HB0 := Lib.hid hb0
  have HBX := Lib.hid hbx
  have HL := Lib.hid hl
  have HC0 := Lib.hid (check_walk A n c l q none 0 0 [] w0 B (hl.below hb0 hB) (Nat.le_trans hB hb0.size) Sl.nil)
  clear hb0 hbx hl
  go_enter Tryd.func39, Tryd.ntmps39
  go_upto_region 1 with fail
  rw [← hw0]
  clear hw0
  go_wp2_with fail
  refine HC0.out.mono ?_
  rintro e w1 ⟨hb1, ⟨h1, rfl⟩ | ⟨h1, g, b, o, rfl, rfl, hwk, hg⟩⟩
  · rw [checkW_nil] at h1 ⊢
    have HR := Lib.hid (show stepS l m how = (0, false, checkD l) from by unfold stepS; rw [if_pos h1])
    have h1b : (checkD l == 0) = false := by simpa using h1
    have h1c : (checkD l != 0) = true := by simpa using h1
    generalize checkD l = e0 at *
    clear h1
    go_wp2_with fail
    go_ret3
    exact ⟨by rw [HR.out]; rfl, HB0.out.trans (hb1.mono HB0.out.size)⟩
  · rw [checkW_nil] at h1
    have HD := Lib.hid h1
    have hb2 := Lib.hid (HB0.out.trans (hb1.mono HB0.out.size))
    have hbx1 : w1.heap[w.heap.size]? = some (.cells #[.slice (some ⟨b, o, none⟩) n c, .bool q] 24 (0, 0)) := (hb1.block _ (by omega)).trans HBX.out
    have y0 : w1.cell? ⟨w.heap.size, 0, none⟩ = some (.slice (some ⟨b, o, none⟩) n c) := cell_blk hbx1 rfl
    have y1 : w1.cell? ⟨w.heap.size, 1, none⟩ = some (.bool q) := cell_blk hbx1 rfl
    clear h1 hb1 hbx1 hwk hg b0 b1
    by_cases hh1 : how < 1
    · have HR := Lib.hid (show stepS l m how = (0, false, 1) from by unfold stepS; rw [if_neg (by rw [HD.out]; simp), if_pos (Or.inl hh1)])
      go_wp2_with fail
      go_ret3
      exact ⟨by rw [HR.out]; rfl, hb2.out⟩
    · by_cases hh8 : 8 < how
      · have HR := Lib.hid (show stepS l m how = (0, false, 1) from by unfold stepS; rw [if_neg (by rw [HD.out]; simp), if_pos (Or.inr hh8)])
        go_wp2_with fail
        go_ret3
        exact ⟨by rw [HR.out]; rfl, hb2.out⟩
      · have HR := Lib.hid (show stepS l m how = (if checkW l [m] ≠ 0 then (0, false, checkW l [m]) else (max (stepR l m how) 0, decide (0 ≤ stepR l m how), 0)) from by unfold stepS; rw [if_neg (by rw [HD.out]; simp), if_neg (by omega)])
        have hz1 := hb2.out.size
        have HC1 := Lib.hid (check_walk (some ⟨b, o, none⟩) n c l q (some ⟨w1.heap.size, 0, none⟩) 1 1 [m] (w1.alloc (.cells #[.int .i64 m] 3)) B ((HL.out.below hb2.out hB).al (by omega) _) (by rw [World.size_alloc]; omega) ((ints_one hmw).up (by rw [World.size_alloc]; exact Nat.le_refl _)))
        have hbA : Below w.heap.size w (w1.alloc (.cells #[.int .i64 m] 3)) := hb2.out.alloc hz1 _
        have HBA := Lib.hid hbA
        clear hbA
        go_wp2_with fail
        refine HC1.out.mono ?_
        rintro e w2 ⟨hb3, ⟨h2, rfl⟩ | ⟨h2, g2, b2, o2, e2, rfl, hwk2, hg2⟩⟩
        · have HR2 := Lib.hid (HR.out.trans (if_pos h2))
          have h2c : (checkW l [m] != 0) = true := by simpa using h2
          generalize checkW l [m] = e0 at *
          clear h2
          go_wp2_with fail
          go_ret3
          exact ⟨by rw [HR2.out]; rfl, HBA.out.trans (hb3.mono HBA.out.size)⟩
        · have HR2 := Lib.hid (HR.out.trans (if_neg (by rw [h2]; simp)))
          obtain ⟨rfl, rfl⟩ : b = b2 ∧ o = o2 := by simpa using e2
          obtain ⟨_, hin⟩ := checkW_in h2
          obtain ⟨k, rfl, hk, _⟩ := hin m (by simp)
          have HS := Lib.hid (step_any w2 g2 b o n c q l k how hwk2 hk (by omega) (by omega))
          have HB3 := Lib.hid (HBA.out.trans (hb3.mono HBA.out.size))
          generalize stepR l (k : Int) how = r at *
          clear h2 hin hwk2 hg2 hb3 e2
          go_wp2_with fail
          refine HS.out.mono ?_
          rintro e w3 ⟨rfl, rfl⟩
          go_wp2_with fail
          go_ret3
          exact ⟨by rw [HR2.out]; rfl, HB3.out⟩
end Go.Proofs.YtmemadajjmmlpaaDoor
