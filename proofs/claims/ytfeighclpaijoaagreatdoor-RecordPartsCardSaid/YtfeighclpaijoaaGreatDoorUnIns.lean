/-
The walks of package record's undoer: inserted.
-/
import Derived.Test.YtfeighclpaijoaaGreatDoorUnText
namespace Go.Proofs.YtfeighclpaijoaaGreatDoor
open Go.RowKit Go.Cl
attribute [local go_sem ↓] Go.wp_at_zero Go.wp_at_succ

set_option maxRecDepth 100000 in
set_option maxHeartbeats 8000000 in
theorem unIns_any (w : World) (E g c base : Nat) (l : List Nd) (q : Bool) (ps : List (Value × Value)) (s : Stp) (Aa : Option Addr) (na ca : Nat) (Ak : Option Addr) (nk ck : Nat) (h : UnAt w E g c base l q ps) (hok : StpOk w (lt base) s Aa na ca Ak nk ck) {m t i : Nat} {x z : Nd} (hat : s.edit.at_ = (m : Int)) (hto : s.edit.to_ = (t : Int)) (hx : l[m]? = some x) (hz : l[t]? = some z) (hne : m ≠ t) (hpl : s.place = (i : Int)) (hi : x.kids[i]? = some (t : Int)) :
    Calls Tryz.prog 36 #[.pointer (some ⟨E, 0, none⟩), .agg (stpCells s Aa na ca Ak nk ck)] w (UnPost w E base q ((l.set m { x with kids := x.kids.eraseIdx i }).set t { z with parent := -1 })) := by
  obtain ⟨w0, hw0⟩ : ∃ w0, w0 = w.alloc (.cells (stpCells s Aa na ca Ak nk ck) 48) := ⟨_, rfl⟩
  have hbx : w0.heap[w.heap.size]? = some (.cells (stpCells s Aa na ca Ak nk ck) 48 (0, 0)) := by rw [hw0]; exact heap_alloc_new w _
  have hb0 : Below w.heap.size w w0 := by rw [hw0]; exact (Below.refl _ _).alloc (Nat.le_refl _) _
  have hz0 : w0.heap.size = w.heap.size + 1 := by rw [hw0]; exact World.size_alloc w _
  have H0 := Lib.hid (h.next hb0)
  have HB0 := Lib.hid hb0
  have HBX := Lib.hid hbx
  have HZ0 := Lib.hid hz0
  have HBE : Hid (base ≤ w.heap.size) := Nat.le_trans h.le (Nat.le_of_lt h.lt)
  have HOK := Lib.hid hok
  have s1 : w0.cell? ⟨w.heap.size, 1, none⟩ = some (.int .i64 s.edit.at_) := cell_blk hbx rfl
  have s2 : w0.cell? ⟨w.heap.size, 2, none⟩ = some (.int .i64 s.edit.to_) := cell_blk hbx rfl
  have s15 : w0.cell? ⟨w.heap.size, 15, none⟩ = some (.int .i64 s.place) := cell_blk hbx rfl
  unfold stpCells at hw0

  have HNO := Lib.hid (fun k n => quiet_l (unNode_any (w0.drewN k) E g c base l q ps n (H0.out.next (below_dN (Below.refl _ _) k))))
  obtain ⟨p, hp, hnd⟩ := H0.out.node hx
  obtain ⟨pz, hpz, hndz⟩ := H0.out.node hz
  have hil := (List.getElem?_eq_some_iff.1 hi).1
  obtain ⟨A1, c1, hk1, sl1⟩ := OwnF.sl hnd.parts.kids (by decide) (by have := hnd.parts.ok.kids; show x.kids.length * 8 ≤ _; omega)
  have ho := hnd.parts.kids
  rw [hk1] at ho
  obtain ⟨ga, _, hA1, hga, hgl, _, _, _⟩ := Own.block ho (by omega)
  subst hA1
  obtain ⟨cur, hh, _, _, hnc, _, _, htk, _⟩ := own_ints ho
  have hel : w0.cell? ⟨ga, i, none⟩ = some (.int .i64 (t : Int)) := by
    have h1 := ints_at hh htk i (.int .i64 (t : Int)) (by rw [List.getElem?_map, hi]; rfl)
    rwa [Nat.zero_add] at h1
  have k5 := hnd.c5
  rw [hk1] at k5
  rw [hat] at s1
  rw [hto] at s2
  rw [hpl] at s15
  have P1 := Lib.hid (show ptrN g l s.edit.at_ = .pointer (some ⟨g, m * 6, none⟩) from by rw [hat]; exact ptr_some hx)
  have P2 := Lib.hid (show ptrN g l s.edit.to_ = .pointer (some ⟨g, t * 6, none⟩) from by rw [hto]; exact ptr_some hz)
  rw [hat] at P1
  rw [hto] at P2
  have HND := Lib.hid hnd
  have HNZ := Lib.hid hndz
  have HP := Lib.hid hp
  have HPZ := Lib.hid hpz
  have HX := Lib.hid hx
  have HZ := Lib.hid hz
  have HNE := Lib.hid hne
  have HK1 := Lib.hid hk1
  have HIL := Lib.hid hil
  have HGA : Hid (base ≤ ga) := hga
  have HKO := Lib.hid ho
  have HEL := Lib.hid hel
  have HK5 := Lib.hid k5
  have HS1 := Lib.hid s1
  have HS2 := Lib.hid s2
  have HS15 := Lib.hid s15
  have HNC : Hid (x.kids.length ≤ c1) := hnc
  have HBW : Hid (base ≤ w0.heap.size) := Nat.le_trans HBE.out HB0.out.size
  clear hz0 hok h hp hpz hnd hndz hx hz hat hto hne hpl hk1 sl1 ho hga hgl hh htk hel hbx k5 hi hnc
  go_enter Tryz.func36, Tryz.ntmps36
  unfold stpCells
  go_upto_region 1 with fail
  rw [← hw0]
  clear hw0

  clear hil s15
  go_quiet ((go_at_call 48; exact HNO.out _ _))
  generalize hw1 : w0.drewN _ = w1
  have hb1 : Below w0.heap.size w0 w1 := by rw [← hw1]; exact below_dN (Below.refl _ _) _
  have k5 := cell_be (w := w0) HK5.out hb1
  have q1 := cell_be (w := w0) HS1.out hb1
  have q2 := cell_be (w := w0) HS2.out hb1
  have q15 := cell_be (w := w0) HS15.out hb1
  have el := cell_be (w := w0) HEL.out hb1
  have HB1 := Lib.hid (HB0.out.trans (hb1.mono HB0.out.size))
  have H1 := Lib.hid (H0.out.next hb1)
  have HN1 := Lib.hid (HND.out.next hb1)
  have HZ1 := Lib.hid (HNZ.out.next hb1)
  clear hw1 hb1 s1 s2
  rw [P1.out, P2.out]
  have i1 : (0 : Int) ≤ (i : Int) := by omega
  have hlt0 : decide ((i : Int) < 0) = false := decide_eq_false (by omega)
  go_upto_region 2 with fail
  refine wp_region_G (S := fun w' : World => w'.cell? ⟨g, m * 6 + 5, none⟩ = some (.slice (some ⟨ga, 0, none⟩) x.kids.length c1) ∧ w'.cell? ⟨w.heap.size, 15, none⟩ = some (.int .i64 (i : Int)) ∧ w'.cell? ⟨w.heap.size, 2, none⟩ = some (.int .i64 (t : Int)) ∧ w'.cell? ⟨ga, i, none⟩ = some (.int .i64 (t : Int))) (T := []) (by kernel_rfl) ?_
  have hS : (fun w' : World => w'.cell? ⟨g, m * 6 + 5, none⟩ = some (.slice (some ⟨ga, 0, none⟩) x.kids.length c1) ∧ w'.cell? ⟨w.heap.size, 15, none⟩ = some (.int .i64 (i : Int)) ∧ w'.cell? ⟨w.heap.size, 2, none⟩ = some (.int .i64 (t : Int)) ∧ w'.cell? ⟨ga, i, none⟩ = some (.int .i64 (t : Int))) w1.drew := ⟨k5, q15, q2, el⟩
  refine wpAnyG_pureW (i := 0) (v := ?_) rfl (by kernel_rfl) (by kernel_rfl) (by kernel_rfl) (fun _ _ _ h => h) (by kernel_rfl) ?_ ?_
  rotate_left
  · intro w'
    first | (go_simp; done) | (go_simp; with_reducible rfl)
  refine wpAnyG_pureW (i := 1) (v := ?_) rfl (by kernel_rfl) (by kernel_rfl) (by kernel_rfl) (fun _ _ _ h => h) (by kernel_rfl) ?_ ?_
  rotate_left
  · intro w'
    first | (go_simp; done) | (go_simp; with_reducible rfl)
  refine wpAnyG_pureW (i := 2) (v := ?_) rfl (by kernel_rfl) (by kernel_rfl) (by kernel_rfl) (fun _ _ _ h => h) (by kernel_rfl) ?_ ?_
  rotate_left
  · intro w'
    first | (go_simp; done) | (go_simp; with_reducible rfl)
  refine wpAnyG_pureW (i := 3) (v := ?_) rfl (by kernel_rfl) (by kernel_rfl) (by kernel_rfl) (fun _ _ _ h => h) (by kernel_rfl) ?_ ?_
  rotate_left
  · intro w'
    first | (go_simp; done) | (go_simp; with_reducible rfl)
  refine wpAnyG_pureW (i := 4) (v := ?_) rfl (by kernel_rfl) (by kernel_rfl) (by kernel_rfl) (fun _ _ _ h => h) (by kernel_rfl) ?_ ?_
  rotate_left
  · intro w'
    first | (go_simp; done) | (go_simp; with_reducible rfl)
  refine wpAnyG_pureW (i := 5) (v := ?_) rfl (by kernel_rfl) (by kernel_rfl) (by kernel_rfl) (fun _ _ _ h => h) (by kernel_rfl) ?_ ?_
  rotate_left
  · intro w'
    first | (go_simp; done) | (go_simp; with_reducible rfl)
  refine wpAnyG_pureW (i := 6) (v := ?_) rfl (by kernel_rfl) (by kernel_rfl) (by kernel_rfl) (fun _ _ _ h => h) (by kernel_rfl) ?_ ?_
  rotate_left
  · intro w'
    first | (go_simp; done) | (go_simp; with_reducible rfl)
  refine wpAnyG_pureW (i := 7) (v := ?_) rfl (by kernel_rfl) (by kernel_rfl) (by kernel_rfl) (fun _ _ _ h => h) (by kernel_rfl) ?_ ?_
  rotate_left
  · intro w'
    first | (go_simp; done) | (go_simp; with_reducible rfl)
  refine wpAnyG_takeW (i := 8) (v := ?_) rfl (by kernel_rfl) (by kernel_rfl) (by kernel_rfl) (by kernel_rfl) (fun _ _ _ h => h) hS (by kernel_rfl) ?_ ?_
  rotate_left
  · intro w' hSw
    (try dsimp only at hSw)
    first | (go_simp; done) | (go_simp; with_reducible rfl)
  refine wpAnyG_pureW (i := 9) (v := ?_) rfl (by kernel_rfl) (by kernel_rfl) (by kernel_rfl) (fun _ _ _ h => h) (by kernel_rfl) ?_ ?_
  rotate_left
  · intro w'
    first | (go_simp; done) | (go_simp; with_reducible rfl)
  refine wpAnyG_pureW (i := 10) (v := ?_) rfl (by kernel_rfl) (by kernel_rfl) (by kernel_rfl) (fun _ _ _ h => h) (by kernel_rfl) ?_ ?_
  rotate_left
  · intro w'
    first | (go_simp; done) | (go_simp; with_reducible rfl)
  refine wpAnyG_pureW (i := 11) (v := ?_) rfl (by kernel_rfl) (by kernel_rfl) (by kernel_rfl) (fun _ _ _ h => h) (by kernel_rfl) ?_ ?_
  rotate_left
  · intro w'
    first | (go_simp; done) | (go_simp; with_reducible rfl)
  refine wpAnyG_pureW (i := 12) (v := ?_) rfl (by kernel_rfl) (by kernel_rfl) (by kernel_rfl) (fun _ _ _ h => h) (by kernel_rfl) ?_ ?_
  rotate_left
  · intro w'
    first | (go_simp; done) | (go_simp; with_reducible rfl)
  refine wpAnyG_takeW (i := 13) (v := ?_) rfl (by kernel_rfl) (by kernel_rfl) (by kernel_rfl) (by kernel_rfl) (fun _ _ _ h => h) hS (by kernel_rfl) ?_ ?_
  rotate_left
  · intro w' hSw
    (try dsimp only at hSw)
    first | (go_simp; done) | (go_simp; with_reducible rfl)
  refine wpAnyG_pureW (i := 14) (v := ?_) rfl (by kernel_rfl) (by kernel_rfl) (by kernel_rfl) (fun _ _ _ h => h) (by kernel_rfl) ?_ ?_
  rotate_left
  · intro w'
    first | (go_simp; done) | (go_simp; with_reducible rfl)
  refine wpAnyG_pureW (i := 15) (v := ?_) rfl (by kernel_rfl) (by kernel_rfl) (by kernel_rfl) (fun _ _ _ h => h) (by kernel_rfl) ?_ ?_
  rotate_left
  · intro w'
    first | (go_simp; done) | (go_simp; with_reducible rfl)
  refine wpAnyG_pureW (i := 16) (v := ?_) rfl (by kernel_rfl) (by kernel_rfl) (by kernel_rfl) (fun _ _ _ h => h) (by kernel_rfl) ?_ ?_
  rotate_left
  · intro w'
    first | (go_simp; done) | (go_simp; with_reducible rfl)
  refine wpAnyG_takeW (i := 17) (v := ?_) rfl (by kernel_rfl) (by kernel_rfl) (by kernel_rfl) (by kernel_rfl) (fun _ _ _ h => h) hS (by kernel_rfl) ?_ ?_
  rotate_left
  · intro w' hSw
    (try dsimp only at hSw)
    first | (go_simp; done) | (go_simp; with_reducible rfl)
  refine wpAnyG_pureW (i := 18) (v := ?_) rfl (by kernel_rfl) (by kernel_rfl) (by kernel_rfl) (fun _ _ _ h => h) (by kernel_rfl) ?_ ?_
  rotate_left
  · intro w'
    first | (go_simp; done) | (go_simp; with_reducible rfl)
  refine wpAnyG_pureW (i := 19) (v := .bool false) rfl (by kernel_rfl) (by kernel_rfl) (by kernel_rfl) (fun _ _ _ h => h) (by kernel_rfl) ?_ ?_
  · intro w'
    go_simp
    first | done | exact HIL.out | (have := HIL.out; omega)
  refine wpAnyG_pureW (i := 20) (v := ?_) rfl (by kernel_rfl) (by kernel_rfl) (by kernel_rfl) (fun _ _ _ h => h) (by kernel_rfl) ?_ ?_
  rotate_left
  · intro w'
    first | (go_simp; done) | (go_simp; with_reducible rfl)
  refine wpAnyG_pureW (i := 21) (v := ?_) rfl (by kernel_rfl) (by kernel_rfl) (by kernel_rfl) (fun _ _ _ h => h) (by kernel_rfl) ?_ ?_
  rotate_left
  · intro w'
    first | (go_simp; done) | (go_simp; with_reducible rfl)
  refine wpAnyG_pureW (i := 22) (v := ?_) rfl (by kernel_rfl) (by kernel_rfl) (by kernel_rfl) (fun _ _ _ h => h) (by kernel_rfl) ?_ ?_
  rotate_left
  · intro w'
    first | (go_simp; done) | (go_simp; with_reducible rfl)
  refine wpAnyG_pureW (i := 23) (v := ?_) rfl (by kernel_rfl) (by kernel_rfl) (by kernel_rfl) (fun _ _ _ h => h) (by kernel_rfl) ?_ ?_
  rotate_left
  · intro w'
    first | (go_simp; done) | (go_simp; with_reducible rfl)
  refine wpAnyG_pureW (i := 24) (v := ?_) rfl (by kernel_rfl) (by kernel_rfl) (by kernel_rfl) (fun _ _ _ h => h) (by kernel_rfl) ?_ ?_
  rotate_left
  · intro w'
    first | (go_simp; done) | (go_simp; with_reducible rfl)
  refine wpAnyG_takeW (i := 25) (v := ?_) rfl (by kernel_rfl) (by kernel_rfl) (by kernel_rfl) (by kernel_rfl) (fun _ _ _ h => h) hS (by kernel_rfl) ?_ ?_
  rotate_left
  · intro w' hSw
    (try dsimp only at hSw)
    first | (go_simp; done) | (go_simp; with_reducible rfl)
  refine wpAnyG_pureW (i := 26) (v := ?_) rfl (by kernel_rfl) (by kernel_rfl) (by kernel_rfl) (fun _ _ _ h => h) (by kernel_rfl) ?_ ?_
  rotate_left
  · intro w'
    first | (go_simp; done) | (go_simp; with_reducible rfl)
  refine wpAnyG_takeW (i := 27) (v := ?_) rfl (by kernel_rfl) (by kernel_rfl) (by kernel_rfl) (by kernel_rfl) (fun _ _ _ h => h) hS (by kernel_rfl) ?_ ?_
  rotate_left
  · intro w' hSw
    (try dsimp only at hSw)
    first | (go_simp; done) | (go_simp; with_reducible rfl)
  refine wpAnyG_pureW (i := 28) (v := .pointer (some ⟨ga, i, none⟩)) rfl (by kernel_rfl) (by kernel_rfl) (by kernel_rfl) (fun _ _ _ h => h) (by kernel_rfl) ?_ ?_
  · intro w'
    go_simp
    first | done | rw [if_pos HIL.out] | (intro h; have := HIL.out; omega)
  refine wpAnyG_takeW (i := 29) (v := ?_) rfl (by kernel_rfl) (by kernel_rfl) (by kernel_rfl) (by kernel_rfl) (fun _ _ _ h => h) hS (by kernel_rfl) ?_ ?_
  rotate_left
  · intro w' hSw
    (try dsimp only at hSw)
    first | (go_simp; done) | (go_simp; with_reducible rfl)
  refine wpAnyG_pureW (i := 30) (v := ?_) rfl (by kernel_rfl) (by kernel_rfl) (by kernel_rfl) (fun _ _ _ h => h) (by kernel_rfl) ?_ ?_
  rotate_left
  · intro w'
    first | (go_simp; done) | (go_simp; with_reducible rfl)
  refine wpAnyG_pureW (i := 31) (v := ?_) rfl (by kernel_rfl) (by kernel_rfl) (by kernel_rfl) (fun _ _ _ h => h) (by kernel_rfl) ?_ ?_
  rotate_left
  · intro w'
    first | (go_simp; done) | (go_simp; with_reducible rfl)
  refine wpAnyG_takeW (i := 32) (v := ?_) rfl (by kernel_rfl) (by kernel_rfl) (by kernel_rfl) (by kernel_rfl) (fun _ _ _ h => h) hS (by kernel_rfl) ?_ ?_
  rotate_left
  · intro w' hSw
    (try dsimp only at hSw)
    first | (go_simp; done) | (go_simp; with_reducible rfl)
  refine wpAnyG_pureW (i := 33) (v := .bool false) rfl (by kernel_rfl) (by kernel_rfl) (by kernel_rfl) (fun _ _ _ h => h) (by kernel_rfl) ?_ ?_
  · intro w'
    go_simp
  refine wpAnyG_pureW (i := 34) (v := ?_) rfl (by kernel_rfl) (by kernel_rfl) (by kernel_rfl) (fun _ _ _ h => h) (by kernel_rfl) ?_ ?_
  rotate_left
  · intro w'
    first | (go_simp; done) | (go_simp; with_reducible rfl)
  clear hS
  refine wpAnyG_done (by kernel_rfl) ?_ _
  go_simp
  generalize hw2 : w1.drew = w2
  have hb2 : Below w1.heap.size w1 w2 := by rw [← hw2]; exact (Below.refl _ _).drew
  have HBW1 : Hid (base ≤ w1.heap.size) := Nat.le_trans HBE.out HB1.out.size
  have HB2 := Lib.hid (HB1.out.trans (hb2.mono HB1.out.size))
  have H2 := Lib.hid (H1.out.next hb2)
  have HN2 := Lib.hid (HN1.out.next hb2)
  have HZ2 := Lib.hid (HZ1.out.next hb2)
  have r5 := cell_be (w := w1) k5 hb2
  have r15 := cell_be (w := w1) q15 hb2
  clear hb2 k5 q15 q2 q1 el hlt0
  try clear hw2
  obtain ⟨w3, hw3⟩ : ∃ w3, w3 = w2.drew := ⟨_, rfl⟩
  have hb3 : Below w2.heap.size w2 w3 := by rw [hw3]; exact (Below.refl _ _).drew
  have HB3 := Lib.hid ((HB2.out.mono HBE.out).trans (hb3.mono (Nat.le_trans HBE.out HB2.out.size)))
  have HL3 := Lib.hid ((Leaves.below HB2.out).trans (Leaves.below hb3))
  have H3 := Lib.hid (H2.out.next hb3)
  have HN3 := Lib.hid (HN2.out.next hb3)
  have HZ3 := Lib.hid (HZ2.out.next hb3)
  have k5 := cell_be (w := w2) r5 hb3
  have k15 := cell_be (w := w2) r15 hb3
  have ho1 := HN3.out.parts.kids
  rw [HK1.out] at ho1
  have HDEL := Lib.hid (deleteI ga x.kids.length c1 i x.kids w3 base ho1 HIL.out)
  have wz : IntKind.i64.wrap ((i : Int) + 1) = (i : Int) + 1 := IntWalk.i64_in _ (by have := HN3.out.parts.ok.kids; have := HIL.out; omega)
  have hgg : g ≠ ga := fun e' => by
    have h1 := own_ne_block (e' := 3) (by decide) H3.out.ed.row (own_block_at ho1 rfl).choose_spec
    exact h1 (by rw [e']; rfl)
  have hbg : ga ≠ w.heap.size := fun e' => by
    have h1 := own_ne_block (e' := 48) (by decide) HKO.out HBX.out
    exact h1 (by rw [e']; rfl)
  clear ho1 hb3
  have HKEEP := Lib.hid (show ∀ W, w3.grownBy W (some ga) → (fun w' : World => w'.cell? ⟨g, m * 6 + 5, none⟩ = some (.slice (some ⟨ga, 0, none⟩) x.kids.length c1) ∧ w'.cell? ⟨w.heap.size, 15, none⟩ = some (.int .i64 (i : Int))) W from fun W hg =>
    ⟨(World.cell?_of_block (a := ⟨g, m * 6 + 5, none⟩) (hg.block g HN3.out.lt (fun e => hgg (by simpa using e)))).trans k5,
      (World.cell?_of_block (a := ⟨w.heap.size, 15, none⟩) (hg.block w.heap.size (World.block_lt_of_cell? w3 _ k15) (fun e => hbg (by simpa using e.symm)))).trans k15⟩)
  have HFREE := Lib.hid (show ∀ W, w3.grownBy W (some ga) → ∀ k, W.frozen? ⟨g, k, none⟩ = false from fun W hg k => (World.frozen?_of_block (a := ⟨g, k, none⟩) (hg.block g HN3.out.lt (fun e => hgg (by simpa using e)))).trans (HN3.out.free _))
  have HKZ := Lib.hid (show ∀ W, w3.grownBy W (some ga) → W.cell? ⟨g, t * 6 + 4, none⟩ = some (.int .i64 z.parent) from fun W hg => (World.cell?_of_block (a := ⟨g, t * 6 + 4, none⟩) (hg.block g HN3.out.lt (fun e => hgg (by simpa using e)))).trans HZ3.out.c4)
  clear hgg hbg
  go_upto_region 4 with fail
  refine wp_region_G (S := fun w' : World => w'.cell? ⟨g, m * 6 + 5, none⟩ = some (.slice (some ⟨ga, 0, none⟩) x.kids.length c1) ∧ w'.cell? ⟨w.heap.size, 15, none⟩ = some (.int .i64 (i : Int))) (T := [14, 17]) (by kernel_rfl) ?_
  rw [← hw3]
  have hS : (fun w' : World => w'.cell? ⟨g, m * 6 + 5, none⟩ = some (.slice (some ⟨ga, 0, none⟩) x.kids.length c1) ∧ w'.cell? ⟨w.heap.size, 15, none⟩ = some (.int .i64 (i : Int))) w3 := ⟨k5, k15⟩
  clear hw3 r5 r15
  refine wpAnyG_pure (i := 0) (v := ?_) rfl (by kernel_rfl) (by kernel_rfl) (by kernel_rfl) (fun _ _ _ h => h) rfl ?_ ?_
  rotate_left
  · intro w'
    first | (go_simp; done) | (go_simp; with_reducible rfl)
  refine wpAnyG_pure (i := 1) (v := ?_) rfl (by kernel_rfl) (by kernel_rfl) (by kernel_rfl) (fun _ _ _ h => h) rfl ?_ ?_
  rotate_left
  · intro w'
    first | (go_simp; done) | (go_simp; with_reducible rfl)
  refine wpAnyG_pure (i := 2) (v := ?_) rfl (by kernel_rfl) (by kernel_rfl) (by kernel_rfl) (fun _ _ _ h => h) rfl ?_ ?_
  rotate_left
  · intro w'
    first | (go_simp; done) | (go_simp; with_reducible rfl)
  refine wpAnyG_pure (i := 3) (v := ?_) rfl (by kernel_rfl) (by kernel_rfl) (by kernel_rfl) (fun _ _ _ h => h) rfl ?_ ?_
  rotate_left
  · intro w'
    first | (go_simp; done) | (go_simp; with_reducible rfl)
  refine wpAnyG_pure (i := 4) (v := ?_) rfl (by kernel_rfl) (by kernel_rfl) (by kernel_rfl) (fun _ _ _ h => h) rfl ?_ ?_
  rotate_left
  · intro w'
    first | (go_simp; done) | (go_simp; with_reducible rfl)
  refine wpAnyG_take (i := 5) (v := ?_) rfl (by kernel_rfl) (by kernel_rfl) (by kernel_rfl) (by kernel_rfl) (fun _ _ _ h => h) hS rfl ?_ ?_
  rotate_left
  · intro w' hSw
    (try dsimp only at hSw)
    first | (go_simp; done) | (go_simp; with_reducible rfl)
  refine wpAnyG_pure (i := 6) (v := ?_) rfl (by kernel_rfl) (by kernel_rfl) (by kernel_rfl) (fun _ _ _ h => h) rfl ?_ ?_
  rotate_left
  · intro w'
    first | (go_simp; done) | (go_simp; with_reducible rfl)
  refine wpAnyG_take (i := 7) (v := ?_) rfl (by kernel_rfl) (by kernel_rfl) (by kernel_rfl) (by kernel_rfl) (fun _ _ _ h => h) hS rfl ?_ ?_
  rotate_left
  · intro w' hSw
    (try dsimp only at hSw)
    first | (go_simp; done) | (go_simp; with_reducible rfl)
  refine wpAnyG_pure (i := 8) (v := ?_) rfl (by kernel_rfl) (by kernel_rfl) (by kernel_rfl) (fun _ _ _ h => h) rfl ?_ ?_
  rotate_left
  · intro w'
    first | (go_simp; done) | (go_simp; with_reducible rfl)
  refine wpAnyG_take (i := 9) (v := ?_) rfl (by kernel_rfl) (by kernel_rfl) (by kernel_rfl) (by kernel_rfl) (fun _ _ _ h => h) hS rfl ?_ ?_
  rotate_left
  · intro w' hSw
    (try dsimp only at hSw)
    first | (go_simp; done) | (go_simp; with_reducible rfl)
  refine wpAnyG_pure (i := 10) (v := ?_) rfl (by kernel_rfl) (by kernel_rfl) (by kernel_rfl) (fun _ _ _ h => h) rfl ?_ ?_
  rotate_left
  · intro w'
    first | (go_simp; done) | (go_simp; with_reducible rfl)
  clear hS
  refine wpAnyG_one (i := 11) (by kernel_rfl) rfl rfl (fun K hK => ?_)
  go_simp
  go_at_call 50
  refine HDEL.out.mono ?_
  rintro e' w4 ⟨rfl, hown4, hg4⟩
  have hk4 := HKEEP.out w4 hg4
  have t5 := hk4.1
  have f4 := HFREE.out w4 hg4
  have tz : (w4.setCell ⟨g, m * 6 + 5, none⟩ (.slice (some ⟨ga, 0, none⟩) (x.kids.length - 1) c1)).cell? ⟨g, t * 6 + 4, none⟩ = some (.int .i64 z.parent) := (World.cell?_setCell_other _ _ _ _ (fun e' => by have e'' := congrArg Addr.off e'; simp at e''; omega)).trans (HKZ.out w4 hg4)
  have HG4 := Lib.hid hg4
  have HO4 := Lib.hid hown4
  clear hown4 hg4 k5 k15
  go_wp2_with fail
  refine hK.out _ _ (fun _ _ => hk4) ?_
  clear hK K
  refine wpAnyG_pure (i := 12) (v := ?_) rfl (by kernel_rfl) (by kernel_rfl) (by kernel_rfl) (fun _ _ _ h => h) rfl ?_ ?_
  rotate_left
  · intro w'
    first | (go_simp; done) | (go_simp; with_reducible rfl)
  refine wpAnyG_pure (i := 13) (v := ?_) rfl (by kernel_rfl) (by kernel_rfl) (by kernel_rfl) (fun _ _ _ h => h) rfl ?_ ?_
  rotate_left
  · intro w'
    first | (go_simp; done) | (go_simp; with_reducible rfl)
  refine wpAnyG_one (i := 14) (by kernel_rfl) rfl rfl (fun K hK => ?_)
  go_simp
  refine hK.out _ _ (fun h => absurd (by decide) h) ?_
  clear hK K
  refine wpAnyG_pure (i := 15) (v := ?_) rfl (by kernel_rfl) (by kernel_rfl) (by kernel_rfl) (fun _ _ _ h => h) rfl ?_ ?_
  rotate_left
  · intro w'
    first | (go_simp; done) | (go_simp; with_reducible rfl)
  refine wpAnyG_pure (i := 16) (v := ?_) rfl (by kernel_rfl) (by kernel_rfl) (by kernel_rfl) (fun _ _ _ h => h) rfl ?_ ?_
  rotate_left
  · intro w'
    first | (go_simp; done) | (go_simp; with_reducible rfl)
  refine wpAnyG_one (i := 17) (by kernel_rfl) rfl rfl (fun K hK => ?_)
  go_simp
  refine hK.out _ _ (fun h => absurd (by decide) h) ?_
  clear hK K
  refine wpAnyG_done (by kernel_rfl) ?_ _
  go_wp2_with fail
  have hlen : (x.kids.eraseIdx i).length = x.kids.length - 1 := by rw [List.length_eraseIdx, if_pos HIL.out]
  have hE3 := H3.out.kids HX.out HP.out (v := .slice (some ⟨ga, 0, none⟩) (x.kids.length - 1) c1) (ks := x.kids.eraseIdx i) (by rw [HK1.out]; exact HG4.out) (by rw [hlen]; exact HO4.out) (Or.inl (by rw [HK1.out]; rfl)) (by rw [hlen]; have := HN3.out.parts.ok.kids; omega)
  have hx3 : (l.set m { x with kids := x.kids.eraseIdx i })[t]? = some z := by rw [List.getElem?_set_ne HNE.out]; exact HZ.out
  have hp3 : (ps.set m (p.1, .slice (some ⟨ga, 0, none⟩) (x.kids.length - 1) c1))[t]? = some pz := by rw [List.getElem?_set_ne HNE.out]; exact HPZ.out
  have hE4 := hE3.plain (y := { z with parent := -1 }) (j := 4) (u := .int .i64 (-1)) hx3 hp3 (by decide) rfl rfl rfl ⟨HZ3.out.parts.ok.kind, HZ3.out.parts.ok.name, HZ3.out.parts.ok.text, (by decide : (Lit.int .i64 (-1)).wf = true), HZ3.out.parts.ok.attrs, HZ3.out.parts.ok.kids⟩
  refine bodyPost_ret (v := .bool true) (by simp [results, Tryz.results36, go_sem]) rfl ⟨rfl, ?_, g, c, ps.set m (p.1, .slice (some ⟨ga, 0, none⟩) (x.kids.length - 1) c1), ?_⟩
  · exact ⟨((HB3.out.grown HG4.out (Nat.le_trans HBE.out HB3.out.size) (fun k hk => by simp at hk; have := HGA.out; omega)).setCell (p := ⟨g, m * 6 + 5, none⟩) HN3.out.low _).setCell (p := ⟨g, t * 6 + 4, none⟩) HN3.out.low _, HL3.out.trans (((Leaves.grown HG4.out fun k hk => near_row HN3.out.parts.kids (Or.inr (Or.inr (Or.inl rfl))) k (by rw [HK1.out]; exact hk)).put H3.out.near _ _).put H3.out.near _ _)⟩
  · exact hE4
end Go.Proofs.YtfeighclpaijoaaGreatDoor
