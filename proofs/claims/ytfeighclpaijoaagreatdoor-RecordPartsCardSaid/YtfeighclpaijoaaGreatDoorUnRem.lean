/-
The walks of package record's undoer: removed.
-/
import Derived.Test.YtfeighclpaijoaaGreatDoorUnText
namespace Go.Proofs.YtfeighclpaijoaaGreatDoor
open Go.RowKit Go.Cl
attribute [local go_sem ↓] Go.wp_at_zero Go.wp_at_succ

set_option maxRecDepth 100000 in
set_option maxHeartbeats 8000000 in
theorem unRem_any (w : World) (E g c base : Nat) (l : List Nd) (q : Bool) (ps : List (Value × Value)) (s : Stp) (Aa : Option Addr) (na ca : Nat) (Ak : Option Addr) (nk ck : Nat) (h : UnAt w E g c base l q ps) (hok : StpOk w (lt base) s Aa na ca Ak nk ck) {m t i : Nat} {x z : Nd} (hpar : s.parent = (t : Int)) (hat : s.edit.at_ = (m : Int)) (hm : 0 < m) (hx : l[m]? = some x) (hxp : x.parent = -1) (hz : l[t]? = some z) (hne : m ≠ t) (hpl : s.place = (i : Int)) (hi : i ≤ z.kids.length) (hfew : z.kids.length + 1 ≤ 1000) :
    Calls Tryz.prog 37 #[.pointer (some ⟨E, 0, none⟩), .agg (stpCells s Aa na ca Ak nk ck)] w (UnPost w E base q ((l.set t { z with kids := z.kids.take i ++ (m : Int) :: z.kids.drop i }).set m { x with parent := (t : Int) })) := by
  obtain ⟨w0, hw0⟩ : ∃ w0, w0 = w.alloc (.cells (stpCells s Aa na ca Ak nk ck) 48) := ⟨_, rfl⟩
  have hbx : w0.heap[w.heap.size]? = some (.cells (stpCells s Aa na ca Ak nk ck) 48 (0, 0)) := by rw [hw0]; exact heap_alloc_new w _
  have hb0 : Below w.heap.size w w0 := by rw [hw0]; exact (Below.refl _ _).alloc (Nat.le_refl _) _
  have hz0 : w0.heap.size = w.heap.size + 1 := by rw [hw0]; exact World.size_alloc w _
  have H0 := Lib.hid (h.next hb0)
  have HB0 := Lib.hid hb0
  have HBX := Lib.hid hbx
  have HZ0 := Lib.hid hz0
  have HBE : Hid (base ≤ w.heap.size) := Nat.le_trans h.le (Nat.le_of_lt h.lt)
  have HOK := Lib.hid hok
  have s1 : w0.cell? ⟨w.heap.size, 1, none⟩ = some (.int .i64 s.edit.at_) := cell_blk hbx rfl
  have s14 : w0.cell? ⟨w.heap.size, 14, none⟩ = some (.int .i64 s.parent) := cell_blk hbx rfl
  have s15 : w0.cell? ⟨w.heap.size, 15, none⟩ = some (.int .i64 s.place) := cell_blk hbx rfl
  unfold stpCells at hw0

  have HNO := Lib.hid (fun k n => quiet_l (unNode_any (w0.drewN k) E g c base l q ps n (H0.out.next (below_dN (Below.refl _ _) k))))
  obtain ⟨p, hp, hnd⟩ := H0.out.node hx
  obtain ⟨pz, hpz, hndz⟩ := H0.out.node hz
  obtain ⟨Ak1, c1, hk1⟩ := Own.form hndz.parts.kids
  have k5 := hndz.c5
  rw [hk1] at k5
  have k4 := hnd.c4
  rw [hxp] at k4
  rw [hat] at s1
  rw [hpar] at s14
  rw [hpl] at s15
  have P1 := Lib.hid (show ptrN g l (t : Int) = .pointer (some ⟨g, t * 6, none⟩) from ptr_some hz)
  have P2 := Lib.hid (show ptrN g l (m : Int) = .pointer (some ⟨g, m * 6, none⟩) from ptr_some hx)
  have hfw := h.ed.few
  have hml : m < l.length := (List.getElem?_eq_some_iff.1 hx).1
  have htl : t < l.length := (List.getElem?_eq_some_iff.1 hz).1
  have HWM : Hid ((Lit.int .i64 (m : Int)).wf = true) := wf_i64 (by omega) (by omega)
  have HWT : Hid ((Lit.int .i64 (t : Int)).wf = true) := wf_i64 (by omega) (by omega)
  have HND := Lib.hid hnd
  have HNZ := Lib.hid hndz
  have HP := Lib.hid hp
  have HPZ := Lib.hid hpz
  have HX := Lib.hid hx
  have HZ := Lib.hid hz
  have HNE := Lib.hid hne
  have HK1 := Lib.hid hk1
  have HI := Lib.hid hi
  have HFEW := Lib.hid hfew
  have HM0 := Lib.hid hm
  have HK5 := Lib.hid k5
  have HK4 := Lib.hid k4
  have HS1 := Lib.hid s1
  have HS14 := Lib.hid s14
  have HS15 := Lib.hid s15
  clear hz0 hok h hp hpz hnd hndz hx hz hat hpar hne hpl hk1 hbx k5 k4 hi hxp hfw hml htl hfew hm
  go_enter Tryz.func37, Tryz.ntmps37
  unfold stpCells
  go_upto_region 1 with fail
  rw [← hw0]
  clear hw0

  clear s15
  go_quiet ((go_at_call 48; exact HNO.out _ _))
  generalize hw1 : w0.drewN _ = w1
  have hb1 : Below w0.heap.size w0 w1 := by rw [← hw1]; exact below_dN (Below.refl _ _) _
  have k5 := cell_be (w := w0) HK5.out hb1
  have k4 := cell_be (w := w0) HK4.out hb1
  have q1 := cell_be (w := w0) HS1.out hb1
  have q14 := cell_be (w := w0) HS14.out hb1
  have q15 := cell_be (w := w0) HS15.out hb1
  have HB1 := Lib.hid (HB0.out.trans (hb1.mono HB0.out.size))
  have H1 := Lib.hid (H0.out.next hb1)
  have HN1 := Lib.hid (HND.out.next hb1)
  have HZ1 := Lib.hid (HNZ.out.next hb1)
  have HBX1 := Lib.hid ((hb1.block w.heap.size (World.block_lt_of_cell? w0 _ HS1.out)).trans HBX.out)
  clear hw1 hb1 s1 s14
  rw [P1.out, P2.out]
  have hlt0 : decide ((i : Int) < 0) = false := decide_eq_false (by omega)
  go_upto_region 2 with fail
  refine wp_region_G (S := fun w' : World => w'.cell? ⟨g, t * 6 + 5, none⟩ = some (.slice Ak1 z.kids.length c1) ∧ w'.cell? ⟨g, m * 6 + 4, none⟩ = some (.int .i64 (-1)) ∧ w'.cell? ⟨w.heap.size, 15, none⟩ = some (.int .i64 (i : Int)) ∧ w'.cell? ⟨w.heap.size, 1, none⟩ = some (.int .i64 (m : Int))) (T := []) (by kernel_rfl) ?_
  have hS : (fun w' : World => w'.cell? ⟨g, t * 6 + 5, none⟩ = some (.slice Ak1 z.kids.length c1) ∧ w'.cell? ⟨g, m * 6 + 4, none⟩ = some (.int .i64 (-1)) ∧ w'.cell? ⟨w.heap.size, 15, none⟩ = some (.int .i64 (i : Int)) ∧ w'.cell? ⟨w.heap.size, 1, none⟩ = some (.int .i64 (m : Int))) w1.drew := ⟨k5, k4, q15, q1⟩
  refine wpAnyG_pureW (i := 0) (v := ?_) rfl (by kernel_rfl) (by kernel_rfl) (by kernel_rfl) (fun _ _ _ h => h) (by kernel_rfl) ?_ ?_
  rotate_left
  · intro w'
    first | (go_simp; done) | (go_simp; with_reducible rfl)
  refine wpAnyG_pureW (i := 1) (v := ?_) rfl (by kernel_rfl) (by kernel_rfl) (by kernel_rfl) (fun _ _ _ h => h) (by kernel_rfl) ?_ ?_
  rotate_left
  · intro w'
    first | (go_simp; done) | (go_simp; with_reducible rfl)
  refine wpAnyG_pureW (i := 2) (v := ?_) rfl (by kernel_rfl) (by kernel_rfl) (by kernel_rfl) (fun _ _ _ h => h) (by kernel_rfl) ?_ ?_
  rotate_left
  · intro w'
    first | (go_simp; done) | (go_simp; with_reducible rfl)
  refine wpAnyG_pureW (i := 3) (v := ?_) rfl (by kernel_rfl) (by kernel_rfl) (by kernel_rfl) (fun _ _ _ h => h) (by kernel_rfl) ?_ ?_
  rotate_left
  · intro w'
    first | (go_simp; done) | (go_simp; with_reducible rfl)
  refine wpAnyG_pureW (i := 4) (v := ?_) rfl (by kernel_rfl) (by kernel_rfl) (by kernel_rfl) (fun _ _ _ h => h) (by kernel_rfl) ?_ ?_
  rotate_left
  · intro w'
    first | (go_simp; done) | (go_simp; with_reducible rfl)
  refine wpAnyG_pureW (i := 5) (v := ?_) rfl (by kernel_rfl) (by kernel_rfl) (by kernel_rfl) (fun _ _ _ h => h) (by kernel_rfl) ?_ ?_
  rotate_left
  · intro w'
    first | (go_simp; done) | (go_simp; with_reducible rfl)
  refine wpAnyG_pureW (i := 6) (v := ?_) rfl (by kernel_rfl) (by kernel_rfl) (by kernel_rfl) (fun _ _ _ h => h) (by kernel_rfl) ?_ ?_
  rotate_left
  · intro w'
    first | (go_simp; done) | (go_simp; with_reducible rfl)
  refine wpAnyG_pureW (i := 7) (v := ?_) rfl (by kernel_rfl) (by kernel_rfl) (by kernel_rfl) (fun _ _ _ h => h) (by kernel_rfl) ?_ ?_
  rotate_left
  · intro w'
    first | (go_simp; done) | (go_simp; with_reducible rfl)
  refine wpAnyG_pureW (i := 8) (v := ?_) rfl (by kernel_rfl) (by kernel_rfl) (by kernel_rfl) (fun _ _ _ h => h) (by kernel_rfl) ?_ ?_
  rotate_left
  · intro w'
    first | (go_simp; done) | (go_simp; with_reducible rfl)
  refine wpAnyG_takeW (i := 9) (v := ?_) rfl (by kernel_rfl) (by kernel_rfl) (by kernel_rfl) (by kernel_rfl) (fun _ _ _ h => h) hS (by kernel_rfl) ?_ ?_
  rotate_left
  · intro w' hSw
    (try dsimp only at hSw)
    first | (go_simp; done) | (go_simp; with_reducible rfl)
  refine wpAnyG_pureW (i := 10) (v := .bool false) rfl (by kernel_rfl) (by kernel_rfl) (by kernel_rfl) (fun _ _ _ h => h) (by kernel_rfl) ?_ ?_
  · intro w'
    go_simp
    first | done | (have := HM0.out; omega)
  refine wpAnyG_pureW (i := 11) (v := ?_) rfl (by kernel_rfl) (by kernel_rfl) (by kernel_rfl) (fun _ _ _ h => h) (by kernel_rfl) ?_ ?_
  rotate_left
  · intro w'
    first | (go_simp; done) | (go_simp; with_reducible rfl)
  refine wpAnyG_pureW (i := 12) (v := ?_) rfl (by kernel_rfl) (by kernel_rfl) (by kernel_rfl) (fun _ _ _ h => h) (by kernel_rfl) ?_ ?_
  rotate_left
  · intro w'
    first | (go_simp; done) | (go_simp; with_reducible rfl)
  refine wpAnyG_pureW (i := 13) (v := ?_) rfl (by kernel_rfl) (by kernel_rfl) (by kernel_rfl) (fun _ _ _ h => h) (by kernel_rfl) ?_ ?_
  rotate_left
  · intro w'
    first | (go_simp; done) | (go_simp; with_reducible rfl)
  refine wpAnyG_pureW (i := 14) (v := ?_) rfl (by kernel_rfl) (by kernel_rfl) (by kernel_rfl) (fun _ _ _ h => h) (by kernel_rfl) ?_ ?_
  rotate_left
  · intro w'
    first | (go_simp; done) | (go_simp; with_reducible rfl)
  refine wpAnyG_pureW (i := 15) (v := ?_) rfl (by kernel_rfl) (by kernel_rfl) (by kernel_rfl) (fun _ _ _ h => h) (by kernel_rfl) ?_ ?_
  rotate_left
  · intro w'
    first | (go_simp; done) | (go_simp; with_reducible rfl)
  refine wpAnyG_takeW (i := 16) (v := ?_) rfl (by kernel_rfl) (by kernel_rfl) (by kernel_rfl) (by kernel_rfl) (fun _ _ _ h => h) hS (by kernel_rfl) ?_ ?_
  rotate_left
  · intro w' hSw
    (try dsimp only at hSw)
    first | (go_simp; done) | (go_simp; with_reducible rfl)
  refine wpAnyG_pureW (i := 17) (v := ?_) rfl (by kernel_rfl) (by kernel_rfl) (by kernel_rfl) (fun _ _ _ h => h) (by kernel_rfl) ?_ ?_
  rotate_left
  · intro w'
    first | (go_simp; done) | (go_simp; with_reducible rfl)
  refine wpAnyG_pureW (i := 18) (v := ?_) rfl (by kernel_rfl) (by kernel_rfl) (by kernel_rfl) (fun _ _ _ h => h) (by kernel_rfl) ?_ ?_
  rotate_left
  · intro w'
    first | (go_simp; done) | (go_simp; with_reducible rfl)
  refine wpAnyG_pureW (i := 19) (v := ?_) rfl (by kernel_rfl) (by kernel_rfl) (by kernel_rfl) (fun _ _ _ h => h) (by kernel_rfl) ?_ ?_
  rotate_left
  · intro w'
    first | (go_simp; done) | (go_simp; with_reducible rfl)
  refine wpAnyG_pureW (i := 20) (v := ?_) rfl (by kernel_rfl) (by kernel_rfl) (by kernel_rfl) (fun _ _ _ h => h) (by kernel_rfl) ?_ ?_
  rotate_left
  · intro w'
    first | (go_simp; done) | (go_simp; with_reducible rfl)
  refine wpAnyG_takeW (i := 21) (v := ?_) rfl (by kernel_rfl) (by kernel_rfl) (by kernel_rfl) (by kernel_rfl) (fun _ _ _ h => h) hS (by kernel_rfl) ?_ ?_
  rotate_left
  · intro w' hSw
    (try dsimp only at hSw)
    first | (go_simp; done) | (go_simp; with_reducible rfl)
  refine wpAnyG_pureW (i := 22) (v := ?_) rfl (by kernel_rfl) (by kernel_rfl) (by kernel_rfl) (fun _ _ _ h => h) (by kernel_rfl) ?_ ?_
  rotate_left
  · intro w'
    first | (go_simp; done) | (go_simp; with_reducible rfl)
  refine wpAnyG_pureW (i := 23) (v := ?_) rfl (by kernel_rfl) (by kernel_rfl) (by kernel_rfl) (fun _ _ _ h => h) (by kernel_rfl) ?_ ?_
  rotate_left
  · intro w'
    first | (go_simp; done) | (go_simp; with_reducible rfl)
  refine wpAnyG_pureW (i := 24) (v := ?_) rfl (by kernel_rfl) (by kernel_rfl) (by kernel_rfl) (fun _ _ _ h => h) (by kernel_rfl) ?_ ?_
  rotate_left
  · intro w'
    first | (go_simp; done) | (go_simp; with_reducible rfl)
  refine wpAnyG_pureW (i := 25) (v := ?_) rfl (by kernel_rfl) (by kernel_rfl) (by kernel_rfl) (fun _ _ _ h => h) (by kernel_rfl) ?_ ?_
  rotate_left
  · intro w'
    first | (go_simp; done) | (go_simp; with_reducible rfl)
  refine wpAnyG_takeW (i := 26) (v := ?_) rfl (by kernel_rfl) (by kernel_rfl) (by kernel_rfl) (by kernel_rfl) (fun _ _ _ h => h) hS (by kernel_rfl) ?_ ?_
  rotate_left
  · intro w' hSw
    (try dsimp only at hSw)
    first | (go_simp; done) | (go_simp; with_reducible rfl)
  refine wpAnyG_pureW (i := 27) (v := ?_) rfl (by kernel_rfl) (by kernel_rfl) (by kernel_rfl) (fun _ _ _ h => h) (by kernel_rfl) ?_ ?_
  rotate_left
  · intro w'
    first | (go_simp; done) | (go_simp; with_reducible rfl)
  refine wpAnyG_pureW (i := 28) (v := ?_) rfl (by kernel_rfl) (by kernel_rfl) (by kernel_rfl) (fun _ _ _ h => h) (by kernel_rfl) ?_ ?_
  rotate_left
  · intro w'
    first | (go_simp; done) | (go_simp; with_reducible rfl)
  refine wpAnyG_pureW (i := 29) (v := ?_) rfl (by kernel_rfl) (by kernel_rfl) (by kernel_rfl) (fun _ _ _ h => h) (by kernel_rfl) ?_ ?_
  rotate_left
  · intro w'
    first | (go_simp; done) | (go_simp; with_reducible rfl)
  refine wpAnyG_takeW (i := 30) (v := ?_) rfl (by kernel_rfl) (by kernel_rfl) (by kernel_rfl) (by kernel_rfl) (fun _ _ _ h => h) hS (by kernel_rfl) ?_ ?_
  rotate_left
  · intro w' hSw
    (try dsimp only at hSw)
    first | (go_simp; done) | (go_simp; with_reducible rfl)
  refine wpAnyG_pureW (i := 31) (v := ?_) rfl (by kernel_rfl) (by kernel_rfl) (by kernel_rfl) (fun _ _ _ h => h) (by kernel_rfl) ?_ ?_
  rotate_left
  · intro w'
    first | (go_simp; done) | (go_simp; with_reducible rfl)
  refine wpAnyG_pureW (i := 32) (v := .bool false) rfl (by kernel_rfl) (by kernel_rfl) (by kernel_rfl) (fun _ _ _ h => h) (by kernel_rfl) ?_ ?_
  · intro w'
    go_simp
    first | done | (exact HI.out)
  refine wpAnyG_pureW (i := 33) (v := ?_) rfl (by kernel_rfl) (by kernel_rfl) (by kernel_rfl) (fun _ _ _ h => h) (by kernel_rfl) ?_ ?_
  rotate_left
  · intro w'
    first | (go_simp; done) | (go_simp; with_reducible rfl)
  clear hS
  refine wpAnyG_done (by kernel_rfl) ?_ _
  go_simp
  generalize hw2 : w1.drew = w2
  have hb2 : Below w1.heap.size w1 w2 := by rw [← hw2]; exact (Below.refl _ _).drew
  have HB2 := Lib.hid (HB1.out.trans (hb2.mono HB1.out.size))
  have H2 := Lib.hid (H1.out.next hb2)
  have HN2 := Lib.hid (HN1.out.next hb2)
  have HZ2 := Lib.hid (HZ1.out.next hb2)
  have r5 := cell_be (w := w1) k5 hb2
  have r15 := cell_be (w := w1) q15 hb2
  have r1 := cell_be (w := w1) q1 hb2
  have r14 := cell_be (w := w1) q14 hb2
  have HBX2 := Lib.hid ((hb2.block w.heap.size (World.block_lt_of_cell? w1 _ q1)).trans HBX1.out)
  clear hb2 k5 k4 q15 q14 q1 hlt0
  try clear hw2
  obtain ⟨w3, hw3⟩ : ∃ w3, w3 = (w2.alloc (.cells #[.int .i64 (m : Int)] 3)).drew := ⟨_, rfl⟩
  have hx3 : w3.heap[w2.heap.size]? = some (.cells #[.int .i64 (m : Int)] 3 (0, 0)) := by rw [hw3]; exact heap_alloc_new w2 _
  have hb3 : Below w2.heap.size w2 w3 := by rw [hw3]; exact ((Below.refl _ w2).alloc (Nat.le_refl _) _).drew
  have HB3 := Lib.hid ((HB2.out.mono HBE.out).trans (hb3.mono (Nat.le_trans HBE.out HB2.out.size)))
  have HL3 := Lib.hid ((Leaves.below HB2.out).trans (Leaves.below hb3))
  have H3 := Lib.hid (H2.out.next hb3)
  have HN3 := Lib.hid (HN2.out.next hb3)
  have HZ3 := Lib.hid (HZ2.out.next hb3)
  have k5 := cell_be (w := w2) r5 hb3
  have k15 := cell_be (w := w2) r15 hb3
  have k1 := cell_be (w := w2) r1 hb3
  have k14 := cell_be (w := w2) r14 hb3
  have HBX3 := Lib.hid ((hb3.block w.heap.size (World.block_lt_of_cell? w2 _ r1)).trans HBX2.out)
  have ho3 := HZ3.out.parts.kids
  rw [HK1.out] at ho3
  have hlow : ∀ j, (Value.slice Ak1 z.kids.length c1).ownBlock = some j → j < w2.heap.size := by
    have h1 := HZ2.out.parts.kids
    rw [HK1.out] at h1
    exact fun j hj => (Own.lt h1 j hj).2
  have HINS := Lib.hid (insertI Ak1 z.kids.length c1 i z.kids (m : Int) w2.heap.size w3 base ho3 HI.out (by have := HFEW.out; omega) (Nat.le_trans HBE.out (Nat.le_trans HB2.out.size hb3.size)) HWM.out hx3 (fun e => by have := hlow _ e; omega))
  have hgg : (Value.slice Ak1 z.kids.length c1).ownBlock ≠ some g := fun e => by
    have h1 := own_ne (by decide) ho3 H3.out.ed.row
    rw [e] at h1
    rcases h1 with h1 | h1
    · cases h1
    · exact h1 rfl
  have hbg : (Value.slice Ak1 z.kids.length c1).ownBlock ≠ some w.heap.size := own_ne_block (by decide) ho3 HBX3.out
  have hgb : g ≠ w.heap.size := fun e => own_ne_block (e' := 48) (by decide) H3.out.ed.row HBX3.out (by rw [e]; rfl)
  clear hlow hb3 hx3
  have HKEEP := Lib.hid (show ∀ W, w3.grownBy W (Value.slice Ak1 z.kids.length c1).ownBlock → (fun w' : World => w'.cell? ⟨w.heap.size, 15, none⟩ = some (.int .i64 (i : Int)) ∧ w'.cell? ⟨w.heap.size, 1, none⟩ = some (.int .i64 (m : Int)) ∧ w'.cell? ⟨w.heap.size, 14, none⟩ = some (.int .i64 (t : Int))) W from fun W hg =>
    ⟨(World.cell?_of_block (a := ⟨w.heap.size, 15, none⟩) (hg.block w.heap.size (World.block_lt_of_cell? w3 _ k15) (fun e => hbg e.symm))).trans k15,
      (World.cell?_of_block (a := ⟨w.heap.size, 1, none⟩) (hg.block w.heap.size (World.block_lt_of_cell? w3 _ k15) (fun e => hbg e.symm))).trans k1,
      (World.cell?_of_block (a := ⟨w.heap.size, 14, none⟩) (hg.block w.heap.size (World.block_lt_of_cell? w3 _ k15) (fun e => hbg e.symm))).trans k14⟩)
  have HK5W := Lib.hid (show ∀ W, w3.grownBy W (Value.slice Ak1 z.kids.length c1).ownBlock → W.cell? ⟨g, t * 6 + 5, none⟩ = some (.slice Ak1 z.kids.length c1) from fun W hg => (World.cell?_of_block (a := ⟨g, t * 6 + 5, none⟩) (hg.block g HN3.out.lt (fun e => hgg e.symm))).trans k5)
  have HFREE := Lib.hid (show ∀ W, w3.grownBy W (Value.slice Ak1 z.kids.length c1).ownBlock → ∀ k, W.frozen? ⟨g, k, none⟩ = false from fun W hg k => (World.frozen?_of_block (a := ⟨g, k, none⟩) (hg.block g HN3.out.lt (fun e => hgg e.symm))).trans (HN3.out.free _))
  have HKX := Lib.hid (show ∀ W, w3.grownBy W (Value.slice Ak1 z.kids.length c1).ownBlock → W.cell? ⟨g, m * 6 + 4, none⟩ = some (.int .i64 x.parent) from fun W hg => (World.cell?_of_block (a := ⟨g, m * 6 + 4, none⟩) (hg.block g HN3.out.lt (fun e => hgg e.symm))).trans HN3.out.c4)
  have HSET := Lib.hid (show ∀ (W : World) (k : Nat) (v : Value), (fun w' : World => w'.cell? ⟨w.heap.size, 15, none⟩ = some (.int .i64 (i : Int)) ∧ w'.cell? ⟨w.heap.size, 1, none⟩ = some (.int .i64 (m : Int)) ∧ w'.cell? ⟨w.heap.size, 14, none⟩ = some (.int .i64 (t : Int))) W → (fun w' : World => w'.cell? ⟨w.heap.size, 15, none⟩ = some (.int .i64 (i : Int)) ∧ w'.cell? ⟨w.heap.size, 1, none⟩ = some (.int .i64 (m : Int)) ∧ w'.cell? ⟨w.heap.size, 14, none⟩ = some (.int .i64 (t : Int))) (W.setCell ⟨g, k, none⟩ v) from fun W k v hW =>
    ⟨(World.cell?_setCell_other _ _ _ _ (fun e => hgb (congrArg Addr.block e))).trans hW.1, (World.cell?_setCell_other _ _ _ _ (fun e => hgb (congrArg Addr.block e))).trans hW.2.1, (World.cell?_setCell_other _ _ _ _ (fun e => hgb (congrArg Addr.block e))).trans hW.2.2⟩)
  have HHK : Hid ((fun w' : World => w'.cell? ⟨w.heap.size, 15, none⟩ = some (.int .i64 (i : Int)) ∧ w'.cell? ⟨w.heap.size, 1, none⟩ = some (.int .i64 (m : Int)) ∧ w'.cell? ⟨w.heap.size, 14, none⟩ = some (.int .i64 (t : Int))) w3) := ⟨k15, k1, k14⟩
  have HKZ5 := Lib.hid k5
  clear hgg hbg hgb ho3 k5 k15 k1 k14
  go_upto_region 4 with fail
  refine wp_region_G (S := fun w' : World => w'.cell? ⟨w.heap.size, 15, none⟩ = some (.int .i64 (i : Int)) ∧ w'.cell? ⟨w.heap.size, 1, none⟩ = some (.int .i64 (m : Int)) ∧ w'.cell? ⟨w.heap.size, 14, none⟩ = some (.int .i64 (t : Int))) (T := []) (by kernel_rfl) ?_
  have hS : (fun w' : World => w'.cell? ⟨w.heap.size, 15, none⟩ = some (.int .i64 (i : Int)) ∧ w'.cell? ⟨w.heap.size, 1, none⟩ = some (.int .i64 (m : Int)) ∧ w'.cell? ⟨w.heap.size, 14, none⟩ = some (.int .i64 (t : Int))) w2.drew := ⟨r15, r1, r14⟩
  refine wpAnyG_pure (i := 0) (v := ?_) rfl (by kernel_rfl) (by kernel_rfl) (by kernel_rfl) (fun _ _ _ h => h) rfl ?_ ?_
  rotate_left
  · intro w'
    first | (go_simp; done) | (go_simp; with_reducible rfl)
  refine wpAnyG_pure (i := 1) (v := ?_) rfl (by kernel_rfl) (by kernel_rfl) (by kernel_rfl) (fun _ _ _ h => h) rfl ?_ ?_
  rotate_left
  · intro w'
    first | (go_simp; done) | (go_simp; with_reducible rfl)
  refine wpAnyG_pure (i := 2) (v := ?_) rfl (by kernel_rfl) (by kernel_rfl) (by kernel_rfl) (fun _ _ _ h => h) rfl ?_ ?_
  rotate_left
  · intro w'
    first | (go_simp; done) | (go_simp; with_reducible rfl)
  refine wpAnyG_pure (i := 3) (v := ?_) rfl (by kernel_rfl) (by kernel_rfl) (by kernel_rfl) (fun _ _ _ h => h) rfl ?_ ?_
  rotate_left
  · intro w'
    first | (go_simp; done) | (go_simp; with_reducible rfl)
  refine wpAnyG_pure (i := 4) (v := ?_) rfl (by kernel_rfl) (by kernel_rfl) (by kernel_rfl) (fun _ _ _ h => h) rfl ?_ ?_
  rotate_left
  · intro w'
    first | (go_simp; done) | (go_simp; with_reducible rfl)
  refine wpAnyG_pure (i := 6) (v := ?_) rfl (by kernel_rfl) (by kernel_rfl) (by kernel_rfl) (fun _ _ _ h => h) rfl ?_ ?_
  rotate_left
  · intro w'
    first | (go_simp; done) | (go_simp; with_reducible rfl)
  refine wpAnyG_take (i := 7) (v := ?_) rfl (by kernel_rfl) (by kernel_rfl) (by kernel_rfl) (by kernel_rfl) (fun _ _ _ h => h) hS rfl ?_ ?_
  rotate_left
  · intro w' hSw
    (try dsimp only at hSw)
    first | (go_simp; done) | (go_simp; with_reducible rfl)
  refine wpAnyG_pure (i := 8) (v := ?_) rfl (by kernel_rfl) (by kernel_rfl) (by kernel_rfl) (fun _ _ _ h => h) rfl ?_ ?_
  rotate_left
  · intro w'
    first | (go_simp; done) | (go_simp; with_reducible rfl)
  refine wpAnyG_pure (i := 9) (v := ?_) rfl (by kernel_rfl) (by kernel_rfl) (by kernel_rfl) (fun _ _ _ h => h) rfl ?_ ?_
  rotate_left
  · intro w'
    first | (go_simp; done) | (go_simp; with_reducible rfl)
  refine wpAnyG_take (i := 10) (v := ?_) rfl (by kernel_rfl) (by kernel_rfl) (by kernel_rfl) (by kernel_rfl) (fun _ _ _ h => h) hS rfl ?_ ?_
  rotate_left
  · intro w' hSw
    (try dsimp only at hSw)
    first | (go_simp; done) | (go_simp; with_reducible rfl)
  refine wpAnyG_pure (i := 13) (v := ?_) rfl (by kernel_rfl) (by kernel_rfl) (by kernel_rfl) (fun _ _ _ h => h) rfl ?_ ?_
  rotate_left
  · intro w'
    first | (go_simp; done) | (go_simp; with_reducible rfl)
  refine wpAnyG_take (i := 14) (v := ?_) rfl (by kernel_rfl) (by kernel_rfl) (by kernel_rfl) (by kernel_rfl) (fun _ _ _ h => h) hS rfl ?_ ?_
  rotate_left
  · intro w' hSw
    (try dsimp only at hSw)
    first | (go_simp; done) | (go_simp; with_reducible rfl)
  refine wpAnyG_two (i := 5) (j := 11) (by kernel_rfl) rfl rfl rfl rfl (fun K hK => ?_) (fun K hK => ?_)
  · go_simp
    refine hK.out _ _ (fun _ h => h) ?_
    clear hK K
    refine wpAnyG_one (i := 11) (by kernel_rfl) rfl rfl (fun K hK => ?_)
    go_simp
    rw [← hw3]
    refine hK.out _ _ (fun _ _ => HHK.out) ?_
    clear hK K hS hw3
    refine wpAnyG_one (i := 12) (by kernel_rfl) rfl rfl (fun K hK => ?_)
    go_simp
    go_at_call 51
    refine HINS.out.mono ?_
    rintro e' w4 ⟨v', rfl, hown4, hg4, hv4⟩
    obtain ⟨A4, c4, rfl⟩ := Own.form hown4
    have hk4 := HKEEP.out w4 hg4
    have t5 := HK5W.out w4 hg4
    have f4 := HFREE.out w4 hg4
    have tz : (w4.setCell ⟨g, t * 6 + 5, none⟩ (.slice A4 (z.kids.length + 1) c4)).cell? ⟨g, m * 6 + 4, none⟩ = some (.int .i64 x.parent) := (World.cell?_setCell_other _ _ _ _ (fun e' => by have e'' := congrArg Addr.off e'; simp at e''; omega)).trans (HKX.out w4 hg4)
    have HG4 := Lib.hid hg4
    have HO4 := Lib.hid hown4
    have HV4 := Lib.hid hv4
    have HHK4 := Lib.hid hk4
    clear hown4 hg4 hv4 hk4
    go_wp2_with fail
    refine hK.out _ _ (fun _ _ => HHK4.out) ?_
    clear hK K
    refine wpAnyG_pure (i := 15) (v := ?_) rfl (by kernel_rfl) (by kernel_rfl) (by kernel_rfl) (fun _ _ _ h => h) rfl ?_ ?_
    rotate_left
    · intro w'
      first | (go_simp; done) | (go_simp; with_reducible rfl)
    refine wpAnyG_pure (i := 16) (v := ?_) rfl (by kernel_rfl) (by kernel_rfl) (by kernel_rfl) (fun _ _ _ h => h) rfl ?_ ?_
    rotate_left
    · intro w'
      first | (go_simp; done) | (go_simp; with_reducible rfl)
    refine wpAnyG_one (i := 17) (by kernel_rfl) rfl rfl (fun K hK => ?_)
    go_simp
    refine hK.out _ _ (fun _ _ => HSET.out _ _ _ HHK4.out) ?_
    clear hK K
    refine wpAnyG_pure (i := 18) (v := ?_) rfl (by kernel_rfl) (by kernel_rfl) (by kernel_rfl) (fun _ _ _ h => h) rfl ?_ ?_
    rotate_left
    · intro w'
      first | (go_simp; done) | (go_simp; with_reducible rfl)
    refine wpAnyG_pure (i := 19) (v := ?_) rfl (by kernel_rfl) (by kernel_rfl) (by kernel_rfl) (fun _ _ _ h => h) rfl ?_ ?_
    rotate_left
    · intro w'
      first | (go_simp; done) | (go_simp; with_reducible rfl)
    refine wpAnyG_one (i := 20) (by kernel_rfl) rfl rfl (fun K hK => ?_)
    go_simp
    refine hK.out _ _ (fun _ _ => HSET.out _ _ _ (HSET.out _ _ _ HHK4.out)) ?_
    clear hK K
    refine wpAnyG_done (by kernel_rfl) ?_ _
    go_wp2_with fail
    have hlen : (z.kids.take i ++ (m : Int) :: z.kids.drop i).length = z.kids.length + 1 := by
      rw [List.perm_middle.length_eq, List.take_append_drop, List.length_cons]
    have hE3 := H3.out.kids HZ.out HPZ.out (w1 := w4) (v := .slice A4 (z.kids.length + 1) c4) (ks := z.kids.take i ++ (m : Int) :: z.kids.drop i) (by rw [HK1.out]; exact HG4.out) (by rw [hlen]; exact HO4.out) (by rw [HK1.out]; exact HV4.out.imp id fun e => ⟨_, e, Nat.le_refl _⟩) (by rw [hlen]; exact HFEW.out)
    have hx3 : (l.set t { z with kids := z.kids.take i ++ (m : Int) :: z.kids.drop i })[m]? = some x := by rw [List.getElem?_set_ne (fun e => HNE.out e.symm)]; exact HX.out
    have hp3 : (ps.set t (pz.1, .slice A4 (z.kids.length + 1) c4))[m]? = some p := by rw [List.getElem?_set_ne (fun e => HNE.out e.symm)]; exact HP.out
    have hE4 := hE3.plain (y := { x with parent := (t : Int) }) (j := 4) (u := .int .i64 (t : Int)) hx3 hp3 (by decide) rfl rfl rfl ⟨HN3.out.parts.ok.kind, HN3.out.parts.ok.name, HN3.out.parts.ok.text, HWT.out, HN3.out.parts.ok.attrs, HN3.out.parts.ok.kids⟩
    refine bodyPost_ret (v := .bool true) (by simp [results, Tryz.results37, go_sem]) rfl ⟨rfl, ?_, g, c, ps.set t (pz.1, .slice A4 (z.kids.length + 1) c4), ?_⟩
    · refine ⟨((HB3.out.grown HG4.out (Nat.le_trans HBE.out HB3.out.size) (fun k hk => ?_)).setCell (p := ⟨g, t * 6 + 5, none⟩) HN3.out.low _).setCell (p := ⟨g, m * 6 + 4, none⟩) HN3.out.low _, HL3.out.trans (((Leaves.grown HG4.out fun k hk => near_row HZ3.out.parts.kids (Or.inr (Or.inr (Or.inl rfl))) k (by rw [HK1.out]; exact hk)).put H3.out.near _ _).put H3.out.near _ _)⟩
      have h1 := HZ3.out.parts.kids
      rw [HK1.out] at h1
      exact (Own.lt h1 k hk).1
    · exact hE4
  · go_simp
    rw [← hw3]
    refine hK.out _ _ (fun _ _ => HHK.out) ?_
    clear hK K hS hw3
    have k5 := HKZ5.out
    refine wpAnyG_one (i := 5) (by kernel_rfl) rfl rfl (fun K hK => ?_)
    go_simp
    refine hK.out _ _ (fun _ h => h) ?_
    clear hK K k5
    refine wpAnyG_one (i := 12) (by kernel_rfl) rfl rfl (fun K hK => ?_)
    go_simp
    go_at_call 51
    refine HINS.out.mono ?_
    rintro e' w4 ⟨v', rfl, hown4, hg4, hv4⟩
    obtain ⟨A4, c4, rfl⟩ := Own.form hown4
    have hk4 := HKEEP.out w4 hg4
    have t5 := HK5W.out w4 hg4
    have f4 := HFREE.out w4 hg4
    have tz : (w4.setCell ⟨g, t * 6 + 5, none⟩ (.slice A4 (z.kids.length + 1) c4)).cell? ⟨g, m * 6 + 4, none⟩ = some (.int .i64 x.parent) := (World.cell?_setCell_other _ _ _ _ (fun e' => by have e'' := congrArg Addr.off e'; simp at e''; omega)).trans (HKX.out w4 hg4)
    have HG4 := Lib.hid hg4
    have HO4 := Lib.hid hown4
    have HV4 := Lib.hid hv4
    have HHK4 := Lib.hid hk4
    clear hown4 hg4 hv4 hk4
    go_wp2_with fail
    refine hK.out _ _ (fun _ _ => HHK4.out) ?_
    clear hK K
    refine wpAnyG_pure (i := 15) (v := ?_) rfl (by kernel_rfl) (by kernel_rfl) (by kernel_rfl) (fun _ _ _ h => h) rfl ?_ ?_
    rotate_left
    · intro w'
      first | (go_simp; done) | (go_simp; with_reducible rfl)
    refine wpAnyG_pure (i := 16) (v := ?_) rfl (by kernel_rfl) (by kernel_rfl) (by kernel_rfl) (fun _ _ _ h => h) rfl ?_ ?_
    rotate_left
    · intro w'
      first | (go_simp; done) | (go_simp; with_reducible rfl)
    refine wpAnyG_one (i := 17) (by kernel_rfl) rfl rfl (fun K hK => ?_)
    go_simp
    refine hK.out _ _ (fun _ _ => HSET.out _ _ _ HHK4.out) ?_
    clear hK K
    refine wpAnyG_pure (i := 18) (v := ?_) rfl (by kernel_rfl) (by kernel_rfl) (by kernel_rfl) (fun _ _ _ h => h) rfl ?_ ?_
    rotate_left
    · intro w'
      first | (go_simp; done) | (go_simp; with_reducible rfl)
    refine wpAnyG_pure (i := 19) (v := ?_) rfl (by kernel_rfl) (by kernel_rfl) (by kernel_rfl) (fun _ _ _ h => h) rfl ?_ ?_
    rotate_left
    · intro w'
      first | (go_simp; done) | (go_simp; with_reducible rfl)
    refine wpAnyG_one (i := 20) (by kernel_rfl) rfl rfl (fun K hK => ?_)
    go_simp
    refine hK.out _ _ (fun _ _ => HSET.out _ _ _ (HSET.out _ _ _ HHK4.out)) ?_
    clear hK K
    refine wpAnyG_done (by kernel_rfl) ?_ _
    go_wp2_with fail
    have hlen : (z.kids.take i ++ (m : Int) :: z.kids.drop i).length = z.kids.length + 1 := by
      rw [List.perm_middle.length_eq, List.take_append_drop, List.length_cons]
    have hE3 := H3.out.kids HZ.out HPZ.out (w1 := w4) (v := .slice A4 (z.kids.length + 1) c4) (ks := z.kids.take i ++ (m : Int) :: z.kids.drop i) (by rw [HK1.out]; exact HG4.out) (by rw [hlen]; exact HO4.out) (by rw [HK1.out]; exact HV4.out.imp id fun e => ⟨_, e, Nat.le_refl _⟩) (by rw [hlen]; exact HFEW.out)
    have hx3 : (l.set t { z with kids := z.kids.take i ++ (m : Int) :: z.kids.drop i })[m]? = some x := by rw [List.getElem?_set_ne (fun e => HNE.out e.symm)]; exact HX.out
    have hp3 : (ps.set t (pz.1, .slice A4 (z.kids.length + 1) c4))[m]? = some p := by rw [List.getElem?_set_ne (fun e => HNE.out e.symm)]; exact HP.out
    have hE4 := hE3.plain (y := { x with parent := (t : Int) }) (j := 4) (u := .int .i64 (t : Int)) hx3 hp3 (by decide) rfl rfl rfl ⟨HN3.out.parts.ok.kind, HN3.out.parts.ok.name, HN3.out.parts.ok.text, HWT.out, HN3.out.parts.ok.attrs, HN3.out.parts.ok.kids⟩
    refine bodyPost_ret (v := .bool true) (by simp [results, Tryz.results37, go_sem]) rfl ⟨rfl, ?_, g, c, ps.set t (pz.1, .slice A4 (z.kids.length + 1) c4), ?_⟩
    · refine ⟨((HB3.out.grown HG4.out (Nat.le_trans HBE.out HB3.out.size) (fun k hk => ?_)).setCell (p := ⟨g, t * 6 + 5, none⟩) HN3.out.low _).setCell (p := ⟨g, m * 6 + 4, none⟩) HN3.out.low _, HL3.out.trans (((Leaves.grown HG4.out fun k hk => near_row HZ3.out.parts.kids (Or.inr (Or.inr (Or.inl rfl))) k (by rw [HK1.out]; exact hk)).put H3.out.near _ _).put H3.out.near _ _)⟩
      have h1 := HZ3.out.parts.kids
      rw [HK1.out] at h1
      exact (Own.lt h1 k hk).1
    · exact hE4
end Go.Proofs.YtfeighclpaijoaaGreatDoor
