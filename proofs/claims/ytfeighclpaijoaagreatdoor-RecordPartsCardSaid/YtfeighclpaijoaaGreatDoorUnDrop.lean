/-
The walks of package record's undoer: dropped.
-/
import Derived.Test.YtfeighclpaijoaaGreatDoorUnText
namespace Go.Proofs.YtfeighclpaijoaaGreatDoor
open Go.RowKit Go.Cl
attribute [local go_sem ↓] Go.wp_at_zero Go.wp_at_succ

set_option maxRecDepth 100000 in
set_option maxHeartbeats 8000000 in
theorem unDrop_any (w : World) (E g c base : Nat) (l : List Nd) (q : Bool) (ps : List (Value × Value)) (s : Stp) (Aa : Option Addr) (na ca : Nat) (Ak : Option Addr) (nk ck : Nat) (h : UnAt w E g c base l q ps) (hok : StpOk w (lt base) s Aa na ca Ak nk ck) {m i : Nat} {x : Nd} (hat : s.edit.at_ = (m : Int)) (hx : l[m]? = some x) (hk : x.kind = 2) (hpl : s.place = (i : Int)) (hi : i ≤ x.attrs.length) (hf : findA x.attrs s.edit.name = -1) (h12 : x.attrs.length + 1 ≤ 12) :
    Calls Tryz.prog 33 #[.pointer (some ⟨E, 0, none⟩), .agg (stpCells s Aa na ca Ak nk ck)] w (UnPost w E base q (l.set m { x with attrs := x.attrs.take i ++ (s.edit.name, s.was) :: x.attrs.drop i })) := by
  obtain ⟨w0, hw0⟩ : ∃ w0, w0 = w.alloc (.cells (stpCells s Aa na ca Ak nk ck) 48) := ⟨_, rfl⟩
  have hbx : w0.heap[w.heap.size]? = some (.cells (stpCells s Aa na ca Ak nk ck) 48 (0, 0)) := by rw [hw0]; exact heap_alloc_new w _
  have hb0 : Below w.heap.size w w0 := by rw [hw0]; exact (Below.refl _ _).alloc (Nat.le_refl _) _
  have hz0 : w0.heap.size = w.heap.size + 1 := by rw [hw0]; exact World.size_alloc w _
  have H0 := Lib.hid (h.next hb0)
  have HB0 := Lib.hid hb0
  have HBX := Lib.hid hbx
  have HZ0 := Lib.hid hz0
  have HBE : Hid (base ≤ w.heap.size) := Nat.le_trans h.le (Nat.le_of_lt h.lt)
  have HOK := Lib.hid hok
  have s1 : w0.cell? ⟨w.heap.size, 1, none⟩ = some (.int .i64 s.edit.at_) := cell_blk hbx rfl
  have s4 : w0.cell? ⟨w.heap.size, 4, none⟩ = some (.string s.edit.name) := cell_blk hbx rfl
  have s13 : w0.cell? ⟨w.heap.size, 13, none⟩ = some (.string s.was) := cell_blk hbx rfl
  have s15 : w0.cell? ⟨w.heap.size, 15, none⟩ = some (.int .i64 s.place) := cell_blk hbx rfl
  unfold stpCells at hw0

  have HNO := Lib.hid (unNode_any w0 E g c base l q ps s.edit.at_ H0.out)
  obtain ⟨p, hp, hnd⟩ := H0.out.node hx
  obtain ⟨Aat, ca1, hat1⟩ := Own.form hnd.parts.attrs
  have hown := hnd.parts.attrs
  rw [hat1] at hown
  obtain ⟨A1, c1, e1, hsl⟩ := OwnF.sl hown (by decide) (by show x.attrs.length * 32 ≤ _; omega)
  injection e1 with e1 _ e3
  subst e1 e3
  have k2 := hnd.c2
  have k0 := hnd.c0
  rw [hat1] at k2
  rw [hk] at k0
  rw [hat, ptr_some hx] at HNO
  rw [hat] at s1
  rw [hpl] at s15
  have HPL := Lib.hid (place_any Aat x.attrs.length ca1 x.attrs s.edit.name w0.drew w0.heap.size hsl.drew (Nat.le_refl _))
  rw [hf] at HPL
  have HND := Lib.hid hnd
  have HP := Lib.hid hp
  have HX := Lib.hid hx
  have HAT := Lib.hid hat1
  have H12 := Lib.hid h12
  have hlt : decide ((x.attrs.length : Int) < (i : Int)) = false := decide_eq_false (by omega)
  have hlt0 : decide ((i : Int) < 0) = false := decide_eq_false (by omega)
  have HI : Hid (i ≤ x.attrs.length) := hi
  have HGN : Hid (g < w0.heap.size) := hnd.lt
  have HBXL : Hid (w.heap.size < w0.heap.size) := by rw [HZ0.out]; exact Nat.lt_succ_self _
  clear hz0 hok h hp hnd hx hat hf hat1 hown hsl h12 hk hpl hi hbx
  go_enter Tryz.func33, Tryz.ntmps33
  unfold stpCells
  go_upto_region 1 with fail
  rw [← hw0]
  clear hw0

  go_upto_region 2 with (go_at_call 48; refine HNO.out.mono ?_; rintro e w1 ⟨rfl, rfl⟩)
  refine wp_region_G (S := fun w' : World => w'.cell? ⟨g, m * 6, none⟩ = some (.int .i64 2) ∧ w'.cell? ⟨g, m * 6 + 2, none⟩ = some (.slice Aat x.attrs.length ca1) ∧ w'.cell? ⟨w.heap.size, 4, none⟩ = some (.string s.edit.name) ∧ w'.cell? ⟨w.heap.size, 15, none⟩ = some (.int .i64 (i : Int)) ∧ w'.cell? ⟨w.heap.size, 13, none⟩ = some (.string s.was)) (T := []) (by kernel_rfl) ?_
  have hS : (fun w' : World => w'.cell? ⟨g, m * 6, none⟩ = some (.int .i64 2) ∧ w'.cell? ⟨g, m * 6 + 2, none⟩ = some (.slice Aat x.attrs.length ca1) ∧ w'.cell? ⟨w.heap.size, 4, none⟩ = some (.string s.edit.name) ∧ w'.cell? ⟨w.heap.size, 15, none⟩ = some (.int .i64 (i : Int)) ∧ w'.cell? ⟨w.heap.size, 13, none⟩ = some (.string s.was)) w0.drew := ⟨k0, k2, s4, s15, s13⟩
  refine wpAnyG_pureW (i := 0) (v := ?_) rfl (by kernel_rfl) (by kernel_rfl) (by kernel_rfl) (fun _ _ _ h => h) (by kernel_rfl) ?_ ?_
  rotate_left
  · intro w'
    first | (go_simp; done) | (go_simp; with_reducible rfl)
  refine wpAnyG_pureW (i := 1) (v := ?_) rfl (by kernel_rfl) (by kernel_rfl) (by kernel_rfl) (fun _ _ _ h => h) (by kernel_rfl) ?_ ?_
  rotate_left
  · intro w'
    first | (go_simp; done) | (go_simp; with_reducible rfl)
  refine wpAnyG_pureW (i := 2) (v := ?_) rfl (by kernel_rfl) (by kernel_rfl) (by kernel_rfl) (fun _ _ _ h => h) (by kernel_rfl) ?_ ?_
  rotate_left
  · intro w'
    first | (go_simp; done) | (go_simp; with_reducible rfl)
  refine wpAnyG_pureW (i := 3) (v := ?_) rfl (by kernel_rfl) (by kernel_rfl) (by kernel_rfl) (fun _ _ _ h => h) (by kernel_rfl) ?_ ?_
  rotate_left
  · intro w'
    first | (go_simp; done) | (go_simp; with_reducible rfl)
  refine wpAnyG_pureW (i := 4) (v := ?_) rfl (by kernel_rfl) (by kernel_rfl) (by kernel_rfl) (fun _ _ _ h => h) (by kernel_rfl) ?_ ?_
  rotate_left
  · intro w'
    first | (go_simp; done) | (go_simp; with_reducible rfl)
  refine wpAnyG_pureW (i := 5) (v := ?_) rfl (by kernel_rfl) (by kernel_rfl) (by kernel_rfl) (fun _ _ _ h => h) (by kernel_rfl) ?_ ?_
  rotate_left
  · intro w'
    first | (go_simp; done) | (go_simp; with_reducible rfl)
  refine wpAnyG_takeW (i := 6) (v := ?_) rfl (by kernel_rfl) (by kernel_rfl) (by kernel_rfl) (by kernel_rfl) (fun _ _ _ h => h) hS (by kernel_rfl) ?_ ?_
  rotate_left
  · intro w' hSw
    (try dsimp only at hSw)
    first | (go_simp; done) | (go_simp; with_reducible rfl)
  refine wpAnyG_pureW (i := 7) (v := ?_) rfl (by kernel_rfl) (by kernel_rfl) (by kernel_rfl) (fun _ _ _ h => h) (by kernel_rfl) ?_ ?_
  rotate_left
  · intro w'
    first | (go_simp; done) | (go_simp; with_reducible rfl)
  refine wpAnyG_pureW (i := 8) (v := ?_) rfl (by kernel_rfl) (by kernel_rfl) (by kernel_rfl) (fun _ _ _ h => h) (by kernel_rfl) ?_ ?_
  rotate_left
  · intro w'
    first | (go_simp; done) | (go_simp; with_reducible rfl)
  refine wpAnyG_pureW (i := 9) (v := ?_) rfl (by kernel_rfl) (by kernel_rfl) (by kernel_rfl) (fun _ _ _ h => h) (by kernel_rfl) ?_ ?_
  rotate_left
  · intro w'
    first | (go_simp; done) | (go_simp; with_reducible rfl)
  refine wpAnyG_pureW (i := 10) (v := ?_) rfl (by kernel_rfl) (by kernel_rfl) (by kernel_rfl) (fun _ _ _ h => h) (by kernel_rfl) ?_ ?_
  rotate_left
  · intro w'
    first | (go_simp; done) | (go_simp; with_reducible rfl)
  refine wpAnyG_takeW (i := 11) (v := ?_) rfl (by kernel_rfl) (by kernel_rfl) (by kernel_rfl) (by kernel_rfl) (fun _ _ _ h => h) hS (by kernel_rfl) ?_ ?_
  rotate_left
  · intro w' hSw
    (try dsimp only at hSw)
    first | (go_simp; done) | (go_simp; with_reducible rfl)
  refine wpAnyG_pureW (i := 12) (v := ?_) rfl (by kernel_rfl) (by kernel_rfl) (by kernel_rfl) (fun _ _ _ h => h) (by kernel_rfl) ?_ ?_
  rotate_left
  · intro w'
    first | (go_simp; done) | (go_simp; with_reducible rfl)
  refine wpAnyG_pureW (i := 13) (v := ?_) rfl (by kernel_rfl) (by kernel_rfl) (by kernel_rfl) (fun _ _ _ h => h) (by kernel_rfl) ?_ ?_
  rotate_left
  · intro w'
    first | (go_simp; done) | (go_simp; with_reducible rfl)
  refine wpAnyG_pureW (i := 14) (v := ?_) rfl (by kernel_rfl) (by kernel_rfl) (by kernel_rfl) (fun _ _ _ h => h) (by kernel_rfl) ?_ ?_
  rotate_left
  · intro w'
    first | (go_simp; done) | (go_simp; with_reducible rfl)
  refine wpAnyG_pureW (i := 15) (v := ?_) rfl (by kernel_rfl) (by kernel_rfl) (by kernel_rfl) (fun _ _ _ h => h) (by kernel_rfl) ?_ ?_
  rotate_left
  · intro w'
    first | (go_simp; done) | (go_simp; with_reducible rfl)
  refine wpAnyG_takeW (i := 16) (v := ?_) rfl (by kernel_rfl) (by kernel_rfl) (by kernel_rfl) (by kernel_rfl) (fun _ _ _ h => h) hS (by kernel_rfl) ?_ ?_
  rotate_left
  · intro w' hSw
    (try dsimp only at hSw)
    first | (go_simp; done) | (go_simp; with_reducible rfl)
  refine wpAnyG_pureW (i := 17) (v := ?_) rfl (by kernel_rfl) (by kernel_rfl) (by kernel_rfl) (fun _ _ _ h => h) (by kernel_rfl) ?_ ?_
  rotate_left
  · intro w'
    first | (go_simp; done) | (go_simp; with_reducible rfl)
  refine wpAnyG_pureW (i := 18) (v := ?_) rfl (by kernel_rfl) (by kernel_rfl) (by kernel_rfl) (fun _ _ _ h => h) (by kernel_rfl) ?_ ?_
  rotate_left
  · intro w'
    first | (go_simp; done) | (go_simp; with_reducible rfl)
  refine wpAnyG_pureW (i := 19) (v := ?_) rfl (by kernel_rfl) (by kernel_rfl) (by kernel_rfl) (fun _ _ _ h => h) (by kernel_rfl) ?_ ?_
  rotate_left
  · intro w'
    first | (go_simp; done) | (go_simp; with_reducible rfl)
  refine wpAnyG_takeW (i := 20) (v := ?_) rfl (by kernel_rfl) (by kernel_rfl) (by kernel_rfl) (by kernel_rfl) (fun _ _ _ h => h) hS (by kernel_rfl) ?_ ?_
  rotate_left
  · intro w' hSw
    (try dsimp only at hSw)
    first | (go_simp; done) | (go_simp; with_reducible rfl)
  refine wpAnyG_pureW (i := 21) (v := ?_) rfl (by kernel_rfl) (by kernel_rfl) (by kernel_rfl) (fun _ _ _ h => h) (by kernel_rfl) ?_ ?_
  rotate_left
  · intro w'
    first | (go_simp; done) | (go_simp; with_reducible rfl)
  refine wpAnyG_pureW (i := 22) (v := .bool false) rfl (by kernel_rfl) (by kernel_rfl) (by kernel_rfl) (fun _ _ _ h => h) (by kernel_rfl) ?_ ?_
  · intro w'
    go_simp
    first | done | exact HI.out
  refine wpAnyG_pureW (i := 23) (v := ?_) rfl (by kernel_rfl) (by kernel_rfl) (by kernel_rfl) (fun _ _ _ h => h) (by kernel_rfl) ?_ ?_
  rotate_left
  · intro w'
    first | (go_simp; done) | (go_simp; with_reducible rfl)
  refine wpAnyG_pureW (i := 24) (v := ?_) rfl (by kernel_rfl) (by kernel_rfl) (by kernel_rfl) (fun _ _ _ h => h) (by kernel_rfl) ?_ ?_
  rotate_left
  · intro w'
    first | (go_simp; done) | (go_simp; with_reducible rfl)
  refine wpAnyG_pureW (i := 25) (v := ?_) rfl (by kernel_rfl) (by kernel_rfl) (by kernel_rfl) (fun _ _ _ h => h) (by kernel_rfl) ?_ ?_
  rotate_left
  · intro w'
    first | (go_simp; done) | (go_simp; with_reducible rfl)
  refine wpAnyG_pureW (i := 26) (v := ?_) rfl (by kernel_rfl) (by kernel_rfl) (by kernel_rfl) (fun _ _ _ h => h) (by kernel_rfl) ?_ ?_
  rotate_left
  · intro w'
    first | (go_simp; done) | (go_simp; with_reducible rfl)
  refine wpAnyG_pureW (i := 27) (v := ?_) rfl (by kernel_rfl) (by kernel_rfl) (by kernel_rfl) (fun _ _ _ h => h) (by kernel_rfl) ?_ ?_
  rotate_left
  · intro w'
    first | (go_simp; done) | (go_simp; with_reducible rfl)
  refine wpAnyG_takeW (i := 28) (v := ?_) rfl (by kernel_rfl) (by kernel_rfl) (by kernel_rfl) (by kernel_rfl) (fun _ _ _ h => h) hS (by kernel_rfl) ?_ ?_
  rotate_left
  · intro w' hSw
    (try dsimp only at hSw)
    first | (go_simp; done) | (go_simp; with_reducible rfl)
  refine wpAnyG_pureW (i := 29) (v := ?_) rfl (by kernel_rfl) (by kernel_rfl) (by kernel_rfl) (fun _ _ _ h => h) (by kernel_rfl) ?_ ?_
  rotate_left
  · intro w'
    first | (go_simp; done) | (go_simp; with_reducible rfl)
  refine wpAnyG_pureW (i := 30) (v := ?_) rfl (by kernel_rfl) (by kernel_rfl) (by kernel_rfl) (fun _ _ _ h => h) (by kernel_rfl) ?_ ?_
  rotate_left
  · intro w'
    first | (go_simp; done) | (go_simp; with_reducible rfl)
  refine wpAnyG_takeW (i := 31) (v := ?_) rfl (by kernel_rfl) (by kernel_rfl) (by kernel_rfl) (by kernel_rfl) (fun _ _ _ h => h) hS (by kernel_rfl) ?_ ?_
  rotate_left
  · intro w' hSw
    (try dsimp only at hSw)
    first | (go_simp; done) | (go_simp; with_reducible rfl)
  refine wpAnyG_oneW (i := 32) (by kernel_rfl) rfl (by kernel_rfl) (fun K hK => ?_)
  go_simp
  go_at_call 47
  refine HPL.out.mono ?_
  rintro e' w2 ⟨rfl, hb2⟩
  have r0 := cell_be (w := w0.drew) k0 hb2
  have r2 := cell_be (w := w0.drew) k2 hb2
  have r4 := cell_be (w := w0.drew) s4 hb2
  have r15 := cell_be (w := w0.drew) s15 hb2
  have r13 := cell_be (w := w0.drew) s13 hb2
  go_wp2_with fail
  refine hK.out _ _ (fun _ _ => ⟨r0, r2, r4, r15, r13⟩) ?_
  clear hK K hS
  refine wpAnyG_pureW (i := 33) (v := ?_) rfl (by kernel_rfl) (by kernel_rfl) (by kernel_rfl) (fun _ _ _ h => h) (by kernel_rfl) ?_ ?_
  rotate_left
  · intro w'
    first | (go_simp; done) | (go_simp; with_reducible rfl)
  refine wpAnyG_pureW (i := 34) (v := ?_) rfl (by kernel_rfl) (by kernel_rfl) (by kernel_rfl) (fun _ _ _ h => h) (by kernel_rfl) ?_ ?_
  rotate_left
  · intro w'
    first | (go_simp; done) | (go_simp; with_reducible rfl)
  refine wpAnyG_done (by kernel_rfl) ?_ _
  have hb02 : Below w0.heap.size w0 w2 := ((Below.refl _ w0).drew).trans hb2
  have H2 := Lib.hid (H0.out.next hb02)
  have HN2 := Lib.hid (HND.out.next hb02)
  have HB2 := Lib.hid (HB0.out.trans (hb02.mono HB0.out.size))
  have HBX2 := Lib.hid ((hb02.block w.heap.size HBXL.out).trans HBX.out)
  have h0 : (0 : Int) ≤ (i : Int) := by omega
  clear hb02 hb2 k0 k2 s1 s4 s13 s15 HPL HNO r0 hlt hlt0
  go_upto_region 4 with fail
  obtain ⟨w3, hw3⟩ : ∃ w3, w3 = (w2.alloc (.cells #[.string s.edit.name, .string s.was] 66)).drew := ⟨_, rfl⟩
  have hx3 : w3.heap[w2.heap.size]? = some (.cells #[.string s.edit.name, .string s.was] 66 (0, 0)) := by rw [hw3]; exact heap_alloc_new w2 _
  have hb3 : Below w2.heap.size w2 w3 := by rw [hw3]; exact ((Below.refl _ w2).alloc (Nat.le_refl _) _).drew
  have H3 := Lib.hid (H2.out.next hb3)
  have HN3 := Lib.hid (HN2.out.next hb3)
  have hown3 : OwnF tDA w3 base 66 (.slice Aat x.attrs.length ca1) x.attrs.length x.attrs := by
    have h1 := HN3.out.parts.attrs
    rw [HAT.out] at h1
    exact h1
  have hlow : ∀ j, (Value.slice Aat x.attrs.length ca1).ownBlock = some j → j < w2.heap.size := by
    have h1 := HN2.out.parts.attrs
    rw [HAT.out] at h1
    exact fun j hj => (Own.lt h1 j hj).2
  have HINS := Lib.hid (insertA_any (.slice Aat x.attrs.length ca1) x.attrs.length i x.attrs (s.edit.name, s.was) w2.heap.size w3 base hown3 HI.out (by have := H12.out; omega) HOK.out.edit.name HOK.out.was hx3 (fun e => by have := hlow _ e; omega) (Nat.le_trans HBE.out (Nat.le_trans HB2.out.size hb3.size)))
  have HB3 := Lib.hid (HB2.out.trans (hb3.mono HB2.out.size))
  have q2 := cell_be r2 hb3
  have q4 := cell_be r4 hb3
  have q15 := cell_be r15 hb3
  have q13 := cell_be r13 hb3
  have hn1 : (Value.slice Aat x.attrs.length ca1).ownBlock ≠ some g := fun e => by
    have h1 := own_ne (by decide) hown3 H3.out.ed.row
    rw [e] at h1
    rcases h1 with h1 | h1
    · cases h1
    · exact h1 rfl
  have hn2 : (Value.slice Aat x.attrs.length ca1).ownBlock ≠ some w.heap.size := own_ne_block (by decide) hown3 ((hb3.block w.heap.size (Array.getElem?_eq_some_iff.1 HBX2.out).1).trans HBX2.out)
  have HKEEP := Lib.hid (show ∀ W, w3.grownBy W (Value.slice Aat x.attrs.length ca1).ownBlock → (fun w' : World => w'.cell? ⟨g, m * 6 + 2, none⟩ = some (.slice Aat x.attrs.length ca1) ∧ w'.cell? ⟨w.heap.size, 4, none⟩ = some (.string s.edit.name) ∧ w'.cell? ⟨w.heap.size, 15, none⟩ = some (.int .i64 (i : Int)) ∧ w'.cell? ⟨w.heap.size, 13, none⟩ = some (.string s.was)) W from fun W hg =>
    ⟨(World.cell?_of_block (a := ⟨g, m * 6 + 2, none⟩) (hg.block g HN3.out.lt (fun e => hn1 e.symm))).trans q2,
      (World.cell?_of_block (a := ⟨w.heap.size, 4, none⟩) (hg.block w.heap.size (World.block_lt_of_cell? w3 _ q4) (fun e => hn2 e.symm))).trans q4,
      (World.cell?_of_block (a := ⟨w.heap.size, 15, none⟩) (hg.block w.heap.size (World.block_lt_of_cell? w3 _ q4) (fun e => hn2 e.symm))).trans q15,
      (World.cell?_of_block (a := ⟨w.heap.size, 13, none⟩) (hg.block w.heap.size (World.block_lt_of_cell? w3 _ q4) (fun e => hn2 e.symm))).trans q13⟩)
  have HFREE := Lib.hid (show ∀ W, w3.grownBy W (Value.slice Aat x.attrs.length ca1).ownBlock → W.frozen? ⟨g, m * 6 + 2, none⟩ = false from fun W hg => (World.frozen?_of_block (a := ⟨g, m * 6 + 2, none⟩) (hg.block g HN3.out.lt (fun e => hn1 e.symm))).trans (HN3.out.free _))
  have HX3 := Lib.hid hx3
  clear hx3 hb3 hown3 hlow hn1 hn2
  refine wp_region_G (S := fun w' : World => w'.cell? ⟨g, m * 6 + 2, none⟩ = some (.slice Aat x.attrs.length ca1) ∧ w'.cell? ⟨w.heap.size, 4, none⟩ = some (.string s.edit.name) ∧ w'.cell? ⟨w.heap.size, 15, none⟩ = some (.int .i64 (i : Int)) ∧ w'.cell? ⟨w.heap.size, 13, none⟩ = some (.string s.was)) (T := [17]) (by kernel_rfl) ?_
  have hS : (fun w' : World => w'.cell? ⟨g, m * 6 + 2, none⟩ = some (.slice Aat x.attrs.length ca1) ∧ w'.cell? ⟨w.heap.size, 4, none⟩ = some (.string s.edit.name) ∧ w'.cell? ⟨w.heap.size, 15, none⟩ = some (.int .i64 (i : Int)) ∧ w'.cell? ⟨w.heap.size, 13, none⟩ = some (.string s.was)) w2.drew := ⟨r2, r4, r15, r13⟩
  refine wpAnyG_pure (i := 0) (v := ?_) rfl (by kernel_rfl) (by kernel_rfl) (by kernel_rfl) (fun _ _ _ h => h) rfl ?_ ?_
  rotate_left
  · intro w'
    first | (go_simp; done) | (go_simp; with_reducible rfl)
  refine wpAnyG_pure (i := 1) (v := ?_) rfl (by kernel_rfl) (by kernel_rfl) (by kernel_rfl) (fun _ _ _ h => h) rfl ?_ ?_
  rotate_left
  · intro w'
    first | (go_simp; done) | (go_simp; with_reducible rfl)
  refine wpAnyG_pure (i := 2) (v := ?_) rfl (by kernel_rfl) (by kernel_rfl) (by kernel_rfl) (fun _ _ _ h => h) rfl ?_ ?_
  rotate_left
  · intro w'
    first | (go_simp; done) | (go_simp; with_reducible rfl)
  refine wpAnyG_pure (i := 3) (v := ?_) rfl (by kernel_rfl) (by kernel_rfl) (by kernel_rfl) (fun _ _ _ h => h) rfl ?_ ?_
  rotate_left
  · intro w'
    first | (go_simp; done) | (go_simp; with_reducible rfl)
  refine wpAnyG_take (i := 4) (v := ?_) rfl (by kernel_rfl) (by kernel_rfl) (by kernel_rfl) (by kernel_rfl) (fun _ _ _ h => h) hS rfl ?_ ?_
  rotate_left
  · intro w' hSw
    (try dsimp only at hSw)
    first | (go_simp; done) | (go_simp; with_reducible rfl)
  refine wpAnyG_pure (i := 5) (v := ?_) rfl (by kernel_rfl) (by kernel_rfl) (by kernel_rfl) (fun _ _ _ h => h) rfl ?_ ?_
  rotate_left
  · intro w'
    first | (go_simp; done) | (go_simp; with_reducible rfl)
  refine wpAnyG_take (i := 6) (v := ?_) rfl (by kernel_rfl) (by kernel_rfl) (by kernel_rfl) (by kernel_rfl) (fun _ _ _ h => h) hS rfl ?_ ?_
  rotate_left
  · intro w' hSw
    (try dsimp only at hSw)
    first | (go_simp; done) | (go_simp; with_reducible rfl)
  refine wpAnyG_pure (i := 7) (v := ?_) rfl (by kernel_rfl) (by kernel_rfl) (by kernel_rfl) (fun _ _ _ h => h) rfl ?_ ?_
  rotate_left
  · intro w'
    first | (go_simp; done) | (go_simp; with_reducible rfl)
  refine wpAnyG_pure (i := 8) (v := ?_) rfl (by kernel_rfl) (by kernel_rfl) (by kernel_rfl) (fun _ _ _ h => h) rfl ?_ ?_
  rotate_left
  · intro w'
    first | (go_simp; done) | (go_simp; with_reducible rfl)
  refine wpAnyG_take (i := 9) (v := ?_) rfl (by kernel_rfl) (by kernel_rfl) (by kernel_rfl) (by kernel_rfl) (fun _ _ _ h => h) hS rfl ?_ ?_
  rotate_left
  · intro w' hSw
    (try dsimp only at hSw)
    first | (go_simp; done) | (go_simp; with_reducible rfl)
  refine wpAnyG_pure (i := 10) (v := ?_) rfl (by kernel_rfl) (by kernel_rfl) (by kernel_rfl) (fun _ _ _ h => h) rfl ?_ ?_
  rotate_left
  · intro w'
    first | (go_simp; done) | (go_simp; with_reducible rfl)
  refine wpAnyG_take (i := 11) (v := ?_) rfl (by kernel_rfl) (by kernel_rfl) (by kernel_rfl) (by kernel_rfl) (fun _ _ _ h => h) hS rfl ?_ ?_
  rotate_left
  · intro w' hSw
    (try dsimp only at hSw)
    first | (go_simp; done) | (go_simp; with_reducible rfl)
  refine wpAnyG_pure (i := 12) (v := ?_) rfl (by kernel_rfl) (by kernel_rfl) (by kernel_rfl) (fun _ _ _ h => h) rfl ?_ ?_
  rotate_left
  · intro w'
    first | (go_simp; done) | (go_simp; with_reducible rfl)
  refine wpAnyG_one (i := 13) (by kernel_rfl) rfl rfl (fun K hK => ?_)
  go_simp
  rw [← hw3]
  refine hK.out _ _ (fun _ _ => ⟨q2, q4, q15, q13⟩) ?_
  clear hK K hS hw3
  refine wpAnyG_one (i := 14) (by kernel_rfl) rfl rfl (fun K hK => ?_)
  go_simp
  go_at_call 49
  refine HINS.out.mono ?_
  rintro e' w4 ⟨v', rfl, hown4, hg4, hv4⟩
  obtain ⟨A4, c4, rfl⟩ := Own.form hown4
  have hk4 := HKEEP.out w4 hg4
  have t2 := hk4.1
  have f2 := HFREE.out w4 hg4
  have HG4 := Lib.hid hg4
  have HO4 := Lib.hid hown4
  have HV4 := Lib.hid hv4
  clear hown4 hg4 hv4
  go_wp2_with fail
  refine hK.out _ _ (fun _ _ => hk4) ?_
  clear hK K
  refine wpAnyG_pure (i := 15) (v := ?_) rfl (by kernel_rfl) (by kernel_rfl) (by kernel_rfl) (fun _ _ _ h => h) rfl ?_ ?_
  rotate_left
  · intro w'
    first | (go_simp; done) | (go_simp; with_reducible rfl)
  refine wpAnyG_pure (i := 16) (v := ?_) rfl (by kernel_rfl) (by kernel_rfl) (by kernel_rfl) (fun _ _ _ h => h) rfl ?_ ?_
  rotate_left
  · intro w'
    first | (go_simp; done) | (go_simp; with_reducible rfl)
  refine wpAnyG_one (i := 17) (by kernel_rfl) rfl rfl (fun K hK => ?_)
  go_simp
  refine hK.out _ _ (fun h => absurd (by decide) h) ?_
  clear hK K
  refine wpAnyG_done (by kernel_rfl) ?_ _
  go_wp2_with fail
  refine bodyPost_ret (v := .bool true) (by simp [results, Tryz.results33, go_sem]) rfl ⟨rfl, ?_, g, c, ps.set m (.slice A4 (x.attrs.length + 1) c4, p.2), ?_⟩
  · refine ⟨((HB3.out.mono HBE.out).grown HG4.out (Nat.le_trans HBE.out HB3.out.size) (fun k hk => ?_)).setCell (p := ⟨g, m * 6 + 2, none⟩) HND.out.low _, (Leaves.below HB3.out).trans ((Leaves.grown HG4.out fun k hk => near_row HN3.out.parts.attrs (Or.inr (Or.inl rfl)) k (by rw [HAT.out]; exact hk)).put H3.out.near _ _)⟩
    have h1 := HN3.out.parts.attrs
    rw [HAT.out] at h1
    exact (Own.lt h1 k hk).1
  · have hlen : (x.attrs.take i ++ (s.edit.name, s.was) :: x.attrs.drop i).length = x.attrs.length + 1 := by
      rw [List.perm_middle.length_eq, List.take_append_drop, List.length_cons]
    refine H3.out.attrs HX.out HP.out (w1 := w4) ?_ (by rw [hlen]; exact HO4.out) ?_ (by rw [hlen]; exact H12.out)
    · rw [HAT.out]; exact HG4.out
    · rw [HAT.out]; exact HV4.out
end Go.Proofs.YtfeighclpaijoaaGreatDoor
