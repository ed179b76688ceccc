/-
Patches: the walk of patchBegun, its own operations.
-/
import Derived.Test.YtomleengbnfikaaDoorPatBegun
namespace Go.Proofs.YtomleengbnfikaaDoor
open Go.RowKit Go.Cl
attribute [local go_sem ↓] Go.wp_at_zero Go.wp_at_succ

set_option maxRecDepth 100000 in
set_option maxHeartbeats 4000000 in
theorem patchBegun_any (w : World) : Calls Tryd.prog 6 #[] w fun e w' => e = .returned (.bool true) ∧ Below w.heap.size w w' := by
  obtain ⟨w1, hw1⟩ : ∃ w1, w1 = w.alloc (.cells #[.int .i64 1] 3) := ⟨_, rfl⟩
  have z1 : w1.heap.size = w.heap.size + 1 := by rw [hw1]; exact World.size_alloc w _
  obtain ⟨w2, hw2⟩ : ∃ w2, w2 = w1.alloc (.cells #[.int .i64 1, .string ⟨#[]⟩, .slice none 0 0, .string ⟨#[]⟩, .int .i64 (-1), .slice (some ⟨w.heap.size, 0, none⟩) 1 1, .int .i64 4, .string ⟨#[]⟩, .slice none 0 0, .string (⟨#[99]⟩ : ByteArray), .int .i64 0, .slice none 0 0] 28) := ⟨_, rfl⟩
  have z2 : w2.heap.size = w.heap.size + 1 + 1 := by rw [hw2, World.size_alloc, z1]
  obtain ⟨w3, hw3⟩ : ∃ w3, w3 = w2.alloc (.cells #[.slice (some ⟨w.heap.size + 1, 0, none⟩) 2 2, .bool false] 24) := ⟨_, rfl⟩
  have hs1 : Sl (tInt .i64) w1 (lt w1.heap.size) (some ⟨w.heap.size, 0, none⟩) 1 1 [1] := by rw [z1, hw1]; exact ints_one (by decide)
  have hs2 : Sl tNd w2 (lt (w.heap.size + 1 + 1)) (some ⟨w.heap.size + 1, 0, none⟩) 2 2 pbegA := by
    have h := Sl.fresh (n := 2) (w := w1) (B := w1.heap.size) 28 (T := tNd) (xs := pbegA) ⟨ndCells ⟨1, ⟨#[]⟩, [], ⟨#[]⟩, -1, [1]⟩ none 0 0 (some ⟨w.heap.size, 0, none⟩) 1 1, _, rfl, nd_rep ⟨Sl.nil, hs1, by decide, by decide, by decide, by decide⟩, ndCells ⟨4, ⟨#[]⟩, [], (⟨#[99]⟩ : ByteArray), 0, []⟩ none 0 0 none 0 0, [], rfl, nd_rep ⟨Sl.nil, Sl.nil, by decide, by decide, by decide, by decide⟩, rfl⟩ (Nat.le_refl _) rfl (by decide)
    rw [hw2, ← z1]
    exact h
  have hN2 : w2.heap[w.heap.size + 1]? = some (.cells #[.int .i64 1, .string ⟨#[]⟩, .slice none 0 0, .string ⟨#[]⟩, .int .i64 (-1), .slice (some ⟨w.heap.size, 0, none⟩) 1 1, .int .i64 4, .string ⟨#[]⟩, .slice none 0 0, .string (⟨#[99]⟩ : ByteArray), .int .i64 0, .slice none 0 0] 28 (0, 0)) := by rw [hw2, ← z1]; exact heap_alloc_new w1 _
  have hb02 : Below w.heap.size w w2 := by rw [hw2, hw1]; exact balloc3 (balloc3 (Below.refl _ _) _) _
  have hb23 : Below w2.heap.size w2 w3 := by rw [hw3]; exact balloc3 (Below.refl _ _) _
  have z3 : w3.heap.size = w.heap.size + 1 + 1 + 1 := by rw [hw3, World.size_alloc, z2]
  have hb03 := hb02.trans (hb23.mono hb02.size)
  have hx3 : w3.heap[w.heap.size + 1 + 1]? = some (.cells #[.slice (some ⟨w.heap.size + 1, 0, none⟩) 2 2, .bool false] 24 (0, 0)) := by rw [hw3, ← z2]; exact heap_alloc_new w2 _
  have hs3 := hs2.below hb23 (by omega)
  have hN3 := (hb23.block _ (Array.getElem?_eq_some_iff.1 hN2).1).trans hN2
  have HDIF := Lib.hid (fun (W : World) (hW : Below w3.heap.size w3 W) (b : Nat) (hn : Sl tNd W (lt W.heap.size) (some ⟨b, 0, none⟩) 1 1 [rootNd]) => pbeg_node b (w.heap.size + 1) W W.heap.size hn ((hs3.below hW (by omega)).up (by have := hW.size; omega)) (Nat.le_refl _) w.heap.size ((hW.block _ (Array.getElem?_eq_some_iff.1 hN3).1).trans hN3))
  have HRUN := Lib.hid (fun (W : World) (b : Nat) (A' : Option Addr) (c' : Nat) (hn : Sl tNd W (lt W.heap.size) (some ⟨b, 0, none⟩) 1 1 [rootNd]) (hd : Sl tEdt W (lt W.heap.size) A' pbegE.length c' pbegE) => run_any (some ⟨b, 0, none⟩) 1 1 [rootNd] false A' pbegE.length c' pbegE pbegA W W.heap.size hn hd (Nat.le_refl _) (good_of pbeg_good.2) (by decide) pbeg_run)
  have HSAM := Lib.hid (fun (W : World) (hW : Below w3.heap.size w3 W) (A' : Option Addr) (c' : Nat) (hx : Sl tNd W (lt W.heap.size) A' 2 c' pbegA) => (same_any A' 2 c' pbegA (some ⟨w.heap.size + 1, 0, none⟩) 2 2 pbegA false false W W.heap.size hx ((hs3.below hW (by omega)).up (by have := hW.size; omega)) (Nat.le_refl _) pbeg_good.1 pbeg_good.1 (41 - upN pbegA 0) ((tree_of pbeg_good.1).go (tree_of pbeg_good.1).pos)).mono (R' := fun e w' => e = .returned (.bool true) ∧ Below W.heap.size W w') fun e w' h => by
    obtain ⟨⟨r, rfl, hr⟩, hb⟩ := h
    rw [hr.2 ⟨rfl, like_me (tree_of pbeg_good.1) _ 0 (tree_of pbeg_good.1).pos ((tree_of pbeg_good.1).go (tree_of pbeg_good.1).pos)⟩]
    exact ⟨rfl, hb⟩)
  have HNW := Lib.hid (fun W => new_any W)
  have HB3 := Lib.hid hb03
  have HX3 := Lib.hid hx3
  have d0 := cell_blk (i := 0) (v := .slice (some ⟨w.heap.size + 1, 0, none⟩) 2 2) hx3 rfl
  have d1 := cell_blk (i := 1) (v := .bool false) hx3 rfl
  clear z1 z2 z3 hs1 hs2 hb02 hb23 hb03 hx3 hs3 hN2 hN3
  go_enter Tryd.func6, Tryd.ntmps6
  go_upto_region 2 with fail
  rw [← hw1, ← hw2, ← hw3]
  clear hw1 hw2 hw3
  refine wp_region_G (S := Below w3.heap.size w3) (T := []) (by kernel_rfl) ?_
  have hS : Below w3.heap.size w3 w3.drew := (Below.refl _ w3).drew
  refine wpAnyG_take (i := 1) (v := ?_) rfl (by kernel_rfl) (by kernel_rfl) (by kernel_rfl) (by kernel_rfl) (fun _ _ _ h => h) hS rfl ?_ ?_
  rotate_left
  · intro w' hSw
    have g0 := cell_be d0 hSw
    have g1 := cell_be d1 hSw
    first | (go_simp; done) | (go_simp; with_reducible rfl)
  refine wpAnyG_one (i := 0) (by kernel_rfl) rfl rfl (fun K hK => ?_)
  go_simp
  go_at_call 14
  refine (HNW.out w3.drew).mono ?_
  rintro e' w4 ⟨b, rfl, hb4, hn4⟩
  have hb34 : Below w3.heap.size w3 w4 := hS.trans hb4
  have HB34 := Lib.hid hb34
  have HN4 := Lib.hid hn4
  clear hb4 hn4
  go_wp2_with fail
  refine hK.out _ _ (fun _ _ => hb34) ?_
  clear hK K hS hb34
  refine wpAnyG_one (i := 2) (by kernel_rfl) rfl rfl (fun K hK => ?_)
  go_simp
  go_at_call 8
  refine (HDIF.out w4 HB34.out b HN4.out).mono ?_
  rintro e' w5 ⟨hb5, A5, c5, rfl, hs5⟩
  have hb35 := bst HB34.out hb5
  have HB35 := Lib.hid hb35
  have HS5 := Lib.hid hs5
  clear hb5 hs5
  go_wp2_with fail
  refine hK.out _ _ (fun _ _ => hb35) ?_
  clear hK K hb35
  refine wpAnyG_pure (i := 3) (v := ?_) rfl (by kernel_rfl) (by kernel_rfl) (by kernel_rfl) (fun _ _ _ h => h) rfl ?_ ?_
  rotate_left
  · intro w'
    first | (go_simp; done) | (go_simp; with_reducible rfl)
  refine wpAnyG_pure (i := 4) (v := ?_) rfl (by kernel_rfl) (by kernel_rfl) (by kernel_rfl) (fun _ _ _ h => h) rfl ?_ ?_
  rotate_left
  · intro w'
    first | (go_simp; done) | (go_simp; with_reducible rfl)
  refine wpAnyG_pure (i := 5) (v := ?_) rfl (by kernel_rfl) (by kernel_rfl) (by kernel_rfl) (fun _ _ _ h => h) rfl ?_ ?_
  rotate_left
  · intro w'
    first | (go_simp; done) | (go_simp; with_reducible rfl)
  refine wpAnyG_one (i := 6) (by kernel_rfl) rfl rfl (fun K hK => ?_)
  go_simp
  refine hK.out _ _ (fun _ h => h) ?_
  clear hK K
  refine wpAnyG_one (i := 7) (by kernel_rfl) rfl rfl (fun K hK => ?_)
  go_simp
  refine hK.out _ _ (fun _ h => h) ?_
  clear hK K
  refine wpAnyG_done (by kernel_rfl) ?_ _
  have hpl : pbegE.length = 2 := rfl
  rw [hpl] at HS5 ⊢
  clear hpl d0 d1
  go_upto_region 4 with (first
    | (go_at_call 14; refine (HNW.out w5).mono ?_; rintro e' w6 ⟨b6, rfl, hb6, hn6⟩; have HE6 := Lib.hid ((Sl.ltr HS5.out).below hb6 (Nat.le_refl _) |>.up hb6.size))
    | (go_at_call 9; refine (HRUN.out w6 b6 A5 c5 hn6 HE6.out).mono ?_; rintro e' w7 ⟨hb7, A7, c7, rfl, hs7⟩))
  have hpl : pbegA.length = 2 := rfl
  rw [hpl] at hs7 ⊢
  clear hpl
  obtain ⟨w8, hw8⟩ : ∃ w8, w8 = w7.alloc (.cells #[.slice A7 2 c7, .bool false] 24) := ⟨_, rfl⟩
  have hx8 : w8.heap[w7.heap.size]? = some (.cells #[.slice A7 2 c7, .bool false] 24 (0, 0)) := by rw [hw8]; exact heap_alloc_new w7 _
  have hb78 : Below w7.heap.size w7 w8 := by rw [hw8]; exact balloc3 (Below.refl _ _) _
  have hb38 := bst HB35.out (bst hb6 (bst hb7 hb78))
  have q0 := cell_blk (i := 0) (v := .slice A7 2 c7) hx8 rfl
  have q1 := cell_blk (i := 1) (v := .bool false) hx8 rfl
  have hx38 := (hb38.block _ (Array.getElem?_eq_some_iff.1 HX3.out).1).trans HX3.out
  have d0 := cell_blk (i := 0) (v := .slice (some ⟨w.heap.size + 1, 0, none⟩) 2 2) hx38 rfl
  have d1 := cell_blk (i := 1) (v := .bool false) hx38 rfl
  have HSA := Lib.hid (HSAM.out w8 hb38 A7 c7 (((Sl.ltr hs7).below hb78 (Nat.le_refl _)).up hb78.size))
  have HB8 := Lib.hid (HB3.out.trans (hb38.mono HB3.out.size))
  rw [← hw8]
  clear hw8 hx8 hb78 hb38 hx38 hs7 hb7 hb6 hn6 HE6 HRUN HDIF HSAM
  go_wp2_with (go_at_call 10; refine HSA.out.mono ?_; rintro e' w9 ⟨rfl, hb9⟩)
  go_ret
  exact ⟨by simp, HB8.out.trans (hb9.mono HB8.out.size)⟩
end Go.Proofs.YtomleengbnfikaaDoor
