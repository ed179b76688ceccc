/-
The walk of recordBegun.
-/
import Derived.Test.YtfeighclpaijoaaGreatDoorRecPlain
namespace Go.Proofs.YtfeighclpaijoaaGreatDoor
open Go.RowKit Go.Cl
attribute [local go_sem ↓] Go.wp_at_zero Go.wp_at_succ

theorem bg_facts : ∃ d ss, alR [rootNd] [bgM, bgI] = (d, 0, 0) ∧ stepsD [rootNd] [bgM, bgI] = ss ∧ ss.length = 2 ∧ Undoes d ss ∧ runU d ss.reverse = some [rootNd] ∧ (touD ss).length = 2 ∧ ∀ s ∈ ss, 1 ≤ s.edit.do_ ∧ s.edit.do_ ≤ 6 := by
  obtain ⟨d, h1, h2⟩ := bg_run
  have G := good_of bg_ok.2.1
  exact ⟨d, _, h1, rfl, steps_len _ _, undoes_steps G h2, un_steps _ _ _ G h2, bg_tou, steps_kind _ _ _ h2⟩
theorem bg_row {w : World} {D : Nat → Prop} : Row tEdt w D [bgM, bgI] [.int .i64 4, .int .i64 0, .int .i64 0, .int .i64 0, .string ⟨#[]⟩, .string ⟨#[]⟩, .int .i64 4, .string ⟨#[]⟩, .slice none 0 0, .string (⟨#[99]⟩ : ByteArray), .int .i64 0, .slice none 0 0, .int .i64 5, .int .i64 0, .int .i64 1, .int .i64 (-1), .string ⟨#[]⟩, .string ⟨#[]⟩, .int .i64 0, .string ⟨#[]⟩, .slice none 0 0, .string ⟨#[]⟩, .int .i64 0, .slice none 0 0] :=
  ⟨(edtCells bgM none 0 0 none 0 0).toList, _, rfl, edt_rep ⟨⟨Sl.nil, Sl.nil, by decide, by decide, by decide, by decide⟩, by decide, by decide, by decide, by decide, by decide⟩ (by decide),
    (edtCells bgI none 0 0 none 0 0).toList, [], rfl, edt_rep ⟨⟨Sl.nil, Sl.nil, by decide, by decide, by decide, by decide⟩, by decide, by decide, by decide, by decide, by decide⟩ (by decide), rfl⟩
set_option maxRecDepth 100000 in
set_option maxHeartbeats 4000000 in
theorem recordBegun_any (w : World) : Calls Tryz.prog 8 #[] w fun e w' => e = .returned (.bool true) ∧ Below w.heap.size w w' := by
  have HNW := Lib.hid (new_any w)
  obtain ⟨d, ss, hal, hst, hl2, hun, hrn, htl, hkd⟩ := bg_facts
  have HDO := Lib.hid (fun A n c m w1 B hl hes hB => by
    have h := do_any A n c [rootNd] false m 2 2 [bgM, bgI] w1 B hl hes hB
    unfold DoPost at h
    rw [hal, hst] at h
    exact h)
  have HBR := Lib.hid (fun (w : World) (D : Nat → Prop) => @bg_row w D)
  have HL2 := Lib.hid hl2
  have HUN := Lib.hid hun
  have HRN := Lib.hid hrn
  have HTL := Lib.hid htl
  have HKD := Lib.hid hkd
  clear hal hst hl2 hun hrn htl hkd
  go_enter Tryz.func8, Tryz.ntmps8
  go_upto_region 1 with fail
  go_wp2_with (go_at_call 16; refine HNW.out.mono ?_; rintro e' w1 ⟨b, rfl, hb1, hs1⟩)
  obtain ⟨w2, hw2⟩ : ∃ w2, w2 = w1.alloc (.cells #[.int .i64 4, .int .i64 0, .int .i64 0, .int .i64 0, .string ⟨#[]⟩, .string ⟨#[]⟩, .int .i64 4, .string ⟨#[]⟩, .slice none 0 0, .string (⟨#[99]⟩ : ByteArray), .int .i64 0, .slice none 0 0, .int .i64 5, .int .i64 0, .int .i64 1, .int .i64 (-1), .string ⟨#[]⟩, .string ⟨#[]⟩, .int .i64 0, .string ⟨#[]⟩, .slice none 0 0, .string ⟨#[]⟩, .int .i64 0, .slice none 0 0] 45) := ⟨_, rfl⟩
  rw [← hw2]
  have hes := Sl.fresh (n := 2) (w := w1) (B := w1.heap.size) 45 (HBR.out w1 (lt w1.heap.size)) (Nat.le_refl _) rfl (by decide)
  have hb12 : Below w1.heap.size w1 w2 := by rw [hw2]; exact (Below.refl _ _).alloc (Nat.le_refl _) _
  have hz2 : w2.heap.size = w1.heap.size + 1 := by rw [hw2]; exact World.size_alloc w1 _
  have hes2 : Sl tEdt w2 (lt (w1.heap.size + 1)) (some ⟨w1.heap.size, 0, none⟩) 2 2 [bgM, bgI] := by rw [hw2]; exact hes
  have hs2 := (hs1.below hb12 (Nat.le_refl _)).up (B' := w1.heap.size + 1) (by omega)
  have hb2 := hb1.trans (hb12.mono hb1.size)
  refine (HDO.out _ 1 1 (some ⟨w1.heap.size, 0, none⟩) w2 (w1.heap.size + 1) hs2 hes2 (by omega)).mono ?_
  rintro e' w3 ⟨hb23, hp⟩
  rcases hp with ⟨h, _⟩ | ⟨_, A', c', A5, c5, rfl, hs3, hst3⟩
  · exact absurd rfl h
  rw [show [bgM, bgI].length = 2 from rfl] at hst3 ⊢
  have HB3 := Lib.hid (hb2.trans (hb23.mono hb2.size))
  obtain ⟨w4, hw4⟩ : ∃ w4, w4 = w3.alloc (.cells #[.slice A' d.length c', .bool false] 24) := ⟨_, rfl⟩
  have hb34 : Below w3.heap.size w3 w4 := by rw [hw4]; exact (Below.refl _ _).alloc (Nat.le_refl _) _
  have hx4 : w4.heap[w3.heap.size]? = some (.cells #[.slice A' d.length c', .bool false] 24 (0, 0)) := by rw [hw4]; exact heap_alloc_new w3 _
  have hd4 := (Sl.ltr hs3).below hb34 (Nat.le_refl _)
  have ht4 := (Sl.ltr hst3).below hb34 (Nat.le_refl _)
  have HT4 := Lib.hid ht4
  have HUD := Lib.hid (undo_any A' d.length c' d false A5 2 c5 ss w4 w3.heap.size hd4 ht4 hb34.size (by rw [HL2.out]; omega) HUN.out [rootNd] HRN.out)
  have HB4 := Lib.hid (HB3.out.trans (hb34.mono HB3.out.size))
  have HB34 := Lib.hid hb34
  have x0 := cell_blk (i := 0) hx4 rfl
  have x1 := cell_blk (i := 1) hx4 rfl
  clear hw2 hes hb12 hz2 hes2 hs2 hb2 hb23 hs3 hst3 hb1 hs1 HNW HBR HDO hb34 hx4 hd4 ht4
  go_upto_region 2 with fail
  rw [← hw4]
  clear hw4
  go_upto_region 3 with (go_at_call 9; refine HUD.out.mono ?_; rintro e' w5 ⟨hb5, A6, c6, rfl, hs6⟩)
  try rw [show [rootNd].length = 1 from rfl]
  obtain ⟨w6, hw6⟩ : ∃ w6, w6 = w5.alloc (.cells #[.slice A6 1 c6, .bool false] 24) := ⟨_, rfl⟩
  have hb56 : Below w5.heap.size w5 w6 := by rw [hw6]; exact (Below.refl _ _).alloc (Nat.le_refl _) _
  have hx6 : w6.heap[w5.heap.size]? = some (.cells #[.slice A6 1 c6, .bool false] 24 (0, 0)) := by rw [hw6]; exact heap_alloc_new w5 _
  have hb46 := hb5.trans (hb56.mono hb5.size)
  have HB6 := Lib.hid (HB4.out.trans (hb46.mono HB4.out.size))
  have HTO := Lib.hid (touched_any A5 2 c5 ss w6 w3.heap.size (HT4.out.below hb46 HB34.out.size) (Nat.le_trans HB34.out.size hb46.size) (by rw [HL2.out]; omega) HKD.out)
  have y0 := cell_blk (i := 0) hx6 rfl
  rw [← hw6]
  clear hw6 hb56 hx6 hb46 hb5 hs6 x0 x1 HUD
  go_wp2_with (go_at_call 12; refine HTO.out.mono ?_; rintro e' w7 ⟨hb7, A7, c7, rfl, hs7⟩; rw [HTL.out])
  go_ret
  exact ⟨rfl, HB6.out.trans (hb7.mono HB6.out.size)⟩
end Go.Proofs.YtfeighclpaijoaaGreatDoor
