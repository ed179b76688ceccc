/-
The walk of RecordBack.
-/
import Derived.Test.YtfeighclpaijoaaGreatDoorRecHeld
import Derived.Test.YtfeighclpaijoaaGreatDoorEditLift
import Derived.Deep.DeepCutAuto
namespace Go.Proofs.YtfeighclpaijoaaGreatDoor
open Go.RowKit Go.Cl
attribute [local go_sem ↓] Go.wp_at_zero Go.wp_at_succ

set_option maxRecDepth 100000 in
set_option maxHeartbeats 8000000 in
theorem recordBack_walk (A : Option Addr) (n c : Nat) (l : List Nd) (q : Bool) (A2 : Option Addr) (m c2 : Nat) (es : List Edt) (w : World) (B : Nat) (hl : Sl tNd w (lt B) A n c l) (hes : Sl tEdt w (lt B) A2 m c2 es) (hB : B ≤ w.heap.size) :
    Calls Tryz.prog 5 #[.agg #[.slice A n c, .bool q], .slice A2 m c2] w fun e w' => e = .returned (.bool true) ∧ Below w.heap.size w w' := by
  obtain ⟨w0, hw0⟩ : ∃ w0, w0 = w.alloc (.cells #[.slice A n c, .bool q] 24) := ⟨_, rfl⟩
  have hbx : w0.heap[w.heap.size]? = some (.cells #[.slice A n c, .bool q] 24 (0, 0)) := by rw [hw0]; exact heap_alloc_new w _
  have b0 : w0.cell? ⟨w.heap.size, 0, none⟩ = some (.slice A n c) := cell_blk hbx rfl
  have b1 : w0.cell? ⟨w.heap.size, 1, none⟩ = some (.bool q) := cell_blk hbx rfl
  have hb0 : Below w.heap.size w w0 := by rw [hw0]; exact (Below.refl _ _).alloc (Nat.le_refl _) _
  have hz0 : w0.heap.size = w.heap.size + 1 := by rw [hw0]; exact World.size_alloc w _
  have HB0 := Lib.hid hb0
  have HL := Lib.hid hl
  have HES := Lib.hid hes
  have HBW : Hid (B ≤ w.heap.size) := hB
  obtain ⟨k, hk, hkc, hkn⟩ : ∃ k : Nat, min (n : Int) 40 = (k : Int) ∧ k ≤ c ∧ k ≤ n := ⟨min n 40, by omega, by have := hl.hc; omega, by omega⟩
  obtain ⟨k2, hk2, hk2m, hk240⟩ : ∃ k2 : Nat, min (m : Int) 40 = (k2 : Int) ∧ k2 ≤ m ∧ k2 ≤ 40 := ⟨min m 40, by omega, by omega, by omega⟩
  have hmc := hes.hc
  have hm63 := hes.small
  have hk2c : k2 ≤ c2 := by omega
  have HF := Lib.hid (few_any A n c k q 40 w0.drew hk hkc)
  have HM0 : Hid (A2 = none → c2 = 0) := hes.nil_
  have HZ0 := Lib.hid hz0
  clear hb0 hl hes hB hk hz0
  go_enter Tryz.func5, Tryz.ntmps5
  go_upto_region 1 with fail
  rw [← hw0]
  clear hw0
  refine wp_region_G (S := fun w' : World => w'.cell? ⟨w.heap.size, 0, none⟩ = some (.slice A n c) ∧ w'.cell? ⟨w.heap.size, 1, none⟩ = some (.bool q)) (T := [7, 8]) (by kernel_rfl) ?_
  have hS : (fun w' : World => w'.cell? ⟨w.heap.size, 0, none⟩ = some (.slice A n c) ∧ w'.cell? ⟨w.heap.size, 1, none⟩ = some (.bool q)) w0.drew := ⟨b0, b1⟩
  refine wpAnyG_take (i := 0) (v := ?_) rfl (by kernel_rfl) (by kernel_rfl) (by kernel_rfl) (by kernel_rfl) (fun _ _ _ h => h) hS rfl ?_ ?_
  rotate_left
  · intro w' hSw
    (try dsimp only at hSw)
    first | (go_simp; done) | (go_simp; with_reducible rfl)
  refine wpAnyG_pure (i := 2) (v := ?_) rfl (by kernel_rfl) (by kernel_rfl) (by kernel_rfl) (fun _ _ _ h => h) rfl ?_ ?_
  rotate_left
  · intro w'
    first | (go_simp; done) | (go_simp; with_reducible rfl)
  refine wpAnyG_pure (i := 3) (v := ?_) rfl (by kernel_rfl) (by kernel_rfl) (by kernel_rfl) (fun _ _ _ h => h) rfl ?_ ?_
  rotate_left
  · intro w'
    first | (go_simp; done) | (go_simp; with_reducible rfl)
  refine wpAnyG_pure (i := 4) (v := ?_) rfl (by kernel_rfl) (by kernel_rfl) (by kernel_rfl) (fun _ _ _ h => h) rfl ?_ ?_
  rotate_left
  · intro w'
    first | (go_simp; done) | (go_simp; with_reducible rfl)
  refine wpAnyG_pure (i := 5) (v := ?_) rfl (by kernel_rfl) (by kernel_rfl) (by kernel_rfl) (fun _ _ _ h => h) rfl ?_ ?_
  rotate_left
  · intro w'
    first | (go_simp; done) | (go_simp; with_reducible rfl)
  refine wpAnyG_pure (i := 6) (v := ?_) rfl (by kernel_rfl) (by kernel_rfl) (by kernel_rfl) (fun _ _ _ h => h) rfl ?_ ?_
  rotate_left
  · intro w'
    first | (go_simp; done) | (go_simp; with_reducible rfl)
  refine wpAnyG_one (i := 1) (by kernel_rfl) rfl rfl (fun K hK => ?_)
  go_simp
  go_at_call 6
  refine HF.out.mono ?_
  rintro e w1 ⟨rfl, hb1⟩
  have hb01 : Below w0.heap.size w0 w1 := ((Below.refl _ w0).drew).trans hb1
  have hbx1 : w1.heap[w.heap.size]? = some (.cells #[.slice A n c, .bool q] 24 (0, 0)) := (hb01.block _ (by have := HZ0.out; omega)).trans hbx
  have y0 := cell_blk (i := 0) hbx1 rfl
  have y1 := cell_blk (i := 1) hbx1 rfl
  have z0 := free_blk (i := 0) hbx1
  have z1 := free_blk (i := 1) hbx1
  go_wp2_with fail
  refine hK.out _ _ (fun _ _ => ⟨y0, y1⟩) ?_
  clear hK K hS
  refine wpAnyG_one (i := 7) (by kernel_rfl) rfl rfl (fun K hK => ?_)
  go_simp
  refine hK.out _ _ (fun h => absurd (by decide) h) ?_
  clear hK K
  obtain ⟨w2, hw2⟩ : ∃ w2, w2 = (w1.setCell ⟨w.heap.size, 0, none⟩ (.slice A k c)).setCell ⟨w.heap.size, 1, none⟩ (.bool q) := ⟨_, rfl⟩
  rw [← hw2]
  have hb2 : Below w.heap.size w w2 := by rw [hw2]; exact ((HB0.out.trans (hb01.mono HB0.out.size)).setCell (Nat.le_refl _) _).setCell (Nat.le_refl _) _
  have hbx2 : w2.heap[w.heap.size]? = some (.cells #[.slice A k c, .bool q] 24 (0, 0)) := by rw [hw2]; exact set_blk (set_blk hbx1 _) _
  have hl2 := ((HL.out.cut_to hkn).below hb2 HBW.out).up (Nat.le_trans HBW.out hb2.size)
  have HKL := Lib.hid hl2.hn
  have HD2 : Hid (Held w2 w.heap.size A k c q (l.take k)) := ⟨hbx2, hl2⟩
  have hs2 := (((HES.out.cut_to hk2m).below hb2 HBW.out)).up (Nat.le_trans HBW.out hb2.size)
  have HKL2 := Lib.hid hs2.hn
  have HE2 := Lib.hid hs2
  have HB2 := Lib.hid hb2
  have HBG := Lib.hid (fun u => recordBegun_any u)
  clear hw2 hb01 hbx1 y0 y1 z0 z1 hb1 hb2 hbx2 hbx b0 b1 HB0 HL HES HF HZ0 HM0 hk2 hk2m hm63 hmc hl2 hs2 hkn HBW
  refine wpAnyG_one (i := 8) (by kernel_rfl) rfl rfl (fun K hK => ?_)
  go_simp
  refine hK.out _ _ (fun _ h => h) ?_
  clear hK K
  refine wpAnyG_done (by kernel_rfl) ?_ _
  generalize l.take k = l at *
  generalize es.take k2 = es at *
  obtain rfl := HKL.out
  obtain rfl := HKL2.out
  clear HKL HKL2
  have HDO := Lib.hid (do_any A l.length c l q A2 es.length c2 es w2 w2.heap.size HD2.out.doc HE2.out (Nat.le_refl _))
  have x0 := HD2.out.c0
  have x1 := HD2.out.c1
  go_upto_region 3 with (go_at_call 7; refine HDO.out.mono ?_; rintro e' w3 hp; obtain ⟨hb3, ⟨er, i0, her0, her, rfl⟩ | ⟨d, A3, c3, A5, c5, hal, hck, h40, hrun, rfl, hs3, ht3⟩⟩ := do_word hp; clear hp)
  · -- with an error
    obtain ⟨w4, hw4⟩ : ∃ w4, w4 = w3.alloc (.cells #[.slice none 0 0, .bool false] 24) := ⟨_, rfl⟩
    have hb24 : Below w2.heap.size w2 w4 := by rw [hw4]; exact hb3.alloc hb3.size _
    have HD4 := Lib.hid (HD2.out.next hb24)
    have HE4 := Lib.hid (sl_next HE2.out hb24)
    have HB4 := Lib.hid (HB2.out.trans (hb24.mono HB2.out.size))
    have HAL := Lib.hid (all_any A l.length c l q A2 es.length c2 es w4 w4.heap.size HD4.out.doc HE4.out (Nat.le_refl _))
    have HER := Lib.hid her
    have HER0 := Lib.hid her0
    have t1 : (er != 0) = true := by simpa using her0
    have y0 := HD4.out.c0
    have y1 := HD4.out.c1
    rw [← hw4]
    clear hw4 hb24 hb3 her her0 x0 x1 HDO
    go_upto_region 4 with (go_at_call 10; refine HAL.out.mono ?_; rintro e' w5 ⟨hb5, hp⟩; rw [HER.out] at hp; rcases hp with ⟨_, rfl⟩ | ⟨h, _⟩; rotate_left; · exact absurd h HER0.out)
    have HB5 := Lib.hid ((HB4.out.trans (hb5.mono HB4.out.size)).alloc (Nat.le_trans HB4.out.size hb5.size) (.cells #[.slice none 0 0, .bool false] 24))
    obtain ⟨w6, hw6⟩ : ∃ w6, w6 = w5.alloc (.cells #[.slice none 0 0, .bool false] 24) := ⟨_, rfl⟩
    rw [← hw6] at HB5 ⊢
    clear hw6 hb5 y0 y1 HAL
    go_wp2_with (go_at_call 8; refine (HBG.out _).mono ?_; rintro e' w7 ⟨rfl, hb7⟩)
    go_ret
    exact ⟨rfl, HB5.out.trans (hb7.mono HB5.out.size)⟩
  · obtain ⟨w4, hw4⟩ : ∃ w4, w4 = w3.alloc (.cells #[.slice A3 d.length c3, .bool q] 24) := ⟨_, rfl⟩
    have hb34 : Below w3.heap.size w3 w4 := by rw [hw4]; exact (Below.refl _ _).alloc (Nat.le_refl _) _
    have hb24 := hb3.trans (hb34.mono hb3.size)
    have HD4 := Lib.hid (HD2.out.next hb24)
    have HE4 := Lib.hid (sl_next HE2.out hb24)
    have HX4 := Lib.hid (show Held w4 w3.heap.size A3 d.length c3 q d from by rw [hw4]; exact Held.new hs3 q)
    have HT4 := Lib.hid (sl_next ht3 hb34)
    have HB4 := Lib.hid (HB2.out.trans (hb24.mono HB2.out.size))
    have HAL := Lib.hid (all_any A l.length c l q A2 es.length c2 es w4 w4.heap.size HD4.out.doc HE4.out (Nat.le_refl _))
    have HALR := Lib.hid hal
    have HCK := Lib.hid hck
    have HRUN := Lib.hid hrun
    have H40 := Lib.hid h40
    have y0 := HD4.out.c0
    have y1 := HD4.out.c1
    rw [← hw4]
    clear hw4 hb24 hb34 hb3 hs3 ht3 hal hck hrun h40 x0 x1 HDO HD2 HE2
    go_upto_region 4 with (go_at_call 10; refine HAL.out.mono ?_; rintro e' w5 ⟨hb5, hp⟩; rw [HALR.out] at hp; rcases hp with ⟨h, _⟩ | ⟨_, A6, c6, rfl, hs5⟩; · exact absurd rfl h)
    obtain ⟨w6, hw6⟩ : ∃ w6, w6 = w5.alloc (.cells #[.slice A6 d.length c6, .bool q] 24) := ⟨_, rfl⟩
    have hb56 : Below w5.heap.size w5 w6 := by rw [hw6]; exact (Below.refl _ _).alloc (Nat.le_refl _) _
    have hb46 := hb5.trans (hb56.mono hb5.size)
    have HD6 := Lib.hid (HD4.out.next hb46)
    have HX6 := Lib.hid (HX4.out.next hb46)
    have HY6 := Lib.hid (show Held w6 w5.heap.size A6 d.length c6 q d from by rw [hw6]; exact Held.new (Sl.ltr hs5) q)
    have HT6 := Lib.hid (sl_next HT4.out hb46)
    have HB6 := Lib.hid (HB4.out.trans (hb46.mono HB4.out.size))
    have G := good_of HCK.out
    have HUN := Lib.hid (undo_any A3 d.length c3 d q A5 es.length c5 (stepsD l es) w6 w6.heap.size HX6.out.doc HT6.out (Nat.le_refl _) (by rw [steps_len]; exact H40.out) (undoes_steps G HRUN.out) l (un_steps _ _ _ G HRUN.out))
    have x0 := HX6.out.c0
    have x1 := HX6.out.c1
    rw [← hw6]
    clear hw6 hb56 hb46 hb5 hs5 y0 y1 HAL HD4 HX4 HT4 G
    go_upto_region 6 with fail
    go_upto_region 7 with (go_at_call 9; refine HUN.out.mono ?_; rintro e' w7 ⟨hb7, A7, c7, rfl, hs7⟩)
    obtain ⟨w8, hw8⟩ : ∃ w8, w8 = w7.alloc (.cells #[.slice A7 l.length c7, .bool q] 24) := ⟨_, rfl⟩
    have hb78 : Below w7.heap.size w7 w8 := by rw [hw8]; exact (Below.refl _ _).alloc (Nat.le_refl _) _
    have hb68 := hb7.trans (hb78.mono hb7.size)
    have HD8 := Lib.hid (HD6.out.next hb68)
    have HX8 := Lib.hid (HX6.out.next hb68)
    have HY8 := Lib.hid (HY6.out.next hb68)
    have HZ8 := Lib.hid (show Held w8 w7.heap.size A7 l.length c7 q l from by rw [hw8]; exact Held.new (Sl.ltr hs7) q)
    have HT8 := Lib.hid (sl_next HT6.out hb68)
    have HB8 := Lib.hid (HB6.out.trans (hb68.mono HB6.out.size))
    have HRE := Lib.hid (redo_any A7 l.length c7 l q A5 es.length c5 (stepsD l es) w8 w8.heap.size HZ8.out.doc HT8.out (Nat.le_refl _) (by rw [steps_len]; exact H40.out) d (by rw [steps_edits]; exact HALR.out))
    have y0 := HZ8.out.c0
    have y1 := HZ8.out.c1
    rw [← hw8]
    clear hw8 hb78 hb68 hb7 hs7 x0 x1 HUN HD6 HX6 HY6 HT6
    go_upto_region 8 with (go_at_call 13; refine HRE.out.mono ?_; rintro e' w9 ⟨hb9, A9, c9, rfl, hs9⟩)
    obtain ⟨wf, hwf⟩ : ∃ wf, wf = w9.alloc (.cells #[.slice A9 d.length c9, .bool q] 24) := ⟨_, rfl⟩
    have hb9f : Below w9.heap.size w9 wf := by rw [hwf]; exact (Below.refl _ _).alloc (Nat.le_refl _) _
    have hb8f := hb9.trans (hb9f.mono hb9.size)
    have HDF := Lib.hid (HD8.out.next hb8f)
    have HXF := Lib.hid (HX8.out.next hb8f)
    have HYF := Lib.hid (HY8.out.next hb8f)
    have HZF := Lib.hid (HZ8.out.next hb8f)
    have HWF := Lib.hid (show Held wf w9.heap.size A9 d.length c9 q d from by rw [hwf]; exact Held.new (Sl.ltr hs9) q)
    have HBF := Lib.hid (HB8.out.trans (hb8f.mono HB8.out.size))
    rw [← hwf]
    clear hwf hb9f hb8f hb9 hs9 y0 y1 HRE HD8 HX8 HY8 HZ8
    go_wp2_with (first
      | (go_at_call 8; refine (HBG.out _).mono ?_; rintro e' wg ⟨rfl, hbg⟩; have HG := Lib.hid hbg; have p0 := (HXF.out.next hbg).c0; have p1 := (HXF.out.next hbg).c1; have p2 := (HYF.out.next hbg).c0; have p3 := (HYF.out.next hbg).c1; have HS := Lib.hid (sameDoc_same A3 d.length c3 A6 c6 d q wg wg.heap.size (HXF.out.next hbg).doc (HYF.out.next hbg).doc (Nat.le_refl _)); clear hbg HBG)
      | (go_at_call 11; first
          | (refine HS.out.mono ?_; rintro e' wh ⟨rfl, hbh⟩; have HH := Lib.hid (HG.out.trans (hbh.mono HG.out.size)); have q0 := (HZF.out.next HH.out).c0; have q1 := (HZF.out.next HH.out).c1; have q2 := (HDF.out.next HH.out).c0; have q3 := (HDF.out.next HH.out).c1; have HS2 := Lib.hid (sameDoc_same A7 l.length c7 A c l q wh wh.heap.size (HZF.out.next HH.out).doc (HDF.out.next HH.out).doc (Nat.le_refl _)); clear hbh HS p0 p1 p2 p3)
          | (refine HS2.out.mono ?_; rintro e' wi ⟨rfl, hbi⟩; have HI := Lib.hid (HH.out.trans (hbi.mono HH.out.size)); have r0 := (HWF.out.next HI.out).c0; have r1 := (HWF.out.next HI.out).c1; have r2 := (HXF.out.next HI.out).c0; have r3 := (HXF.out.next HI.out).c1; have HS3 := Lib.hid (sameDoc_same A9 d.length c9 A3 c3 d q wi wi.heap.size (HWF.out.next HI.out).doc (HXF.out.next HI.out).doc (Nat.le_refl _)); clear hbi HS2 q0 q1 q2 q3)
          | (refine HS3.out.mono ?_; rintro e' wj ⟨rfl, hbj⟩)))
    go_ret
    exact ⟨rfl, HBF.out.trans ((HI.out.trans (hbj.mono HI.out.size)).mono HBF.out.size)⟩
end Go.Proofs.YtfeighclpaijoaaGreatDoor
