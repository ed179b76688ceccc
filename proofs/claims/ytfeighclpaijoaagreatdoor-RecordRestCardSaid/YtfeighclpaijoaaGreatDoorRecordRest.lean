/-
The walk of RecordRest.
-/
import Derived.Test.YtfeighclpaijoaaGreatDoorRecHeld
import Derived.Test.YtfeighclpaijoaaGreatDoorEditLift
import Derived.Test.YtfeighclpaijoaaGreatDoorOneNode
import Derived.Test.YtfeighclpaijoaaGreatDoorRegionW
import Derived.Deep.DeepCutAuto
namespace Go.Proofs.YtfeighclpaijoaaGreatDoor
open Go.RowKit Go.Cl
attribute [local go_sem ↓] Go.wp_at_zero Go.wp_at_succ

theorem contains_snoc {t : List Int} {j : Nat} {x i : Int} (hx : t[j]? = some x) : (t.take (j + 1)).contains i = ((t.take j).contains i || x == i) := by
  rw [take_snoc hx, Bool.eq_iff_iff, List.contains_iff_mem, Bool.or_eq_true, List.contains_iff_mem, List.mem_append, List.mem_singleton, beq_iff_eq]
  exact ⟨fun h => h.imp id Eq.symm, fun h => h.imp id Eq.symm⟩
set_option maxRecDepth 100000 in
set_option maxHeartbeats 8000000 in
theorem recordRest_walk (A : Option Addr) (n c : Nat) (l : List Nd) (q : Bool) (A2 : Option Addr) (m c2 : Nat) (es : List Edt) (w : World) (B : Nat) (hl : Sl tNd w (lt B) A n c l) (hes : Sl tEdt w (lt B) A2 m c2 es) (hB : B ≤ w.heap.size) :
    Calls Tryz.prog 4 #[.agg #[.slice A n c, .bool q], .slice A2 m c2] w fun e w' => e = .returned (.bool true) ∧ Below w.heap.size w w' := by
  obtain ⟨w0, hw0⟩ : ∃ w0, w0 = w.alloc (.cells #[.slice A n c, .bool q] 24) := ⟨_, rfl⟩
  have hbx : w0.heap[w.heap.size]? = some (.cells #[.slice A n c, .bool q] 24 (0, 0)) := by rw [hw0]; exact heap_alloc_new w _
  have b0 : w0.cell? ⟨w.heap.size, 0, none⟩ = some (.slice A n c) := cell_blk hbx rfl
  have b1 : w0.cell? ⟨w.heap.size, 1, none⟩ = some (.bool q) := cell_blk hbx rfl
  have hb0 : Below w.heap.size w w0 := by rw [hw0]; exact (Below.refl _ _).alloc (Nat.le_refl _) _
  have hz0 : w0.heap.size = w.heap.size + 1 := by rw [hw0]; exact World.size_alloc w _
  have HB0 := Lib.hid hb0
  have HL := Lib.hid hl
  have HES := Lib.hid hes
  have HBW : Hid (B ≤ w.heap.size) := hB
  obtain ⟨k, hk, hkc, hkn⟩ : ∃ k : Nat, min (n : Int) 40 = (k : Int) ∧ k ≤ c ∧ k ≤ n := ⟨min n 40, by omega, by have := hl.hc; omega, by omega⟩
  obtain ⟨k2, hk2, hk2m, hk240⟩ : ∃ k2 : Nat, min (m : Int) 40 = (k2 : Int) ∧ k2 ≤ m ∧ k2 ≤ 40 := ⟨min m 40, by omega, by omega, by omega⟩
  have hmc := hes.hc
  have hm63 := hes.small
  have hk2c : k2 ≤ c2 := by omega
  have HF := Lib.hid (few_any A n c k q 40 w0.drew hk hkc)
  have HM0 : Hid (A2 = none → c2 = 0) := hes.nil_
  have HZ0 := Lib.hid hz0
  clear hb0 hl hes hB hk hz0
  go_enter Tryz.func4, Tryz.ntmps4
  go_upto_region 1 with fail
  rw [← hw0]
  clear hw0
  refine wp_region_G (S := fun w' : World => w'.cell? ⟨w.heap.size, 0, none⟩ = some (.slice A n c) ∧ w'.cell? ⟨w.heap.size, 1, none⟩ = some (.bool q)) (T := [7, 8]) (by kernel_rfl) ?_
  have hS : (fun w' : World => w'.cell? ⟨w.heap.size, 0, none⟩ = some (.slice A n c) ∧ w'.cell? ⟨w.heap.size, 1, none⟩ = some (.bool q)) w0.drew := ⟨b0, b1⟩
  refine wpAnyG_take (i := 0) (v := ?_) rfl (by kernel_rfl) (by kernel_rfl) (by kernel_rfl) (by kernel_rfl) (fun _ _ _ h => h) hS rfl ?_ ?_
  rotate_left
  · intro w' hSw
    (try dsimp only at hSw)
    first | (go_simp; done) | (go_simp; with_reducible rfl)
  refine wpAnyG_pure (i := 2) (v := ?_) rfl (by kernel_rfl) (by kernel_rfl) (by kernel_rfl) (fun _ _ _ h => h) rfl ?_ ?_
  rotate_left
  · intro w'
    first | (go_simp; done) | (go_simp; with_reducible rfl)
  refine wpAnyG_pure (i := 3) (v := ?_) rfl (by kernel_rfl) (by kernel_rfl) (by kernel_rfl) (fun _ _ _ h => h) rfl ?_ ?_
  rotate_left
  · intro w'
    first | (go_simp; done) | (go_simp; with_reducible rfl)
  refine wpAnyG_pure (i := 4) (v := ?_) rfl (by kernel_rfl) (by kernel_rfl) (by kernel_rfl) (fun _ _ _ h => h) rfl ?_ ?_
  rotate_left
  · intro w'
    first | (go_simp; done) | (go_simp; with_reducible rfl)
  refine wpAnyG_pure (i := 5) (v := ?_) rfl (by kernel_rfl) (by kernel_rfl) (by kernel_rfl) (fun _ _ _ h => h) rfl ?_ ?_
  rotate_left
  · intro w'
    first | (go_simp; done) | (go_simp; with_reducible rfl)
  refine wpAnyG_pure (i := 6) (v := ?_) rfl (by kernel_rfl) (by kernel_rfl) (by kernel_rfl) (fun _ _ _ h => h) rfl ?_ ?_
  rotate_left
  · intro w'
    first | (go_simp; done) | (go_simp; with_reducible rfl)
  refine wpAnyG_one (i := 1) (by kernel_rfl) rfl rfl (fun K hK => ?_)
  go_simp
  go_at_call 6
  refine HF.out.mono ?_
  rintro e w1 ⟨rfl, hb1⟩
  have hb01 : Below w0.heap.size w0 w1 := ((Below.refl _ w0).drew).trans hb1
  have hbx1 : w1.heap[w.heap.size]? = some (.cells #[.slice A n c, .bool q] 24 (0, 0)) := (hb01.block _ (by have := HZ0.out; omega)).trans hbx
  have y0 := cell_blk (i := 0) hbx1 rfl
  have y1 := cell_blk (i := 1) hbx1 rfl
  have z0 := free_blk (i := 0) hbx1
  have z1 := free_blk (i := 1) hbx1
  go_wp2_with fail
  refine hK.out _ _ (fun _ _ => ⟨y0, y1⟩) ?_
  clear hK K hS
  refine wpAnyG_one (i := 7) (by kernel_rfl) rfl rfl (fun K hK => ?_)
  go_simp
  refine hK.out _ _ (fun h => absurd (by decide) h) ?_
  clear hK K
  obtain ⟨w2, hw2⟩ : ∃ w2, w2 = (w1.setCell ⟨w.heap.size, 0, none⟩ (.slice A k c)).setCell ⟨w.heap.size, 1, none⟩ (.bool q) := ⟨_, rfl⟩
  rw [← hw2]
  have hb2 : Below w.heap.size w w2 := by rw [hw2]; exact ((HB0.out.trans (hb01.mono HB0.out.size)).setCell (Nat.le_refl _) _).setCell (Nat.le_refl _) _
  have hbx2 : w2.heap[w.heap.size]? = some (.cells #[.slice A k c, .bool q] 24 (0, 0)) := by rw [hw2]; exact set_blk (set_blk hbx1 _) _
  have hl2 := ((HL.out.cut_to hkn).below hb2 HBW.out).up (Nat.le_trans HBW.out hb2.size)
  have HKL := Lib.hid hl2.hn
  have HD2 : Hid (Held w2 w.heap.size A k c q (l.take k)) := ⟨hbx2, hl2⟩
  have hs2 := (((HES.out.cut_to hk2m).below hb2 HBW.out)).up (Nat.le_trans HBW.out hb2.size)
  have HKL2 := Lib.hid hs2.hn
  have HE2 := Lib.hid hs2
  have HB2 := Lib.hid hb2
  have HBG := Lib.hid (fun u => recordBegun_any u)
  clear hw2 hb01 hbx1 y0 y1 z0 z1 hb1 hb2 hbx2 hbx b0 b1 HB0 HL HES HF HZ0 HM0 hk2 hk2m hm63 hmc hl2 hs2 hkn HBW
  refine wpAnyG_one (i := 8) (by kernel_rfl) rfl rfl (fun K hK => ?_)
  go_simp
  refine hK.out _ _ (fun _ h => h) ?_
  clear hK K
  refine wpAnyG_done (by kernel_rfl) ?_ _
  generalize l.take k = l at *
  generalize es.take k2 = es at *
  obtain rfl := HKL.out
  obtain rfl := HKL2.out
  clear HKL HKL2
  have HDO := Lib.hid (do_any A l.length c l q A2 es.length c2 es w2 w2.heap.size HD2.out.doc HE2.out (Nat.le_refl _))
  have x0 := HD2.out.c0
  have x1 := HD2.out.c1
  go_upto_region 3 with (go_at_call 7; refine HDO.out.mono ?_; rintro e' w3 hp; obtain ⟨hb3, ⟨er, i0, her0, her, rfl⟩ | ⟨d, A3, c3, A5, c5, hal, hck, h40, hrun, rfl, hs3, ht3⟩⟩ := do_word hp; clear hp)
  · -- with an error
    have HER := Lib.hid her
    have HB4 := Lib.hid (HB2.out.trans ((hb3.alloc hb3.size (.cells #[.slice none 0 0, .bool false] 24)).mono HB2.out.size))
    obtain ⟨w4, hw4⟩ : ∃ w4, w4 = w3.alloc (.cells #[.slice none 0 0, .bool false] 24) := ⟨_, rfl⟩
    have t1 : (er != 0) = true := by simpa using her0
    rw [← hw4] at HB4 ⊢
    clear hw4 hb3 her her0 x0 x1 HDO
    go_wp2_with (go_at_call 8; refine (HBG.out _).mono ?_; rintro e' w7 ⟨rfl, hb7⟩)
    go_ret
    exact ⟨rfl, HB4.out.trans (hb7.mono HB4.out.size)⟩
  · obtain ⟨w4, hw4⟩ : ∃ w4, w4 = w3.alloc (.cells #[.slice A3 d.length c3, .bool q] 24) := ⟨_, rfl⟩
    have hb34 : Below w3.heap.size w3 w4 := by rw [hw4]; exact (Below.refl _ _).alloc (Nat.le_refl _) _
    have hb24 := hb3.trans (hb34.mono hb3.size)
    have HD4 := Lib.hid (HD2.out.next hb24)
    have HX4 := Lib.hid (show Held w4 w3.heap.size A3 d.length c3 q d from by rw [hw4]; exact Held.new hs3 q)
    have HT4 := Lib.hid (sl_next ht3 hb34)
    have HB4 := Lib.hid (HB2.out.trans (hb24.mono HB2.out.size))
    have HTO := Lib.hid (touched_any A5 es.length c5 (stepsD l es) w4 w4.heap.size HT4.out (Nat.le_refl _) (by rw [steps_len]; exact h40) (steps_kind _ _ _ hrun))
    have HRS := Lib.hid (fun (n : Nat) (h : (n : Int) ∉ touD (stepsD l es)) => rest_law hrun h)
    have htl : (touD (stepsD l es)).length ≤ 80 := by have h1 := touD_len (stepsD l es); have h2 := nodes_len (stepsD l es); rw [steps_len] at h2; omega
    have HTL := Lib.hid htl
    have HFEW : Hid (d.length ≤ 200) := (runE_good _ _ _ (good_of hck) hrun).small
    rw [← hw4]
    clear hw4 hb24 hb34 hb3 hs3 ht3 hal hck hrun h40 htl x0 x1 HDO HD2 HE2
    go_upto_region 5 with fail
    go_upto_region 6 with (go_at_call 12; refine HTO.out.mono ?_; rintro e' w5 ⟨hb5, A7, c7, rfl, hs5⟩)
    have HD5 := Lib.hid (HD4.out.next hb5)
    have HX5 := Lib.hid (HX4.out.next hb5)
    have HS5 := Lib.hid (Sl.ltr hs5)
    have HB5 := Lib.hid (HB4.out.trans (hb5.mono HB4.out.size))
    clear hb5 hs5 HTO HD4 HX4 HT4 HB4
    generalize touD (stepsD l es) = t at *
    have htl := HTL.out
    go_upto_region 7 with fail
    go_loopw [10] (fun s wr => ∃ i : Nat, i ≤ d.length ∧ s = .int .i64 (i : Int) ∧ Hid (Below w5.heap.size w5 wr)) (fun s _ => d.length - (intOf s).toNat)
    case atStart => exact ⟨0, Nat.zero_le _, rfl, Lib.hid (Below.refl _ _)⟩
    case round =>
      obtain ⟨i, hi, rfl, HR⟩ := hrel
      have o0 := (HX5.out.next HR.out).c0
      have HBR := Lib.hid (HB5.out.trans (HR.out.mono HB5.out.size))
      have HFW := HFEW.out
      by_cases hlt : i < d.length
      · have i1 : (i : Int) < (d.length : Int) := by omega
        go_upto_region 11 with fail
        obtain ⟨wo, hwo⟩ : ∃ wo : World, wo = wr := ⟨_, rfl⟩
        rw [← hwo] at HR HBR
        rw [← hwo]
        clear hwo o0
        go_loopw [11, 12] (fun b s wz => ∃ j : Nat, j ≤ t.length ∧ s = .int .i64 (j : Int) ∧ b = .bool ((t.take j).contains (i : Int)) ∧ Hid (Below wo.heap.size wo wz)) (fun _ s _ => t.length - (intOf s).toNat)
        case atStart => exact ⟨0, Nat.zero_le _, rfl, by simp, Lib.hid (Below.refl _ _)⟩
        case round =>
          obtain ⟨j, hj, rfl, rfl, HJ⟩ := hrel
          by_cases hlt2 : j < t.length
          · obtain ⟨x, hx⟩ : ∃ x, t[j]? = some x := get_some hlt2
            have hbz := HR.out.trans (HJ.out.mono HR.out.size)
            obtain ⟨b2, o2, rfl, _, hc2, _⟩ := (sl_next HS5.out hbz).int hx
            have HSN := Lib.hid (contains_snoc (i := (i : Int)) hx)
            obtain ⟨b0, hb0⟩ : ∃ b0, (t.take j).contains (i : Int) = b0 := ⟨_, rfl⟩
            rw [hb0] at HSN ⊢
            have hcap := HS5.out.hc
            clear hx hb0 hbz
            cases b0 with
            | true =>
              go_wp2_with fail
              go_roundw
              case rel => exact ⟨j + 1, by omega, by go_num, by rw [HSN.out]; rfl, HJ⟩
              case measure => simp [intOf]; omega
            | false =>
              go_wp2_with fail
              go_roundw
              case rel => exact ⟨j + 1, by omega, by go_num, by rw [HSN.out]; rfl, HJ⟩
              case measure => simp [intOf]; omega
          · obtain rfl : j = t.length := by omega
            rw [List.take_length]
            have hbz := HR.out.trans (HJ.out.mono HR.out.size)
            have hwz := HBR.out.trans (HJ.out.mono HBR.out.size)
            have HBZ := Lib.hid hbz
            have HWZ := Lib.hid hwz
            have H6 := Lib.hid (HD5.out.next hbz)
            have H7 := Lib.hid (HX5.out.next hbz)
            have x0 := H6.out.c0
            have x1 := H6.out.c1
            have o0 := H7.out.c0
            have o1 := H7.out.c1
            clear hbz hwz
            cases hin : t.contains (i : Int) with
            | true =>
              clear hin
              go_upto_region 14 with fail
              go_quiet (fail)
              generalize hwv : wr.drewN _ = wv
              have HBV : Hid (Below w5.heap.size w5 wv) := by rw [← hwv]; exact below_dN HBZ.out _
              clear hwv
              go_wp2_with fail
              go_roundw
              case rel => exact ⟨i + 1, by omega, by go_num, HBV⟩
              case measure => simp [intOf]; omega
            | false =>
              have hsame := HRS.out i (fun h => by
                rw [← List.contains_iff_mem, hin] at h
                cases h)
              obtain ⟨x, hdx⟩ : ∃ x, d[i]? = some x := get_some hlt
              have hx : l[i]? = some x := hsame.symm.trans hdx
              have hil := (List.getElem?_eq_some_iff.1 hx).1
              obtain ⟨b1, p1, rfl, hd1⟩ := doc_at H6.out.doc (by omega)
              obtain ⟨b2, p2, rfl, hd2⟩ := doc_at H7.out.doc (by omega)
              have HP1 := Lib.hid (sl_one H6.out.doc hx)
              have HP2 := Lib.hid (sl_one H7.out.doc hdx)
              have hcap4 := H7.out.doc.hc
              have hw1 : IntKind.i64.wrap ((i : Int) + 1) = (i : Int) + 1 := IntWalk.i64_in _ (by omega)
              have HSD := Lib.hid (fun (u : World) (h : Below wr.heap.size wr u) => sameDoc_same (some ⟨b1, p1 + i * 6, none⟩) 1 (c - i) (some ⟨b2, p2 + i * 6, none⟩) (c3 - i) [x] false u wr.heap.size (HP1.out.below h (Nat.le_refl _)) (HP2.out.below h (Nat.le_refl _)) h.size)
              have hge : decide ((l.length : Int) ≤ (i : Int)) = false := decide_eq_false (by omega)
              clear hin hsame hx hdx hd1 hd2
              go_upto_region 14 with fail
              go_cut [81] (fun b wx => b = .bool false ∧ Below wr.heap.size wr wx)
              case first =>
                refine wp_region_G (S := fun w' : World => w'.cell? ⟨w.heap.size, 0, none⟩ = some (.slice (some ⟨b1, p1, none⟩) l.length c) ∧ w'.cell? ⟨w3.heap.size, 0, none⟩ = some (.slice (some ⟨b2, p2, none⟩) d.length c3)) (T := []) (by kernel_rfl) ?_
                have hS : (fun w' : World => w'.cell? ⟨w.heap.size, 0, none⟩ = some (.slice (some ⟨b1, p1, none⟩) l.length c) ∧ w'.cell? ⟨w3.heap.size, 0, none⟩ = some (.slice (some ⟨b2, p2, none⟩) d.length c3)) wr.drew := ⟨x0, o0⟩
                refine wpAnyG_pureW (i := 0) (v := ?_) rfl (by kernel_rfl) (by kernel_rfl) (by kernel_rfl) (fun _ _ _ h => h) (by kernel_rfl) ?_ ?_
                rotate_left
                · intro w'
                  first | (go_simp; done) | (go_simp; with_reducible rfl)
                refine wpAnyG_pureW (i := 1) (v := ?_) rfl (by kernel_rfl) (by kernel_rfl) (by kernel_rfl) (fun _ _ _ h => h) (by kernel_rfl) ?_ ?_
                rotate_left
                · intro w'
                  first | (go_simp; done) | (go_simp; with_reducible rfl)
                refine wpAnyG_pureW (i := 2) (v := ?_) rfl (by kernel_rfl) (by kernel_rfl) (by kernel_rfl) (fun _ _ _ h => h) (by kernel_rfl) ?_ ?_
                rotate_left
                · intro w'
                  first | (go_simp; done) | (go_simp; with_reducible rfl)
                refine wpAnyG_pureW (i := 3) (v := ?_) rfl (by kernel_rfl) (by kernel_rfl) (by kernel_rfl) (fun _ _ _ h => h) (by kernel_rfl) ?_ ?_
                rotate_left
                · intro w'
                  first | (go_simp; done) | (go_simp; with_reducible rfl)
                refine wpAnyG_pureW (i := 4) (v := ?_) rfl (by kernel_rfl) (by kernel_rfl) (by kernel_rfl) (fun _ _ _ h => h) (by kernel_rfl) ?_ ?_
                rotate_left
                · intro w'
                  first | (go_simp; done) | (go_simp; with_reducible rfl)
                refine wpAnyG_takeW (i := 5) (v := ?_) rfl (by kernel_rfl) (by kernel_rfl) (by kernel_rfl) (by kernel_rfl) (fun _ _ _ h => h) hS (by kernel_rfl) ?_ ?_
                rotate_left
                · intro w' hSw
                  (try dsimp only at hSw)
                  first | (go_simp; done) | (go_simp; with_reducible rfl)
                refine wpAnyG_pureW (i := 6) (v := ?_) rfl (by kernel_rfl) (by kernel_rfl) (by kernel_rfl) (fun _ _ _ h => h) (by kernel_rfl) ?_ ?_
                rotate_left
                · intro w'
                  first | (go_simp; done) | (go_simp; with_reducible rfl)
                refine wpAnyG_pureW (i := 7) (v := .bool false) rfl (by kernel_rfl) (by kernel_rfl) (by kernel_rfl) (fun _ _ _ h => h) (by kernel_rfl) ?_ ?_
                · intro w'
                  go_simp
                refine wpAnyG_pureW (i := 8) (v := ?_) rfl (by kernel_rfl) (by kernel_rfl) (by kernel_rfl) (fun _ _ _ h => h) (by kernel_rfl) ?_ ?_
                rotate_left
                · intro w'
                  first | (go_simp; done) | (go_simp; with_reducible rfl)
                refine wpAnyG_pureW (i := 9) (v := ?_) rfl (by kernel_rfl) (by kernel_rfl) (by kernel_rfl) (fun _ _ _ h => h) (by kernel_rfl) ?_ ?_
                rotate_left
                · intro w'
                  first | (go_simp; done) | (go_simp; with_reducible rfl)
                refine wpAnyG_takeW (i := 10) (v := ?_) rfl (by kernel_rfl) (by kernel_rfl) (by kernel_rfl) (by kernel_rfl) (fun _ _ _ h => h) hS (by kernel_rfl) ?_ ?_
                rotate_left
                · intro w' hSw
                  (try dsimp only at hSw)
                  first | (go_simp; done) | (go_simp; with_reducible rfl)
                refine wpAnyG_pureW (i := 11) (v := ?_) rfl (by kernel_rfl) (by kernel_rfl) (by kernel_rfl) (fun _ _ _ h => h) (by kernel_rfl) ?_ ?_
                rotate_left
                · intro w'
                  first | (go_simp; done) | (go_simp; with_reducible rfl)
                refine wpAnyG_pureW (i := 12) (v := ?_) rfl (by kernel_rfl) (by kernel_rfl) (by kernel_rfl) (fun _ _ _ h => h) (by kernel_rfl) ?_ ?_
                rotate_left
                · intro w'
                  first | (go_simp; done) | (go_simp; with_reducible rfl)
                refine wpAnyG_pureW (i := 13) (v := .int .i64 ((i : Int) + 1)) rfl (by kernel_rfl) (by kernel_rfl) (by kernel_rfl) (fun _ _ _ h => h) (by kernel_rfl) ?_ ?_
                · intro w'
                  go_simp
                refine wpAnyG_pureW (i := 14) (v := .slice (some ⟨b1, p1 + i * 6, none⟩) 1 (c - i)) rfl (by kernel_rfl) (by kernel_rfl) (by kernel_rfl) (fun _ _ _ h => h) (by kernel_rfl) ?_ ?_
                · intro w'
                  go_simp; rw [if_pos ⟨by omega, by omega⟩, if_neg (by omega)]
                refine wpAnyG_pureW (i := 15) (v := ?_) rfl (by kernel_rfl) (by kernel_rfl) (by kernel_rfl) (fun _ _ _ h => h) (by kernel_rfl) ?_ ?_
                rotate_left
                · intro w'
                  first | (go_simp; done) | (go_simp; with_reducible rfl)
                refine wpAnyG_pureW (i := 16) (v := ?_) rfl (by kernel_rfl) (by kernel_rfl) (by kernel_rfl) (fun _ _ _ h => h) (by kernel_rfl) ?_ ?_
                rotate_left
                · intro w'
                  first | (go_simp; done) | (go_simp; with_reducible rfl)
                refine wpAnyG_takeW (i := 17) (v := ?_) rfl (by kernel_rfl) (by kernel_rfl) (by kernel_rfl) (by kernel_rfl) (fun _ _ _ h => h) hS (by kernel_rfl) ?_ ?_
                rotate_left
                · intro w' hSw
                  (try dsimp only at hSw)
                  first | (go_simp; done) | (go_simp; with_reducible rfl)
                refine wpAnyG_pureW (i := 18) (v := ?_) rfl (by kernel_rfl) (by kernel_rfl) (by kernel_rfl) (fun _ _ _ h => h) (by kernel_rfl) ?_ ?_
                rotate_left
                · intro w'
                  first | (go_simp; done) | (go_simp; with_reducible rfl)
                refine wpAnyG_pureW (i := 19) (v := ?_) rfl (by kernel_rfl) (by kernel_rfl) (by kernel_rfl) (fun _ _ _ h => h) (by kernel_rfl) ?_ ?_
                rotate_left
                · intro w'
                  first | (go_simp; done) | (go_simp; with_reducible rfl)
                refine wpAnyG_pureW (i := 20) (v := .int .i64 ((i : Int) + 1)) rfl (by kernel_rfl) (by kernel_rfl) (by kernel_rfl) (fun _ _ _ h => h) (by kernel_rfl) ?_ ?_
                · intro w'
                  go_simp
                refine wpAnyG_pureW (i := 21) (v := .slice (some ⟨b2, p2 + i * 6, none⟩) 1 (c3 - i)) rfl (by kernel_rfl) (by kernel_rfl) (by kernel_rfl) (fun _ _ _ h => h) (by kernel_rfl) ?_ ?_
                · intro w'
                  go_simp; rw [if_pos ⟨by omega, by omega⟩, if_neg (by omega)]
                refine wpAnyG_pureW (i := 22) (v := ?_) rfl (by kernel_rfl) (by kernel_rfl) (by kernel_rfl) (fun _ _ _ h => h) (by kernel_rfl) ?_ ?_
                rotate_left
                · intro w'
                  first | (go_simp; done) | (go_simp; with_reducible rfl)
                refine wpAnyG_oneW (i := 23) (by kernel_rfl) rfl (by kernel_rfl) (fun K hK => ?_)
                go_simp
                go_at_call 11
                refine (HSD.out _ ((Below.refl _ wr).drew)).mono ?_
                rintro e' w7 ⟨rfl, hb7⟩
                have hb70 : Below wr.heap.size wr w7 := ((Below.refl _ wr).drew).trans hb7
                have r0 := cell_be x0 hb70
                have r1 := cell_be o0 hb70
                go_wp2_with fail
                refine hK.out _ _ (fun _ _ => ⟨r0, r1⟩) ?_
                clear hK K hS
                refine wpAnyG_pureW (i := 24) (v := ?_) rfl (by kernel_rfl) (by kernel_rfl) (by kernel_rfl) (fun _ _ _ h => h) (by kernel_rfl) ?_ ?_
                rotate_left
                · intro w'
                  first | (go_simp; done) | (go_simp; with_reducible rfl)
                refine wpAnyG_pureW (i := 25) (v := ?_) rfl (by kernel_rfl) (by kernel_rfl) (by kernel_rfl) (fun _ _ _ h => h) (by kernel_rfl) ?_ ?_
                rotate_left
                · intro w'
                  first | (go_simp; done) | (go_simp; with_reducible rfl)
                refine wpAnyG_pureW (i := 26) (v := ?_) rfl (by kernel_rfl) (by kernel_rfl) (by kernel_rfl) (fun _ _ _ h => h) (by kernel_rfl) ?_ ?_
                rotate_left
                · intro w'
                  first | (go_simp; done) | (go_simp; with_reducible rfl)
                refine wpAnyG_done (by kernel_rfl) ?_ _
                go_wp2_with fail
                go_meet
                case rel => exact ⟨rfl, hb70⟩
              case rest =>
                obtain ⟨rfl, hbw⟩ := hcut
                have HBV := Lib.hid (HBZ.out.trans (hbw.mono HBZ.out.size))
                clear hbw
                go_wp2_with fail
                go_roundw
                case rel => exact ⟨i + 1, by omega, by go_num, HBV⟩
                case measure => simp [intOf]; omega
      · have HBG := Lib.hid (recordBegun_any wr)
        go_wp2_with (go_at_call 8; refine HBG.out.mono ?_; rintro e' w6 ⟨rfl, hb6⟩)
        go_ret
        exact ⟨rfl, HBR.out.trans (hb6.mono HBR.out.size)⟩
end Go.Proofs.YtfeighclpaijoaaGreatDoor
