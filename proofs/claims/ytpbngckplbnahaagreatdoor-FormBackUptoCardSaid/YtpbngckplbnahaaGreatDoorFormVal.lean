/-
Forms: the walks of option, chosen, value, told.
-/
import Derived.Test.YtpbngckplbnahaaGreatDoorFormText
namespace Go.Proofs.YtpbngckplbnahaaGreatDoor
open Go.RowKit Go.Cl
attribute [local go_sem ↓] Go.wp_at_zero Go.wp_at_succ
section
variable {w : World} {B F : Nat} {A : Option Addr} {n c : Nat} {q : Bool} {O : Option Addr} {m k : Nat} {l : List Nd} {ord : List Int}
set_option maxRecDepth 100000 in
theorem option_f (T : Tree l) (G : Good l) (h : Fm w B F A n c q O m k l ord) {i : Nat} (hi : i < l.length) :
    Calls Tryz.prog 69 #[.pointer (some ⟨F, 0, none⟩), .int .i64 (i : Int)] w fun e w' => e = .returned (.string (optionF l i)) ∧ Below w.heap.size w w' := by
  have HH := Lib.hid (has_f h hi (⟨#[118, 97, 108, 117, 101]⟩ : ByteArray))
  have HA := Lib.hid (fun W (hW : Below w.heap.size w W) => attr_f (h.below hW) hi (⟨#[118, 97, 108, 117, 101]⟩ : ByteArray))
  have HX := Lib.hid (fun W (hW : Below w.heap.size w W) => text_f T G (h.below hW) hi)
  clear h hi T G
  cases hf : hasF l i (⟨#[118, 97, 108, 117, 101]⟩ : ByteArray) with
  | true =>
    have HR := Lib.hid (show optionF l i = attrF l i (⟨#[118, 97, 108, 117, 101]⟩ : ByteArray) from by unfold optionF; rw [hf]; rfl)
    rw [hf] at HH
    clear hf
    go_enter Tryz.func69, Tryz.ntmps69
    go_wp2_with (first | (go_at_call 61; refine HH.out.mono ?_; rintro e w1 ⟨rfl, hb1⟩; have HB1 := Lib.hid hb1; have HA1 := Lib.hid (HA.out w1 hb1); clear hb1) | (go_at_call 31; refine HA1.out.mono ?_; rintro e w2 ⟨rfl, hb2⟩))
    go_ret
    exact ⟨by rw [HR.out]; rfl, bst HB1.out hb2⟩
  | false =>
    have HR := Lib.hid (show optionF l i = textF l i from by unfold optionF; rw [hf]; rfl)
    rw [hf] at HH
    clear hf
    go_enter Tryz.func69, Tryz.ntmps69
    go_wp2_with (first | (go_at_call 61; refine HH.out.mono ?_; rintro e w1 ⟨rfl, hb1⟩; have HB1 := Lib.hid hb1; have HA1 := Lib.hid (HX.out w1 hb1); clear hb1) | (go_at_call 71; refine HA1.out.mono ?_; rintro e w2 ⟨rfl, hb2⟩))
    go_ret
    exact ⟨by rw [HR.out]; rfl, bst HB1.out hb2⟩
theorem bel_few {l : List Nd} (T : Tree l) (nm : ByteArray) {i : Nat} (hi : i < l.length) : (belR l nm i).length ≤ 200 := by
  have := T.flat_few hi (kidsD l i).length
  rw [List.take_length] at this
  exact Nat.le_trans (List.length_filter_le _ _) this
theorem bel_known {l : List Nd} (T : Tree l) (nm : ByteArray) {i : Nat} (hi : i < l.length) : Known l (belR l nm i) := fun x hx => by
  have h1 := (List.mem_filter.1 hx).1
  have h2 : x ∈ preR l i := by rw [T.pre_step hi]; exact List.mem_cons_of_mem _ h1
  obtain ⟨j, e, hj, _⟩ := (T.pre_chain (41 - upN l i) i hi (by have := (T.deep i hi).1; omega)).2 x h2
  exact ⟨j, e, hj⟩
theorem find_at {α : Type} {p : α → Bool} {l : List α} {j : Nat} {x : α} (hx : l[j]? = some x) (h : (l.take j).find? p = none) (hp : p x = true) : l.find? p = some x := by
  rw [← List.take_append_drop j l, List.find?_append, h]
  obtain ⟨h2, h3⟩ := List.getElem?_eq_some_iff.1 hx
  rw [List.drop_eq_getElem_cons h2, h3, List.find?_cons_of_pos hp]
  rfl
theorem find_no {α : Type} {p : α → Bool} {l : List α} {j : Nat} {x : α} (hx : l[j]? = some x) (h : (l.take j).find? p = none) (hp : p x = false) : (l.take (j + 1)).find? p = none := by
  rw [take_snoc hx, List.find?_append, h, List.find?_cons_of_neg (by rw [hp]; simp)]
  rfl
theorem chosen_few {l : List Nd} (T : Tree l) {i : Nat} (hi : i < l.length) : (chosenF l i).length ≤ 200 := by
  unfold chosenF
  split
  · exact Nat.le_trans (List.length_filter_le _ _) (bel_few T _ hi)
  · split <;> simp
theorem chosen_known {l : List Nd} (T : Tree l) {i : Nat} (hi : i < l.length) : Known l (chosenF l i) := by
  unfold chosenF
  split
  · exact fun x hx => bel_known T _ hi x (List.mem_filter.1 hx).1
  · split
    · rename_i y hy
      exact fun x hx => by
        obtain rfl := List.mem_singleton.1 hx
        exact bel_known T _ hi _ (List.mem_of_find?_eq_some hy)
    · exact fun x hx => by cases hx
theorem own_oneF {w : World} {base : Nat} (x : Int) (hx : (Lit.int .i64 x).wf = true) (hb : base ≤ w.heap.size) : OwnF (tInt .i64) (w.alloc (.cells #[.int .i64 x] 3)) base 3 (.slice (some ⟨w.heap.size, 0, none⟩) 1 1) 1 [x] := 
  ⟨[.int .i64 x], ⟨rfl, .inr ⟨w.heap.size, 1, _, rfl, hb, heap_alloc_new w _, Nat.le_refl _, by decide, rfl, rfl⟩⟩, ⟨[_], [], rfl, ⟨rfl, hx⟩, rfl⟩⟩
set_option maxRecDepth 100000 in
set_option maxHeartbeats 8000000 in
theorem chosen_f (T : Tree l) (h : Fm w B F A n c q O m k l ord) {i : Nat} (hi : i < l.length) :
    Calls Tryz.prog 68 #[.pointer (some ⟨F, 0, none⟩), .int .i64 (i : Int)] w fun e w' => Below w.heap.size w w' ∧ ∃ v, e = .returned v ∧ OwnF (tInt .i64) w' w.heap.size 3 v (chosenF l i).length (chosenF l i) := by
  have HBE := Lib.hid (below_f T (⟨#[111, 112, 116, 105, 111, 110]⟩ : ByteArray) h hi)
  have HF := Lib.hid h
  have hfew := bel_few T (⟨#[111, 112, 116, 105, 111, 110]⟩ : ByteArray) hi
  have HKN := Lib.hid (bel_known T (⟨#[111, 112, 116, 105, 111, 110]⟩ : ByteArray) hi)
  have HR := Lib.hid (show chosenF l i = if 0 < ((belR l (⟨#[111, 112, 116, 105, 111, 110]⟩ : ByteArray) i).filter fun k => hasF l k (⟨#[115, 101, 108, 101, 99, 116, 101, 100]⟩ : ByteArray)).length ∨ hasF l i (⟨#[109, 117, 108, 116, 105, 112, 108, 101]⟩ : ByteArray) = true then (belR l (⟨#[111, 112, 116, 105, 111, 110]⟩ : ByteArray) i).filter fun k => hasF l k (⟨#[115, 101, 108, 101, 99, 116, 101, 100]⟩ : ByteArray)
    else match (belR l (⟨#[111, 112, 116, 105, 111, 110]⟩ : ByteArray) i).find? fun k => !hasF l k (⟨#[100, 105, 115, 97, 98, 108, 101, 100]⟩ : ByteArray) with
      | some k => [k]
      | none => [] from rfl)
  have HI : Hid (i < l.length) := hi
  have HT := Lib.hid T
  clear h hi T
  generalize belR l (⟨#[111, 112, 116, 105, 111, 110]⟩ : ByteArray) i = all at *
  go_enter Tryz.func68, Tryz.ntmps68
  go_upto_region 2 with (go_at_call 114; refine HBE.out.mono ?_; rintro e w1 ⟨v1, rfl, hown1, hb1⟩; obtain ⟨A1, c1, e1, hs1⟩ := OwnF.sl hown1 (by decide) (by show all.length * 8 ≤ _; omega); subst e1)
  have HB1 := Lib.hid hb1
  have HS1 := Lib.hid hs1
  have HF1 := Lib.hid (HF.out.below hb1)
  have hc1 := hs1.hc
  clear hb1 hown1 hs1 HBE HF
  go_upto_region 3 with fail
  go_loopw [15, 4] (fun s v wr => ∃ j : Nat, j ≤ all.length ∧ s = .int .i64 (j : Int) ∧ Hid (OwnF (tInt .i64) wr w1.heap.size 3 v ((all.take j).filter fun k => hasF l k (⟨#[115, 101, 108, 101, 99, 116, 101, 100]⟩ : ByteArray)).length ((all.take j).filter fun k => hasF l k (⟨#[115, 101, 108, 101, 99, 116, 101, 100]⟩ : ByteArray)) ∧ Below w1.heap.size w1 wr)) (fun s _ _ => all.length - (intOf s).toNat)
  case atStart => exact ⟨0, Nat.zero_le _, rfl, Lib.hid ⟨OwnF.nil _ _ _, Below.refl _ _⟩⟩
  case round =>
    obtain ⟨j, hj, rfl, HB⟩ := hrel
    have HFR := Lib.hid (HF1.out.below HB.out.2)
    have HSR := Lib.hid (HS1.out.below HB.out.2 (Nat.le_refl _))
    by_cases hlt : j < all.length
    · obtain ⟨z, hz⟩ : ∃ z, all[j]? = some z := get_some hlt
      obtain ⟨y, rfl, hy⟩ := HKN.out z (List.mem_of_getElem? hz)
      obtain ⟨b8, o8, e8, _, hcell, _⟩ := HSR.out.int hz
      subst e8
      have HHS := Lib.hid (has_f HFR.out hy (⟨#[115, 101, 108, 101, 99, 116, 101, 100]⟩ : ByteArray))
      have hy200 : y < 200 := by have := HT.out.small; omega
      have i5 : (0 : Int) ≤ (j : Int) := by omega
      have i6 : (j : Int) < (all.length : Int) := by omega
      obtain ⟨ps, hps⟩ : ∃ ps, ((all.take j).filter fun k => hasF l k (⟨#[115, 101, 108, 101, 99, 116, 101, 100]⟩ : ByteArray)) = ps := ⟨_, rfl⟩
      have HO0 := Lib.hid HB.out.1
      have HB0 := Lib.hid HB.out.2
      have hpl : ps.length ≤ 200 := by rw [← hps]; have := List.length_filter_le (fun k => hasF l k (⟨#[115, 101, 108, 101, 99, 116, 101, 100]⟩ : ByteArray)) (all.take j); rw [List.length_take] at this; omega
      rw [hps] at HO0
      have HST := Lib.hid (show ((all.take (j + 1)).filter fun k => hasF l k (⟨#[115, 101, 108, 101, 99, 116, 101, 100]⟩ : ByteArray)) = ps ++ if hasF l y (⟨#[115, 101, 108, 101, 99, 116, 101, 100]⟩ : ByteArray) then [(y : Int)] else [] from by
        rw [take_snoc hz, List.filter_append, hps, List.filter_cons]
        rfl)
      clear hz hy hps HB
      cases hf : hasF l y (⟨#[115, 101, 108, 101, 99, 116, 101, 100]⟩ : ByteArray) with
      | false =>
        rw [hf] at HHS HST
        clear hf
        go_wp2_with (go_at_call 61; refine HHS.out.mono ?_; rintro e w2 ⟨rfl, hb2⟩)
        go_roundw
        case rel => exact ⟨j + 1, by omega, by go_num, Lib.hid ⟨by rw [HST.out, if_neg (by simp), List.append_nil]; exact HO0.out.below hb2 (Nat.le_refl _), HB0.out.trans (hb2.mono HB0.out.size)⟩⟩
        case measure => simp [intOf]; omega
      | true =>
        rw [hf] at HHS HST
        clear hf
        go_wp2_with (first | (go_at_call 61; refine HHS.out.mono ?_; rintro e w2 ⟨rfl, hb2⟩; have HO2 := Lib.hid (HO0.out.below hb2 (Nat.le_refl _)); have HB2 := Lib.hid (HB0.out.trans (hb2.mono HB0.out.size)); clear hb2) | (at_builtin; refine wpList_ap1 _ rfl (.tmp 22) (.tmp 24) 23 rfl elemI (v := _) (D := fun _ => False) rfl (OwnF.al HO2.out _) (fun _ h => h.elim) (y := (y : Int)) (cs := [.int .i64 (y : Int)]) rfl ⟨rfl, WalkArith.wf_i64 (by omega)⟩ (cell_new _ _ _) (by omega) (by omega) (by rw [World.size_alloc]; have := HB2.out.size; omega) ?_; intro v9 w9 hown9 _ hbl9 _))
        go_roundw
        case rel => exact ⟨j + 1, by omega, by go_num, Lib.hid ⟨by rw [HST.out, if_pos trivial, List.length_append, List.length_singleton]; exact hown9, (HB2.out.alloc HB2.out.size _).trans hbl9⟩⟩
        case measure => simp [intOf]; omega
    · have e : all.take j = all := List.take_of_length_le (by omega)
      have HOW := HB.out.1
      rw [e] at HOW
      obtain ⟨ps, hps⟩ : ∃ ps, (all.filter fun k => hasF l k (⟨#[115, 101, 108, 101, 99, 116, 101, 100]⟩ : ByteArray)) = ps := ⟨_, rfl⟩
      rw [hps] at HOW HR
      have hpl : ps.length ≤ 200 := by rw [← hps]; have := List.length_filter_le (fun k => hasF l k (⟨#[115, 101, 108, 101, 99, 116, 101, 100]⟩ : ByteArray)) all; omega
      have HO0 := Lib.hid (show OwnF (tInt .i64) wr w.heap.size 3 _ _ ps from Own.down HOW HB1.out.size)
      have HB0 := Lib.hid HB.out.2
      have HHM := Lib.hid (has_f HFR.out HI.out (⟨#[109, 117, 108, 116, 105, 112, 108, 101]⟩ : ByteArray))
      obtain ⟨A6, c6, e6⟩ := Own.form HOW
      subst e6
      clear e HOW hps HB
      by_cases h0 : 0 < ps.length
      · have HR2 := Lib.hid (HR.out.trans (if_pos (.inl h0)))
        have t0 : decide ((0 : Int) < (ps.length : Int)) = true := decide_eq_true (by omega)
        have t0' : decide (0 < ps.length) = true := decide_eq_true h0
        go_wp2_with fail
        refine bodyPost_ret (v := .slice A6 ps.length c6) (by simp [results, Tryz.results68, go_sem]) rfl ⟨bst HB1.out HB0.out, _, rfl, by rw [HR2.out]; exact HO0.out⟩
      · have H0 : Hid (¬ 0 < ps.length) := h0
        have hp0 : ps.length = 0 := by omega
        have HP0 := Lib.hid hp0
        rw [hp0]
        clear h0 hp0
        cases hm : hasF l i (⟨#[109, 117, 108, 116, 105, 112, 108, 101]⟩ : ByteArray) with
        | true =>
          have HR2 := Lib.hid (HR.out.trans (if_pos (.inr hm)))
          rw [hm] at HHM
          clear hm
          go_wp2_with (go_at_call 61; refine HHM.out.mono ?_; rintro e w2 ⟨rfl, hb2⟩)
          refine bodyPost_ret (v := .slice A6 0 c6) (by simp [results, Tryz.results68, go_sem]) rfl ⟨bst HB1.out (bst HB0.out hb2), _, rfl, by rw [HR2.out]; have := HO0.out.below hb2 (Nat.le_refl _); rw [HP0.out] at this ⊢; exact this⟩
        | false =>
          have HR2 := Lib.hid (HR.out.trans (if_neg (fun h => h.elim H0.out fun h => by rw [hm] at h; cases h)))
          rw [hm] at HHM
          clear hm
          go_upto_region 10 with (go_at_call 61; refine HHM.out.mono ?_; rintro e w2 ⟨rfl, hb2⟩)
          have HB2 := Lib.hid (bst HB1.out (bst HB0.out hb2))
          have HF2 := Lib.hid (HFR.out.below hb2)
          have HS2 := Lib.hid (HSR.out.below hb2 HB0.out.size)
          have HZ2 := Lib.hid (bst HB0.out hb2).size
          have hc2 := HS2.out.hc
          clear hb2 HHM HSR HFR HS1 HF1 HO0 HB0
          go_upto_region 11 with fail
          go_loopw [38] (fun s wr => ∃ j : Nat, j ≤ all.length ∧ s = .int .i64 (j : Int) ∧ Hid (Below w2.heap.size w2 wr ∧ (all.take j).find? (fun k => !hasF l k (⟨#[100, 105, 115, 97, 98, 108, 101, 100]⟩ : ByteArray)) = none)) (fun s _ => all.length - (intOf s).toNat)
          case atStart => exact ⟨0, Nat.zero_le _, rfl, Lib.hid ⟨Below.refl _ _, rfl⟩⟩
          case round =>
            obtain ⟨j, hj, rfl, HB⟩ := hrel
            have HFR := Lib.hid (HF2.out.below HB.out.1)
            have HSR := Lib.hid (HS2.out.below HB.out.1 HZ2.out)
            by_cases hlt : j < all.length
            · obtain ⟨z, hz⟩ : ∃ z, all[j]? = some z := get_some hlt
              have HZ := Lib.hid hz
              obtain ⟨y, rfl, hy⟩ := HKN.out z (List.mem_of_getElem? hz)
              obtain ⟨b8, o8, e8, _, hcell, _⟩ := HSR.out.int hz
              subst e8
              have HHS := Lib.hid (has_f HFR.out hy (⟨#[100, 105, 115, 97, 98, 108, 101, 100]⟩ : ByteArray))
              have hy200 : y < 200 := by have := HT.out.small; omega
              have i5 : (0 : Int) ≤ (j : Int) := by omega
              have i6 : (j : Int) < (all.length : Int) := by omega
              clear hz hy
              cases hf : hasF l y (⟨#[100, 105, 115, 97, 98, 108, 101, 100]⟩ : ByteArray) with
              | true =>
                have HNO := Lib.hid (find_no HZ.out HB.out.2 (p := fun k => !hasF l k (⟨#[100, 105, 115, 97, 98, 108, 101, 100]⟩ : ByteArray)) (by rw [hf]; rfl))
                rw [hf] at HHS
                clear hf
                go_wp2_with (go_at_call 61; refine HHS.out.mono ?_; rintro e w3 ⟨rfl, hb3⟩)
                go_roundw
                case rel => exact ⟨j + 1, by omega, by go_num, Lib.hid ⟨bst HB.out.1 hb3, HNO.out⟩⟩
                case measure => simp [intOf]; omega
              | false =>
                have HYES := Lib.hid (find_at HZ.out HB.out.2 (p := fun k => !hasF l k (⟨#[100, 105, 115, 97, 98, 108, 101, 100]⟩ : ByteArray)) (by rw [hf]; rfl))
                rw [hf] at HHS
                clear hf
                have HR3 := Lib.hid (show chosenF l i = [(y : Int)] from by rw [HR2.out, HYES.out])
                go_wp2_with (go_at_call 61; refine HHS.out.mono ?_; rintro e w3 ⟨rfl, hb3⟩; have HB3 := Lib.hid (bst HB2.out (bst HB.out.1 hb3)); clear hb3)
                refine bodyPost_ret (v := .slice (some ⟨w3.heap.size, 0, none⟩) 1 1) (by simp [results, Tryz.results68, go_sem]) rfl ⟨balloc HB3.out _, _, rfl, by rw [HR3.out]; exact own_oneF (y : Int) (WalkArith.wf_i64 (by omega)) HB3.out.size⟩
            · have e : all.take j = all := List.take_of_length_le (by omega)
              have HR3 := Lib.hid (show chosenF l i = [] from by have := HB.out.2; rw [e] at this; rw [HR2.out, this])
              have HB3 := Lib.hid (bst HB2.out HB.out.1)
              clear e
              go_wp2_with fail
              refine bodyPost_ret (v := .slice none 0 0) (by simp [results, Tryz.results68, go_sem]) rfl ⟨HB3.out, _, rfl, by rw [HR3.out]; exact OwnF.nil _ _ _⟩
/-- A node's name in its cell, in a later world. -/
theorem Fm.name_at (h : Fm w B F A n c q O m k l ord) {i : Nat} {x : Nd} (hx : l[i]? = some x) : ∃ b o, A = some ⟨b, o, none⟩ ∧ (i : Int) < (n : Int) ∧ ∀ W, Below w.heap.size w W → W.cell? ⟨F, 0, none⟩ = some (.slice (some ⟨b, o, none⟩) n c) ∧ W.cell? ⟨b, o + i * 6 + 1, none⟩ = some (.string x.name) := by
  obtain ⟨b, o, rfl, i2, Aa, na, ca, Ak, nk, ck, hnd, p0, p1, p2, p3, p4, p5⟩ := h.at_ hx
  exact ⟨b, o, rfl, i2, fun W hW => ⟨cell_be h.c0 hW, cell_be p1 hW⟩⟩
theorem last_at {xs : List Int} (h : 0 < xs.length) : ∃ y, xs[xs.length - 1]? = some y ∧ xs.getLast? = some y := by
  obtain ⟨y, hy⟩ := get_some (l := xs) (k := xs.length - 1) (by omega)
  exact ⟨y, hy, by rw [List.getLast?_eq_getElem?]; exact hy⟩
set_option maxRecDepth 100000 in
set_option maxHeartbeats 8000000 in
theorem value_f (T : Tree l) (G : Good l) (h : Fm w B F A n c q O m k l ord) {i : Nat} (hi : i < l.length) :
    Calls Tryz.prog 34 #[.pointer (some ⟨F, 0, none⟩), .int .i64 (i : Int)] w fun e w' => e = .returned (.string (valueF l i)) ∧ Below w.heap.size w w' := by
  obtain ⟨x, hx⟩ := get_some hi
  obtain ⟨b, o, rfl, i2, hcell⟩ := h.name_at hx
  have HCELL := Lib.hid hcell
  have hat : atD l i = x := atD_at hx
  have HKD := Lib.hid (kind_f G h hi)
  have i1 : (0 : Int) ≤ (i : Int) := by omega
  have HF := Lib.hid h
  have HT := Lib.hid T
  have HG := Lib.hid G
  have HI : Hid (i < l.length) := hi
  have HV0 := Lib.hid (show valueF l i = if x.name.toList == ([116, 101, 120, 116, 97, 114, 101, 97] : List UInt8) then textF l i else if x.name.toList == ([115, 101, 108, 101, 99, 116] : List UInt8) then (match (chosenF l i).getLast? with
    | some k => optionF l k
    | none => ⟨#[]⟩) else if tickF (kindF l i) && !hasF l i (⟨#[118, 97, 108, 117, 101]⟩ : ByteArray) then (⟨#[111, 110]⟩ : ByteArray) else attrF l i (⟨#[118, 97, 108, 117, 101]⟩ : ByteArray) from by unfold valueF; rw [hat]; rfl)
  clear h hx hi hcell hat T G
  go_enter Tryz.func34, Tryz.ntmps34
  go_upto_region 2 with (go_at_call 30; refine HKD.out.mono ?_; rintro e w1 ⟨rfl, hb1⟩)
  have HB1 := Lib.hid hb1
  obtain ⟨c0, c1⟩ := HCELL.out w1 hb1
  clear hb1 HKD
  cases hk1 : (x.name.toList == ([116, 101, 120, 116, 97, 114, 101, 97] : List UInt8)) with
  | true =>
    have HV := Lib.hid (show valueF l i = textF l i from by rw [HV0.out, hk1]; rfl)
    have HX := Lib.hid (text_f HT.out HG.out (HF.out.below HB1.out) HI.out)
    go_wp2_with (go_at_call 71; refine HX.out.mono ?_; rintro e w2 ⟨rfl, hb2⟩)
    go_ret
    exact ⟨by rw [HV.out]; rfl, bst HB1.out hb2⟩
  | false =>
    rw [hk1] at HV0
    cases hk2 : (x.name.toList == ([115, 101, 108, 101, 99, 116] : List UInt8)) with
    | true =>
      have HV1 := Lib.hid (show valueF l i = (match (chosenF l i).getLast? with
        | some k => optionF l k
        | none => ⟨#[]⟩) from by rw [HV0.out, hk2]; rfl)
      have HC := Lib.hid (chosen_f HT.out (HF.out.below HB1.out) HI.out)
      have hfew := chosen_few HT.out HI.out
      have HKN := Lib.hid (chosen_known HT.out HI.out)
      clear HV0
      generalize chosenF l i = cs at *
      go_upto_region 6 with (go_at_call 68; refine HC.out.mono ?_; rintro e w2 ⟨hb2, v2, rfl, hown2⟩; obtain ⟨A2, c2, e2, hs2⟩ := OwnF.sl hown2 (by decide) (by show cs.length * 8 ≤ _; omega); subst e2)
      have HB2 := Lib.hid (bst HB1.out hb2)
      have HS2 := Lib.hid hs2
      have hc2 := hs2.hc
      clear hb2 hown2 hs2 HC
      by_cases h0 : 0 < cs.length
      · obtain ⟨y, hy, hly⟩ := last_at h0
        have HV := Lib.hid (show valueF l i = optionF l y from by rw [HV1.out, hly])
        obtain ⟨z, rfl, hz⟩ := HKN.out y (List.mem_of_getElem? hy)
        obtain ⟨b8, o8, e8, _, hcell, _⟩ := HS2.out.int hy
        subst e8
        have t1 : decide (0 < cs.length) = true := decide_eq_true h0
        have t2 : IntKind.i64.wrap ((cs.length : Int) - 1) = ((cs.length - 1 : Nat) : Int) := by rw [IntWalk.i64_in _ (by omega)]; omega
        have t3 : (0 : Int) ≤ ((cs.length - 1 : Nat) : Int) := by omega
        have t4 : ((cs.length - 1 : Nat) : Int) < (cs.length : Int) := by omega
        have HO := Lib.hid (option_f HT.out HG.out (HF.out.below HB2.out) hz)
        clear hy hly hz HV1
        go_wp2_with (go_at_call 69; go_must (refine HO.out.mono ?_; rintro e w3 ⟨rfl, hb3⟩))
        go_ret
        exact ⟨by rw [HV.out]; rfl, bst HB2.out hb3⟩
      · have hcs : cs = [] := List.eq_nil_of_length_eq_zero (by omega)
        have HV := Lib.hid (show valueF l i = ⟨#[]⟩ from by rw [HV1.out, hcs]; rfl)
        subst hcs
        go_wp2_with fail
        go_ret
        exact ⟨by rw [HV.out]; rfl, HB2.out⟩
    | false =>
      have HV1 := Lib.hid (show valueF l i = if tickF (kindF l i) && !hasF l i (⟨#[118, 97, 108, 117, 101]⟩ : ByteArray) then (⟨#[111, 110]⟩ : ByteArray) else attrF l i (⟨#[118, 97, 108, 117, 101]⟩ : ByteArray) from by rw [HV0.out, hk2]; rfl)
      have HTK := Lib.hid (ticked_f (kindF l i) w1)
      have HHS := Lib.hid (fun W (hW : Below w.heap.size w W) => has_f (HF.out.below hW) HI.out (⟨#[118, 97, 108, 117, 101]⟩ : ByteArray))
      have HAT := Lib.hid (fun W (hW : Below w.heap.size w W) => attr_f (HF.out.below hW) HI.out (⟨#[118, 97, 108, 117, 101]⟩ : ByteArray))
      have HH1 := Lib.hid (HHS.out w1 HB1.out)
      have HA1 := Lib.hid (HAT.out w1 HB1.out)
      clear HV0 HHS
      generalize kindF l i = kd at *
      cases ht : tickF kd with
      | false =>
        have HV := Lib.hid (show valueF l i = attrF l i (⟨#[118, 97, 108, 117, 101]⟩ : ByteArray) from by rw [HV1.out, ht]; rfl)
        rw [ht] at HTK
        clear ht HV1
        go_wp2_with (first | (go_at_call 65; refine HTK.out.mono ?_; rintro e w2 ⟨rfl, rfl⟩) | (go_at_call 31; refine HA1.out.mono ?_; rintro e w3 ⟨rfl, hb3⟩))
        go_ret
        exact ⟨by rw [HV.out]; rfl, bst HB1.out hb3⟩
      | true =>
        rw [ht] at HTK HV1
        clear ht
        cases hh : hasF l i (⟨#[118, 97, 108, 117, 101]⟩ : ByteArray) with
        | false =>
          have HV := Lib.hid (show valueF l i = (⟨#[111, 110]⟩ : ByteArray) from by rw [HV1.out, hh]; rfl)
          rw [hh] at HH1
          clear hh HV1
          go_wp2_with (first | (go_at_call 65; refine HTK.out.mono ?_; rintro e w2 ⟨rfl, rfl⟩) | (go_at_call 61; refine HH1.out.mono ?_; rintro e w3 ⟨rfl, hb3⟩))
          go_ret
          exact ⟨by rw [HV.out]; rfl, bst HB1.out hb3⟩
        | true =>
          have HV := Lib.hid (show valueF l i = attrF l i (⟨#[118, 97, 108, 117, 101]⟩ : ByteArray) from by rw [HV1.out, hh]; rfl)
          rw [hh] at HH1
          clear hh HV1
          go_wp2_with (first | (go_at_call 65; refine HTK.out.mono ?_; rintro e w2 ⟨rfl, rfl⟩) | (go_at_call 61; refine HH1.out.mono ?_; rintro e w3 ⟨rfl, hb3⟩; have HB3 := Lib.hid (bst HB1.out hb3); have HA3 := Lib.hid (HAT.out w3 (bst HB1.out hb3)); clear hb3) | (go_at_call 31; refine HA3.out.mono ?_; rintro e w4 ⟨rfl, hb4⟩))
          go_ret
          exact ⟨by rw [HV.out]; rfl, bst HB3.out hb4⟩
end
end Go.Proofs.YtpbngckplbnahaaGreatDoor
