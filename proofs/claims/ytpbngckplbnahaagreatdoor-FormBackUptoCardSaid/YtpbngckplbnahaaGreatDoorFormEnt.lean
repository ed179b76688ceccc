/-
Forms: the walk of entries.
-/
import Derived.Test.YtpbngckplbnahaaGreatDoorFormTold
namespace Go.Proofs.YtpbngckplbnahaaGreatDoor
open Go.RowKit Go.Cl
attribute [local go_sem ↓] Go.wp_at_zero Go.wp_at_succ

theorem elemEnt : ElemOf Tryz.prog 32 38 2 32 := mkElem Tryz.underlying32 (by kernel_rfl) (z := .agg #[.string ⟨#[]⟩, .string ⟨#[]⟩]) rfl (by decide)
theorem flatDA : Flat tDA := flatPair flatStr flatStr
theorem ent_rep (w : World) (D : Nat → Prop) (a b : ByteArray) (ha : a.size ≤ 1152921504606846976) (hb : b.size ≤ 1152921504606846976) : tDA.rep w D (a, b) [.string a, .string b] := ⟨[_], [_], rfl, ⟨rfl, ha⟩, rfl, hb⟩
theorem own_ent {w : World} {base : Nat} (a b : ByteArray) (ha : a.size ≤ 1152921504606846976) (hb : b.size ≤ 1152921504606846976) (hw : base ≤ w.heap.size) : OwnF tDA (w.alloc (.cells #[.string a, .string b] 38)) base 38 (.slice (some ⟨w.heap.size, 0, none⟩) 1 1) 1 [(a, b)] :=
  ⟨[.string a, .string b], ⟨rfl, .inr ⟨w.heap.size, 1, _, rfl, hw, heap_alloc_new w _, Nat.le_refl _, by decide, rfl, rfl⟩⟩, ⟨[_, _], [], rfl, ent_rep _ _ a b ha hb, rfl⟩⟩
section
variable {l : List Nd} (T : Tree l) (G : Good l)
include T G
theorem optionF_small {i : Nat} (hi : i < l.length) : (optionF l i).size ≤ 80000 := by
  unfold optionF
  split
  · have := attrF_small G i (⟨#[118, 97, 108, 117, 101]⟩ : ByteArray); omega
  · exact textF_small T G hi
theorem valueF_small {i : Nat} (hi : i < l.length) : (valueF l i).size ≤ 80000 := by
  unfold valueF
  split
  · exact textF_small T G hi
  · split
    · cases hg : (chosenF l i).getLast? with
      | none => show (⟨#[]⟩ : ByteArray).size ≤ 80000; decide
      | some y =>
        obtain ⟨z, rfl, hz⟩ := chosen_known T hi y (List.mem_of_getLast? hg)
        exact optionF_small T G hz
    · split
      · decide
      · have := attrF_small G i (⟨#[118, 97, 108, 117, 101]⟩ : ByteArray); omega
end
/-- The last one alone. -/
theorem sl_last {w : World} {D : Nat → Prop} {b o n c : Nat} {xs : List Int} (h : Sl (tInt .i64) w D (some ⟨b, o, none⟩) n c xs) (h0 : 0 < n) : Sl (tInt .i64) w D (some ⟨b, o + (n - 1), none⟩) 1 (c - (n - 1)) (xs.drop (xs.length - 1)) := by
  have hn := h.hn
  have hc := h.hc
  have hd : (xs.drop (n - 1)).length = 1 := by rw [List.length_drop]; omega
  refine ⟨by rw [← hn, hd], by omega, by decide, ?_, (fun e => by cases e), fun _ => ?_⟩
  · have := h.hm; omega
  · obtain ⟨b', o', cs, e, h1, h2, h3⟩ := h.at_ h0
    injection e with e
    injection e with e1 e2 _
    subst e1 e2
    have h4 := h2.drop (xs.length - 1)
    rw [show (xs.length - 1) * (tInt .i64).size = xs.length - 1 from Nat.mul_one _] at h4
    refine ⟨b, o + (n - 1), _, rfl, h1, h4, fun j u hu => ?_⟩
    rw [List.getElem?_drop] at hu
    rw [show o + (n - 1) + j = o + (xs.length - 1 + j) from by omega]
    exact h3 _ u hu
theorem sl_zero {α : Type} (T : Ty α) (w : World) (D : Nat → Prop) (A : Option Addr) : Sl T w D A 0 0 ([] : List α) := ⟨rfl, Nat.le_refl _, by simp, Nat.zero_le _, fun _ => rfl, fun h0 => absurd h0 (by omega)⟩
theorem sl_map0 {α : Type} {T : Ty α} {w : World} {D : Nat → Prop} {A : Option Addr} {c : Nat} (h : Sl T w D A 0 c ([] : List α)) (f : Addr → Addr) (k : Nat) : Sl T w D (A.map f) 0 (c - k) ([] : List α) := by
  refine ⟨rfl, Nat.zero_le _, by simp, by have := h.hm; omega, fun e => ?_, fun h0 => absurd h0 (by omega)⟩
  cases A with
  | none => have := h.nil_ rfl; omega
  | some _ => cases e
section
variable {w : World} {B F : Nat} {A : Option Addr} {n c : Nat} {q : Bool} {O : Option Addr} {m k : Nat} {l : List Nd} {ord : List Int}
/-- What entries makes. -/
def EntPost (w : World) (xs : List Ent) (e : Ending) (w' : World) : Prop := Below w.heap.size w w' ∧ ∃ v, e = .returned v ∧ OwnF tDA w' w.heap.size 38 v xs.length xs
set_option maxRecDepth 100000 in
set_option maxHeartbeats 8000000 in
theorem entries_f (T : Tree l) (G : Good l) (h : Fm w B F A n c q O m k l ord) {i : Nat} (hi : i < l.length) :
    Calls Tryz.prog 32 #[.pointer (some ⟨F, 0, none⟩), .int .i64 (i : Int)] w (EntPost w (entriesF l i)) := by
  obtain ⟨x, hx⟩ := get_some hi
  obtain ⟨b, o, rfl, i2, hcell⟩ := h.name_at hx
  have HCELL := Lib.hid hcell
  have hat : atD l i = x := atD_at hx
  have HAT := Lib.hid (attr_f h hi (⟨#[110, 97, 109, 101]⟩ : ByteArray))
  have i1 : (0 : Int) ≤ (i : Int) := by omega
  have HF := Lib.hid h
  have HT := Lib.hid T
  have HG := Lib.hid G
  have HI : Hid (i < l.length) := hi
  have HNS := Lib.hid (attrF_small G i (⟨#[110, 97, 109, 101]⟩ : ByteArray))
  have HR0 := Lib.hid (show entriesF l i = if x.name.toList == ([115, 101, 108, 101, 99, 116] : List UInt8) then
    (if hasF l i (⟨#[109, 117, 108, 116, 105, 112, 108, 101]⟩ : ByteArray) then chosenF l i else (chosenF l i).drop ((chosenF l i).length - 1)).map fun k => (attrF l i (⟨#[110, 97, 109, 101]⟩ : ByteArray), optionF l k)
    else [(attrF l i (⟨#[110, 97, 109, 101]⟩ : ByteArray), valueF l i)] from by unfold entriesF; rw [hat])
  clear h hx hi hcell hat T G
  generalize attrF l i (⟨#[110, 97, 109, 101]⟩ : ByteArray) = nm at *
  cases hk : (x.name.toList == ([115, 101, 108, 101, 99, 116] : List UInt8)) with
  | false =>
    have HR := Lib.hid (show entriesF l i = [(nm, valueF l i)] from by rw [HR0.out, hk]; rfl)
    have k2 : (x.name.toList != ([115, 101, 108, 101, 99, 116] : List UInt8)) = true := by rw [bne, hk]; rfl
    have HV := Lib.hid (fun W (hW : Below w.heap.size w W) => value_f HT.out HG.out (HF.out.below hW) HI.out)
    have HVS := Lib.hid (valueF_small HT.out HG.out HI.out)
    clear HR0
    generalize valueF l i = vv at *
    go_enter Tryz.func32, Tryz.ntmps32
    go_upto_region 2 with (go_at_call 31; refine HAT.out.mono ?_; rintro e w1 ⟨rfl, hb1⟩)
    have HB1 := Lib.hid hb1
    have HV1 := Lib.hid (HV.out w1 hb1)
    obtain ⟨c0, c1⟩ := HCELL.out w1 hb1
    clear hb1 HAT
    go_wp2_with (go_at_call 34; refine HV1.out.mono ?_; rintro e w2 ⟨rfl, hb2⟩; have HB2 := Lib.hid (bst HB1.out hb2); clear hb2)
    refine bodyPost_ret (v := .slice (some ⟨w2.heap.size, 0, none⟩) 1 1) (by simp [results, Tryz.results32, go_sem]) rfl ⟨balloc HB2.out _, _, rfl, ?_⟩
    rw [HR.out]
    exact own_ent nm vv (by have := HNS.out; omega) (by have := HVS.out; omega) HB2.out.size
  | true =>
    have HR1 := Lib.hid (show entriesF l i = (if hasF l i (⟨#[109, 117, 108, 116, 105, 112, 108, 101]⟩ : ByteArray) then chosenF l i else (chosenF l i).drop ((chosenF l i).length - 1)).map fun k => (nm, optionF l k) from by rw [HR0.out, hk]; rfl)
    have k2 : (x.name.toList != ([115, 101, 108, 101, 99, 116] : List UInt8)) = false := by rw [bne, hk]; rfl
    have HC := Lib.hid (fun W (hW : Below w.heap.size w W) => chosen_f HT.out (HF.out.below hW) HI.out)
    have HHM := Lib.hid (fun W (hW : Below w.heap.size w W) => has_f (HF.out.below hW) HI.out (⟨#[109, 117, 108, 116, 105, 112, 108, 101]⟩ : ByteArray))
    have hfew := chosen_few HT.out HI.out
    have HKN := Lib.hid (chosen_known HT.out HI.out)
    clear HR0
    generalize chosenF l i = cs at *
    generalize hasF l i (⟨#[109, 117, 108, 116, 105, 112, 108, 101]⟩ : ByteArray) = mu at *
    go_enter Tryz.func32, Tryz.ntmps32
    go_upto_region 2 with (go_at_call 31; refine HAT.out.mono ?_; rintro e w1 ⟨rfl, hb1⟩)
    have HB1 := Lib.hid hb1
    have HC1 := Lib.hid (HC.out w1 hb1)
    obtain ⟨c0, c1⟩ := HCELL.out w1 hb1
    clear hb1 HAT
    go_upto_region 5 with (go_at_call 68; refine HC1.out.mono ?_; rintro e w2 ⟨hb2, v2, rfl, hown2⟩; obtain ⟨A2, c2, e2, hs2⟩ := OwnF.sl hown2 (by decide) (by show cs.length * 8 ≤ _; omega); subst e2)
    have HB2 := Lib.hid (bst HB1.out hb2)
    have HS2 := Lib.hid hs2
    have HM2 := Lib.hid (HHM.out w2 HB2.out)
    have hc2 := hs2.hc
    clear hb2 hown2 hs2 HC HC1 c0 c1
    go_upto_if 35 with (go_at_call 61; refine HM2.out.mono ?_; rintro e w3 ⟨rfl, hb3⟩)
    have HB3 := Lib.hid (bst HB2.out hb3)
    have HS3 := Lib.hid (HS2.out.below hb3 (Nat.le_refl _))
    have HZ3 := Lib.hid hb3.size
    clear hb3 HM2
    obtain ⟨cs2, hcs2⟩ : ∃ cs2, (if mu then cs else cs.drop (cs.length - 1)) = cs2 := ⟨_, rfl⟩
    have HCS := Lib.hid hcs2
    have HR := Lib.hid (HR1.out.trans (by rw [hcs2]))
    have HKN2 : Hid (Known l cs2) := fun y hy => by
      have := HCS.out
      split at this
      · rw [← this] at hy; exact HKN.out y hy
      · rw [← this] at hy; exact HKN.out y (List.mem_of_mem_drop hy)
    have hfew2 : cs2.length ≤ 200 := by
      rw [← hcs2]
      split
      · exact hfew
      · rw [List.length_drop]; omega
    clear hcs2 HR1
    go_cut [6] (fun v wx => ∃ A7 c7, v = .slice A7 cs2.length c7 ∧ Sl (tInt .i64) wx (lt w2.heap.size) A7 cs2.length c7 cs2 ∧ wx = w3)
    case first =>
      cases mu with
      | true =>
        obtain rfl : cs = cs2 := HCS.out
        go_wp2_with fail
        go_meet
        exact ⟨A2, c2, rfl, HS3.out, rfl⟩
      | false =>
        obtain rfl : cs.drop (cs.length - 1) = cs2 := HCS.out
        by_cases h0 : 0 < cs.length
        · obtain ⟨y, hy⟩ := get_some h0
          obtain ⟨b8, o8, e8, _, _, _⟩ := HS3.out.int hy
          subst e8
          have HL := Lib.hid (sl_last HS3.out h0)
          have hdl : (cs.drop (cs.length - 1)).length = 1 := by rw [List.length_drop]; omega
          have t1 : IntKind.i64.wrap ((cs.length : Int) - 1) = ((cs.length - 1 : Nat) : Int) := by rw [IntWalk.i64_in _ (by omega)]; omega
          have t2 : max ((cs.length - 1 : Nat) : Int) 0 = ((cs.length - 1 : Nat) : Int) := by omega
          have t3 : (0 : Int) ≤ ((cs.length - 1 : Nat) : Int) := by omega
          have t4 : ((cs.length - 1 : Nat) : Int) ≤ (cs.length : Int) := by omega
          have t5 : ((cs.length - 1 : Nat) : Int) ≤ (c2 : Int) := by omega
          have t6 : cs.length - 1 ≤ cs.length := by omega
          have t7 : ¬ c2 = cs.length - 1 := by omega
          have t8 : cs.length - (cs.length - 1) = 1 := by omega
          clear hy
          go_wp2_with fail
          go_meet
          rw [hdl]
          exact ⟨_, _, rfl, HL.out, rfl⟩
        · have hcs : cs = [] := List.eq_nil_of_length_eq_zero (by omega)
          subst hcs
          go_wp2_with fail
          all_goals go_meet
          all_goals first
            | exact ⟨_, _, rfl, sl_zero _ _ _ _, rfl⟩
            | exact ⟨_, _, rfl, (show Sl (tInt .i64) w3 (lt w2.heap.size) _ 0 _ [] from sl_map0 HS3.out _ _), rfl⟩
    case rest =>
      obtain ⟨A7, c7, rfl, hs7, rfl⟩ := hcut
      have HS7 := Lib.hid hs7
      have HN7 := Lib.hid hs7.hn
      have hc7 := hs7.hc
      have HF3 := Lib.hid (HF.out.below HB3.out)
      have HZ2 := Lib.hid HZ3.out
      clear hs7 HF HS3 HCS
      go_upto_region 9 with fail
      go_loopw [44, 7] (fun s v wr => ∃ j : Nat, j ≤ cs2.length ∧ s = .int .i64 (j : Int) ∧ Hid (OwnF tDA wr wc.heap.size 38 v ((cs2.take j).map fun k => (nm, optionF l k)).length ((cs2.take j).map fun k => (nm, optionF l k)) ∧ Below wc.heap.size wc wr)) (fun s _ _ => cs2.length - (intOf s).toNat)
      case atStart => exact ⟨0, Nat.zero_le _, rfl, Lib.hid ⟨OwnF.nil _ _ _, Below.refl _ _⟩⟩
      case round =>
        obtain ⟨j, hj, rfl, HB⟩ := hrel
        have HFR := Lib.hid (HF3.out.below HB.out.2)
        by_cases hlt : j < cs2.length
        · obtain ⟨z, hz⟩ : ∃ z, cs2[j]? = some z := get_some hlt
          have HTS := Lib.hid (take_snoc hz)
          obtain ⟨y, rfl, hy⟩ := HKN2.out z (List.mem_of_getElem? hz)
          obtain ⟨b8, o8, e8, _, hcell, _⟩ := (HS7.out.below HB.out.2 HZ2.out).int hz
          subst e8
          have HO := Lib.hid (option_f HT.out HG.out HFR.out hy)
          have HOS := Lib.hid (optionF_small HT.out HG.out hy)
          have i5 : (0 : Int) ≤ (j : Int) := by omega
          have i6 : (j : Int) < (cs2.length : Int) := by omega
          have HO0 := Lib.hid HB.out.1
          have HB0 := Lib.hid (HB3.out.trans (HB.out.2.mono HB3.out.size))
          have HBC := Lib.hid HB.out.2
          obtain ⟨ps, hps⟩ : ∃ ps, ((cs2.take j).map fun k => (nm, optionF l k)) = ps := ⟨_, rfl⟩
          have hpl : ps.length ≤ 200 := by rw [← hps, List.length_map, List.length_take]; omega
          rw [hps] at HO0
          have HPS := Lib.hid hps
          clear hz hy hps HB
          obtain ⟨ov, hov⟩ : ∃ ov, optionF l (y : Int) = ov := ⟨_, rfl⟩
          rw [hov] at HO HOS
          have HOV := Lib.hid hov
          clear hov
          go_wp2_with (first | (go_at_call 69; refine HO.out.mono ?_; rintro e w5 ⟨rfl, hb5⟩; have HO5 := Lib.hid (HO0.out.below hb5 (Nat.le_refl _)); have HB5 := Lib.hid (bst HB0.out hb5); have HC5 := Lib.hid (bst HBC.out hb5); clear hb5) | (at_builtin; refine wpList_ap1 _ rfl (.tmp 48) (.tmp 54) 32 rfl elemEnt (v := _) (D := fun _ => False) rfl (OwnF.al HO5.out _) (fun _ h => h.elim) (y := (nm, ov)) (cs := [.string nm, .string ov]) rfl (ent_rep _ _ nm ov (by have := HNS.out; omega) (by have := HOS.out; omega)) (cell_new _ _ _) (by omega) (by omega) (by rw [World.size_alloc]; have := HC5.out.size; omega) ?_; intro v9 w9 hown9 _ hbl9 _))
          go_roundw
          case rel =>
            refine ⟨j + 1, by omega, by go_num, Lib.hid ⟨?_, ?_⟩⟩
            · rw [HTS.out, List.map_append, HPS.out, List.map_cons, List.map_nil, HOV.out, List.length_append, List.length_singleton]
              exact hown9
            · exact (HC5.out.alloc HC5.out.size _).trans hbl9
          case measure => simp [intOf]; omega
        · have e : cs2.take j = cs2 := List.take_of_length_le (by omega)
          have HOW := HB.out.1
          rw [e, ← HR.out] at HOW
          have HOW2 := Lib.hid (show OwnF tDA wr w.heap.size 38 _ _ _ from Own.down HOW HB3.out.size)
          have HB0 := Lib.hid (HB3.out.trans (HB.out.2.mono HB3.out.size))
          clear e HOW
          go_wp2_with fail
          refine bodyPost_ret (v := _) (by simp [results, Tryz.results32, go_sem]) rfl ⟨HB0.out, _, rfl, HOW2.out⟩
end
end Go.Proofs.YtpbngckplbnahaaGreatDoor
