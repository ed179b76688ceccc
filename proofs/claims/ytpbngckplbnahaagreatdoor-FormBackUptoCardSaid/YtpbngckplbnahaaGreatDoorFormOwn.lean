/-
Forms: the walks of kind and owner.
-/
import Derived.Test.YtpbngckplbnahaaGreatDoorFormKind
namespace Go.Proofs.YtpbngckplbnahaaGreatDoor
open Go.RowKit Go.Cl
attribute [local go_sem ↓] Go.wp_at_zero Go.wp_at_succ

theorem encodeF_le (r : Int) : (Lib.encodeRune r).length ≤ 4 := by rw [← Lib.runeCells_length]; exact (Lib.runeCells_le r).2
theorem mapF_le (f : Int → Int) : ∀ (n : Nat) (l : List UInt8), (Lib.mapGoD f n l).length ≤ 4 * n := by
  intro n
  induction n with
  | zero => intro l; exact Nat.le_refl _
  | succ n ih =>
    intro l
    unfold Lib.mapGoD
    split
    · exact Nat.zero_le _
    · rw [List.length_append]
      have h1 := ih (l.drop (Lib.decodeL l).2)
      split
      · have := encodeF_le (f ((Lib.decodeL l).1 : Int)); omega
      · simp only [List.length_nil]; omega
theorem lower_small {s : ByteArray} (h : s.size ≤ 8) : (lowerF s).size ≤ 400 := by
  have h1 := mapF_le lowB s.data.toList.length s.data.toList
  have h2 : s.data.toList.length = s.size := Array.length_toList
  show (Lib.mapD lowB s.data.toList).toArray.size ≤ 400
  unfold Lib.mapD
  rw [List.size_toArray]
  omega
theorem atD_small {l : List Nd} (G : Good l) (k : Int) : (atD l k).name.size ≤ 400 ∧ ∀ a ∈ (atD l k).attrs, a.2.size ≤ 400 := by
  unfold atD
  by_cases hk : k < 0
  · rw [if_pos hk]; exact ⟨by decide, fun a h => by cases h⟩
  · rw [if_neg hk]
    cases h : l[k.toNat]? with
    | none => exact ⟨by decide, fun a h => by cases h⟩
    | some x =>
      have := (nodeE_iff x).1 (G.each x (List.mem_of_getElem? h))
      exact ⟨this.2.2.2.2, fun a ha => (this.2.2.1.each a ha).2⟩
theorem attrF_small {l : List Nd} (G : Good l) (k : Int) (nm : ByteArray) : (attrF l k nm).size ≤ 400 := ofA_small (atD_small G k).2 nm
theorem kindF_small {l : List Nd} (G : Good l) (k : Int) : (kindF l k).size ≤ 400 := by
  unfold kindF
  split
  · split
    · decide
    · rename_i h
      exact lower_small (by omega)
  · exact (atD_small G k).1
section
variable {w w' : World} {B F : Nat} {A : Option Addr} {n c : Nat} {q : Bool} {O : Option Addr} {m k : Nat} {l : List Nd} {ord : List Int}
set_option maxRecDepth 100000 in
set_option maxHeartbeats 4000000 in
theorem kind_f (G : Good l) (h : Fm w B F A n c q O m k l ord) {i : Nat} (hi : i < l.length) :
    Calls Tryz.prog 30 #[.pointer (some ⟨F, 0, none⟩), .int .i64 (i : Int)] w fun e w' => e = .returned (.string (kindF l i)) ∧ Below w.heap.size w w' := by
  obtain ⟨x, hx⟩ := get_some hi
  obtain ⟨b, o, rfl, i2, Aa, na, ca, Ak, nk, ck, hnd, p0, p1, p2, p3, p4, p5⟩ := h.at_ hx
  have HAT := Lib.hid (attr_f h hi (⟨#[116, 121, 112, 101]⟩ : ByteArray))
  have hat : atD l i = x := atD_at hx
  have c0 := h.c0
  have i1 : (0 : Int) ≤ (i : Int) := by omega
  have HEN := Lib.hid h.env
  have HSM := Lib.hid (attrF_small G i (⟨#[116, 121, 112, 101]⟩ : ByteArray))
  cases hk : (x.name.toList == ([105, 110, 112, 117, 116] : List UInt8)) with
  | false =>
    have HR := Lib.hid (show kindF l i = x.name from by unfold kindF; rw [hat, hk]; rfl)
    have k2 : (x.name.toList != ([105, 110, 112, 117, 116] : List UInt8)) = true := by rw [bne, hk]; rfl
    clear h hx hi hnd p0 p2 p3 p4 p5 hat
    go_enter Tryz.func30, Tryz.ntmps30
    go_wp2_with fail
    go_ret
    exact ⟨by rw [HR.out]; rfl, Below.refl _ _⟩
  | true =>
    have HR0 := Lib.hid (show kindF l i = if 8 < (attrF l i (⟨#[116, 121, 112, 101]⟩ : ByteArray)).size ∨ oneB (lowerF (attrF l i (⟨#[116, 121, 112, 101]⟩ : ByteArray))) (⟨#[32, 104, 105, 100, 100, 101, 110, 32, 116, 101, 120, 116, 32, 110, 117, 109, 98, 101, 114, 32, 99, 104, 101, 99, 107, 98, 111, 120, 32, 114, 97, 100, 105, 111, 32, 115, 117, 98, 109, 105, 116, 32, 114, 101, 115, 101, 116, 32, 98, 117, 116, 116, 111, 110, 32, 105, 109, 97, 103, 101, 32, 102, 105, 108, 101, 32]⟩ : ByteArray) = false then (⟨#[116, 101, 120, 116]⟩ : ByteArray) else lowerF (attrF l i (⟨#[116, 121, 112, 101]⟩ : ByteArray)) from by unfold kindF; rw [hat, hk]; rfl)
    have k2 : (x.name.toList != ([105, 110, 112, 117, 116] : List UInt8)) = false := by rw [bne, hk]; rfl
    clear h hx hi hnd p0 p2 p3 p4 p5 hat
    generalize attrF l i (⟨#[116, 121, 112, 101]⟩ : ByteArray) = tt at *
    go_enter Tryz.func30, Tryz.ntmps30
    go_upto_region 4 with (go_at_call 31; refine HAT.out.mono ?_; rintro e w1 ⟨rfl, hb1⟩)
    have HB1 := Lib.hid hb1
    have HEN1 := Lib.hid (HEN.out.below hb1)
    clear hb1 HAT c0 p1
    by_cases h8 : 8 < tt.size
    · have HR := Lib.hid (HR0.out.trans (if_pos (.inl h8)))
      have t8 : decide ((8 : Int) < (tt.size : Int)) = true := decide_eq_true (by omega)
      have t8' : (8 : Int) < (tt.size : Int) := by omega
      clear h8
      go_wp2_with fail
      go_ret
      exact ⟨by rw [HR.out]; rfl, HB1.out⟩
    · obtain ⟨mm, hmm⟩ := HEN1.out.mx
      have HLO := Lib.hid (lower_f tt (by omega) w1 HEN1.out)
      have HSL := Lib.hid (lower_small (s := tt) (by omega))
      have HLO2 := Lib.hid (fun W (hW : Below w1.heap.size w1 W) => lower_f tt (by omega) W (HEN1.out.below hW))
      have HON := Lib.hid (fun W (hW : Below w1.heap.size w1 W) => one_any (lowerF tt) (⟨#[32, 104, 105, 100, 100, 101, 110, 32, 116, 101, 120, 116, 32, 110, 117, 109, 98, 101, 114, 32, 99, 104, 101, 99, 107, 98, 111, 120, 32, 114, 97, 100, 105, 111, 32, 115, 117, 98, 109, 105, 116, 32, 114, 101, 115, 101, 116, 32, 98, 117, 116, 116, 111, 110, 32, 105, 109, 97, 103, 101, 32, 102, 105, 108, 101, 32]⟩ : ByteArray) mm W (by have := HSL.out; omega) (by decide) (cell_be hmm hW))
      have t8 : decide ((8 : Int) < (tt.size : Int)) = false := decide_eq_false (by omega)
      have t8' : ¬ (8 : Int) < (tt.size : Int) := by omega
      have H8 : Hid (¬ 8 < tt.size) := h8
      clear h8 hmm
      generalize lowerF tt = lo at *
      cases ho : oneB lo (⟨#[32, 104, 105, 100, 100, 101, 110, 32, 116, 101, 120, 116, 32, 110, 117, 109, 98, 101, 114, 32, 99, 104, 101, 99, 107, 98, 111, 120, 32, 114, 97, 100, 105, 111, 32, 115, 117, 98, 109, 105, 116, 32, 114, 101, 115, 101, 116, 32, 98, 117, 116, 116, 111, 110, 32, 105, 109, 97, 103, 101, 32, 102, 105, 108, 101, 32]⟩ : ByteArray) with
      | false =>
        have HR := Lib.hid (HR0.out.trans (if_pos (.inr ho)))
        rw [ho] at HON
        clear ho
        go_wp2_with (first | (go_at_call 66; refine HLO.out.mono ?_; rintro e w2 ⟨rfl, hb2⟩; have HB2 := Lib.hid hb2; have HO2 := Lib.hid (HON.out w2 hb2); clear hb2 HLO) | (go_at_call 27; refine HO2.out.mono ?_; rintro e w3 ⟨rfl, rfl⟩))
        go_ret
        exact ⟨by rw [HR.out]; rfl, bst HB1.out HB2.out⟩
      | true =>
        have HR := Lib.hid (HR0.out.trans (if_neg fun h => h.elim H8.out fun h => by rw [ho] at h; cases h))
        rw [ho] at HON
        clear ho
        go_upto_region 6 with (first | (go_at_call 66; refine HLO.out.mono ?_; rintro e w2 ⟨rfl, hb2⟩; have HB2 := Lib.hid hb2; have HO2 := Lib.hid (HON.out w2 hb2); have HL3 := Lib.hid (HLO2.out w2 hb2); clear hb2 HLO) | (go_at_call 27; refine HO2.out.mono ?_; rintro e w3 ⟨rfl, rfl⟩))
        go_wp2_with (go_at_call 66; refine HL3.out.mono ?_; rintro e w4 ⟨rfl, hb4⟩)
        go_ret
        exact ⟨by rw [HR.out]; rfl, bst HB1.out (bst HB2.out hb4)⟩
/-- The order holds nodes. -/
def Known (l : List Nd) (ord : List Int) : Prop := ∀ x ∈ ord, ∃ j : Nat, x = (j : Int) ∧ j < l.length
set_option maxRecDepth 100000 in
set_option maxHeartbeats 8000000 in
theorem owner_f (T : Tree l) (h : Fm w B F A n c q O m k l ord) (hK : Known l ord) {i : Nat} (hi : i < l.length) :
    Calls Tryz.prog 28 #[.pointer (some ⟨F, 0, none⟩), .int .i64 (i : Int)] w fun e w' => e = .returned (.int .i64 (ownerF l ord i)) ∧ Below w.heap.size w w' := by
  have HH := Lib.hid (has_f h hi (⟨#[102, 111, 114, 109]⟩ : ByteArray))
  have HF := Lib.hid h
  have HT := Lib.hid T
  have HI : Hid (i < l.length) := hi
  have HK := Lib.hid hK
  clear h hi T hK
  go_enter Tryz.func28, Tryz.ntmps28
  cases hf : hasF l i (⟨#[102, 111, 114, 109]⟩ : ByteArray) with
  | false =>
    have HR := Lib.hid (show ownerF l ord i = aboveF l (namedF l (⟨#[102, 111, 114, 109]⟩ : ByteArray)) i from by unfold ownerF; rw [hf]; rfl)
    rw [hf] at HH
    clear hf
    go_upto_region 2 with (go_at_call 61; refine HH.out.mono ?_; rintro e w1 ⟨rfl, hb1⟩)
    have HB1 := Lib.hid hb1
    have HF1 := Lib.hid (HF.out.below hb1)
    have HNF := Lib.hid (named_f F (⟨#[102, 111, 114, 109]⟩ : ByteArray) w1)
    clear hb1 HH
    go_wp2_with (first | (go_at_call 63; refine HNF.out.mono ?_; rintro e w2 ⟨rfl, hx, hb2⟩; have HB2 := Lib.hid hb2; have HA := Lib.hid (above_f HT.out (HF1.out.below hb2) HI.out _ _ named_enters _ (asks_named (HF1.out.below hb2) _ hx)); clear hx hb2 HNF) | (go_at_call 62; refine HA.out.mono ?_; rintro e w3 ⟨rfl, hb3⟩))
    go_ret
    exact ⟨by rw [HR.out]; rfl, bst HB1.out (bst HB2.out hb3)⟩
  | true =>
    have HR := Lib.hid (show ownerF l ord i = match ord.find? (idF l (attrF l i (⟨#[102, 111, 114, 109]⟩ : ByteArray))) with
      | some k => if namedF l (⟨#[102, 111, 114, 109]⟩ : ByteArray) k then k else -1
      | none => -1 from by unfold ownerF; rw [hf]; rfl)
    rw [hf] at HH
    clear hf
    go_upto_region 3 with (go_at_call 61; refine HH.out.mono ?_; rintro e w1 ⟨rfl, hb1⟩)
    have HB1 := Lib.hid hb1
    have HAT := Lib.hid (attr_f (HF.out.below hb1) HI.out (⟨#[102, 111, 114, 109]⟩ : ByteArray))
    have HF1 := Lib.hid (HF.out.below hb1)
    clear hb1 HH
    generalize attrF l i (⟨#[102, 111, 114, 109]⟩ : ByteArray) = fid at *
    go_upto_region 4 with (go_at_call 31; refine HAT.out.mono ?_; rintro e w2 ⟨rfl, hb2⟩)
    have HB2 := Lib.hid (bst HB1.out hb2)
    have HF2 := Lib.hid (HF1.out.below hb2)
    have c2 := HF2.out.c2
    have HOL := Lib.hid HF2.out.ord.hn
    have hoc := HF2.out.ord.hc
    clear hb2 HAT HF1 HB1
    go_upto_region 5 with fail
    go_loopw [25] (fun s wr => ∃ j : Nat, j ≤ m ∧ s = .int .i64 (j : Int) ∧ Hid (Below w2.heap.size w2 wr ∧ (ord.take j).find? (idF l fid) = none)) (fun s _ => m - (intOf s).toNat)
    case atStart => exact ⟨0, Nat.zero_le _, rfl, Lib.hid ⟨Below.refl _ _, rfl⟩⟩
    case round =>
      obtain ⟨j, hj, rfl, HB⟩ := hrel
      by_cases hlt : j < m
      · obtain ⟨z, hz⟩ : ∃ z, ord[j]? = some z := get_some (by have := HOL.out; omega)
        obtain ⟨y, rfl, hy⟩ := HK.out z (List.mem_of_getElem? hz)
        have HFR := Lib.hid (HF2.out.below HB.out.1)
        obtain ⟨ob, oo, eo, _, hcell, _⟩ := HFR.out.ord.int hz
        rw [eo] at *
        have HHI := Lib.hid (has_f HFR.out hy (⟨#[105, 100]⟩ : ByteArray))
        have HAI := Lib.hid (fun W (hW : Below wr.heap.size wr W) => attr_f (HFR.out.below hW) hy (⟨#[105, 100]⟩ : ByteArray))
        have HZ := Lib.hid hz
        have i3 : (0 : Int) ≤ (j : Int) := by omega
        have i4 : (j : Int) < (m : Int) := by omega
        have HY : Hid (y < l.length) := hy
        have hsm := HFR.out.ord.small
        clear hz hy
        cases hb : hasF l y (⟨#[105, 100]⟩ : ByteArray) with
        | false =>
          have HN := Lib.hid (show idF l fid y = false from by unfold idF; rw [hb]; rfl)
          rw [hb] at HHI
          clear hb
          go_wp2_with (go_at_call 61; refine HHI.out.mono ?_; rintro e w3 ⟨rfl, hb3⟩)
          go_roundw
          case rel => exact ⟨j + 1, by omega, by go_num, Lib.hid ⟨bst HB.out.1 hb3, by rw [take_snoc HZ.out, List.find?_append, HB.out.2, List.find?_cons_of_neg (by rw [HN.out]; simp)]; rfl⟩⟩
          case measure => simp [intOf]; omega
        | true =>
          rw [hb] at HHI
          have HHB := Lib.hid hb
          clear hb
          obtain ⟨ya, hya⟩ : ∃ ya, attrF l y (⟨#[105, 100]⟩ : ByteArray) = ya := ⟨_, rfl⟩
          rw [hya] at HAI
          cases he : (ya.toList == fid.toList) with
          | false =>
            have HN := Lib.hid (show idF l fid y = false from by unfold idF; rw [HHB.out, hya, he]; rfl)
            clear hya
            go_wp2_with (first | (go_at_call 61; refine HHI.out.mono ?_; rintro e w3 ⟨rfl, hb3⟩; have HA3 := Lib.hid (HAI.out w3 hb3); have HB3 := Lib.hid hb3; clear hb3 HHI) | (go_at_call 31; refine HA3.out.mono ?_; rintro e w4 ⟨rfl, hb4⟩))
            go_roundw
            case rel => exact ⟨j + 1, by omega, by go_num, Lib.hid ⟨bst HB.out.1 (bst HB3.out hb4), by rw [take_snoc HZ.out, List.find?_append, HB.out.2, List.find?_cons_of_neg (by rw [HN.out]; simp)]; rfl⟩⟩
            case measure => simp [intOf]; omega
          | true =>
            have HN := Lib.hid (show idF l fid y = true from by unfold idF; rw [HHB.out, hya, he]; rfl)
            clear hya
            have HFD := Lib.hid (show ord.find? (idF l fid) = some (y : Int) from by
              rw [← List.take_append_drop j ord, List.find?_append, HB.out.2]
              have h1 : ord.drop j = (y : Int) :: ord.drop (j + 1) := by
                obtain ⟨h2, h3⟩ := List.getElem?_eq_some_iff.1 HZ.out
                rw [List.drop_eq_getElem_cons h2, h3]
              rw [h1, List.find?_cons_of_pos HN.out]
              rfl)
            have HR2 := Lib.hid (show ownerF l ord i = if namedF l (⟨#[102, 111, 114, 109]⟩ : ByteArray) y then (y : Int) else -1 from by rw [HR.out, HFD.out])
            go_upto_region 8 with (first | (go_at_call 61; refine HHI.out.mono ?_; rintro e w3 ⟨rfl, hb3⟩; have HA3 := Lib.hid (HAI.out w3 hb3); have HB3 := Lib.hid hb3; clear hb3 HHI) | (go_at_call 31; refine HA3.out.mono ?_; rintro e w4 ⟨rfl, hb4⟩))
            have HB4 := Lib.hid (bst HB3.out hb4)
            have HF4 := Lib.hid (HFR.out.below (bst HB3.out hb4))
            have HNF := Lib.hid (named_f F (⟨#[102, 111, 114, 109]⟩ : ByteArray) w4)
            clear hb4 HA3 HAI HFD
            have HALL := Lib.hid (fun W (hW : Below w4.heap.size w4 W) X (hX : NmB W F X (⟨#[102, 111, 114, 109]⟩ : ByteArray)) => named1_f (HF4.out.below hW) HY.out (⟨#[102, 111, 114, 109]⟩ : ByteArray) hX)
            cases hn : namedF l (⟨#[102, 111, 114, 109]⟩ : ByteArray) y with
            | true =>
              rw [hn] at HALL
              have HR3 := Lib.hid (HR2.out.trans (if_pos hn))
              clear hn
              go_wp2_with (first | (go_at_call 63; refine HNF.out.mono ?_; rintro e w5 ⟨rfl, hx5, hb5⟩; have HB5 := Lib.hid hb5; have HC5 := Lib.hid (HALL.out w5 hb5 _ hx5); clear hx5 hb5 HNF) | (go_at_call 111; refine HC5.out.mono ?_; rintro e w6 ⟨rfl, hb6⟩))
              go_ret
              exact ⟨by rw [HR3.out]; rfl, bst HB2.out (bst HB.out.1 (bst HB4.out (bst HB5.out hb6)))⟩
            | false =>
              rw [hn] at HALL
              have HR3 := Lib.hid (HR2.out.trans (if_neg (by rw [hn]; simp)))
              clear hn
              go_wp2_with (first | (go_at_call 63; refine HNF.out.mono ?_; rintro e w5 ⟨rfl, hx5, hb5⟩; have HB5 := Lib.hid hb5; have HC5 := Lib.hid (HALL.out w5 hb5 _ hx5); clear hx5 hb5 HNF) | (go_at_call 111; refine HC5.out.mono ?_; rintro e w6 ⟨rfl, hb6⟩))
              go_ret
              exact ⟨by rw [HR3.out]; rfl, bst HB2.out (bst HB.out.1 (bst HB4.out (bst HB5.out hb6)))⟩
      · obtain rfl : j = m := by omega
        have HR2 := Lib.hid (show ownerF l ord i = -1 from by rw [HR.out]; have h1 := HB.out.2; rw [List.take_of_length_le (by have := HOL.out; omega)] at h1; rw [h1])
        go_wp2_with fail
        go_ret
        exact ⟨by rw [HR2.out]; rfl, bst HB2.out HB.out.1⟩
end
end Go.Proofs.YtpbngckplbnahaaGreatDoor
