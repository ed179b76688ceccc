/-
The law CharsBack, walked.
-/
import Derived.Test.YtabilpahmmkjkaaDoorCharsTwice
namespace Go.Proofs.YtabilpahmmkjkaaDoor
open Go.RowKit Go.Cl

theorem some_at (s : ByteArray) (n k : Nat) (w : World) (_hs : s.size ≤ 1152921504606846976) (_hn : n ≤ 1000000) (hk : min (s.size : Int) (n : Int) = (k : Int)) :
    Calls Tryd.prog 9 #[.string s, .int .i64 n] w fun e w' => e = .returned (.string (s.extract 0 k)) ∧ w' = w := by
  have hk2 : k ≤ s.size := by omega
  go_enter Tryd.func9, Tryd.ntmps9
  go_wp2_with fail
  go_ret
  exact ⟨rfl, rfl⟩
theorem rune_wf {x : Int} (h : (Lit.int .i32 x).wf = true) : -2147483648 ≤ x ∧ x ≤ 2147483647 := by
  have h1 : IntKind.i32.min = -2147483648 := by decide
  have h2 : IntKind.i32.max = 2147483647 := by decide
  simp [Lit.wf, h1, h2] at h
  omega
theorem str_ne {a b : ByteArray} (h : a ≠ b) : (a.toList == b.toList) = false := by
  rw [beq_eq_false_iff_ne]
  intro e
  rw [ByteArray.toList_eq, ByteArray.toList_eq] at e
  exact h (bytes_ext e)
theorem fix_may {x : Int} (h : (0 ≤ x ∧ x < 55296) ∨ (57343 < x ∧ x ≤ 1114111)) : fixR x = x := by
  unfold fixR
  rw [if_pos (by unfold Lib.validRune; exact decide_eq_true h)]
theorem fix_not {x : Int} (h : ¬ ((0 ≤ x ∧ x < 55296) ∨ (57343 < x ∧ x ≤ 1114111))) : fixR x = 65533 := by
  unfold fixR
  rw [if_neg (by unfold Lib.validRune; intro e; exact h (of_decide_eq_true e))]

set_option maxRecDepth 100000 in
set_option maxHeartbeats 3000000 in
theorem charsBack_walk (A : Option Addr) (n c : Nat) (l : List Int) (s : ByteArray) (w : World) (hl : Sl (tInt .i32) w (lt w.heap.size) A n c l) (hs : s.size ≤ 1152921504606846976) (hT : Tabs w) :
    Calls Tryd.prog 4 #[.slice A n c, .string s] w fun e w' => e = .returned (.bool true) ∧ Below w.heap.size w w' := by
  have HT := Lib.hid hT
  have hn1 := hl.small
  have HL := Lib.hid hl.hn
  obtain ⟨k0, hk1, hk2, hk3, _⟩ := min_nat n 200 (by omega)
  obtain ⟨k1, hj1, hj2, hj3, _⟩ := min_nat s.size 300 (by omega)
  have hkc : k0 ≤ c := Nat.le_trans hk2 hl.hc
  have hk := hl.cut_to hk2
  have hlen : (l.take k0).length = k0 := by have := HL.out; rw [List.length_take]; omega
  have HLEN := Lib.hid hlen
  clear hlen hT
  generalize l.take k0 = l' at *
  clear hl
  have HS := Lib.hid (fun W => some_at s 300 k1 W hs (by omega) hj1)
  have hsz : (s.extract 0 k1).size ≤ 300 := by rw [ByteArray.size_extract]; omega
  go_enter Tryd.func4, Tryd.ntmps4
  go_wp2_with fail
  go_quiet ((go_at_call 9; exact Calls.quiet_of_same (HS.out _)))
  generalize s.extract 0 k1 = s' at *
  generalize hw0 : w.drewN _ = w0
  have hb0 : Below w.heap.size w w0 := by rw [← hw0]; exact below_drewNv (Below.refl _ _) _
  have HB0 := Lib.hid hb0
  have hz0 := hb0.size
  have HE := Lib.hid (encode_any A k0 c l' w0 w.heap.size (hk.below hb0 (Nat.le_refl _)) hz0)
  clear hw0 HS hb0
  go_wp2_with fail
  refine HE.out.mono ?_
  rintro e w1 ⟨rfl, hb1⟩
  have HB1 := Lib.hid (HB0.out.trans (hb1.mono hz0))
  have hz1 := hb1.size
  clear HE hb1
  have hel : (ByteArray.mk (encB l').toArray).size ≤ 800 := by
    have h1 := enc_le l'
    have h2 : (ByteArray.mk (encB l').toArray).size = (encB l').length := rfl
    have := HLEN.out
    omega
  have HD := Lib.hid (fun W => decode_any ⟨(encB l').toArray⟩ W (by omega))
  rw [show (ByteArray.mk (encB l').toArray).data.toList = encB l' from rfl, runes_enc, show (signsL 0 (encB l')).length = l'.length from by
    have h := congrArg List.length (runes_enc l')
    unfold runesL at h
    rw [List.length_map, List.length_map] at h
    exact h] at HD
  go_wp2_with fail
  refine (HD.out _).mono ?_
  rintro e w2 ⟨v, rfl, hown, hb2⟩
  have HB2 := Lib.hid (HB1.out.trans (hb2.mono (by omega)))
  have hz2 := hb2.size
  rw [HLEN.out] at hown
  obtain ⟨A2, c2, rfl, hsl⟩ := OwnF.sl hown (by decide) (by show k0 * 4 ≤ _; omega)
  clear HD hb2 hown
  go_wp2_with fail
  refine (charsBegun_any _).mono ?_
  rintro e w3 ⟨rfl, hb3⟩
  have HB3 := Lib.hid (HB2.out.trans (hb3.mono (by omega)))
  have hz3 := hb3.size
  have hsl3 := hsl.below hb3 (Nat.le_refl _)
  have hk3' := hk.below HB3.out (Nat.le_refl _)
  clear hsl hb3
  go_wp2_with fail
  go_loopw [6, 7] (fun i _ wr => ∃ (k : Nat), k ≤ k0 ∧ i = .int .i64 (k : Int) ∧ ∃ q, wr = w3.drewN q) (fun i _ _ => k0 - (intOf i).toNat)
  case atStart => exact ⟨0, Nat.zero_le _, rfl, 0, rfl⟩
  case round =>
    obtain ⟨k, hkk, rfl, q, rfl⟩ := hrel
    by_cases hlt : k < k0
    · obtain ⟨x, hx⟩ : ∃ x, l'[k]? = some x := get_some (by have := HLEN.out; omega)
      obtain ⟨g, o, rfl, hg, hc, hw⟩ := hk3'.int hx
      have hy : (l'.map fixR)[k]? = some (fixR x) := by rw [List.getElem?_map, hx]; rfl
      obtain ⟨g2, o2, rfl, hg2, hc2, hw2⟩ := hsl3.int hy
      have hxr := rune_wf hw
      clear hx hy hw hw2
      have d1 : (w3.drewN q).cell? ⟨g, o + k, none⟩ = some (.int .i32 x) := hc
      have i1 : (0 : Int) ≤ (k : Int) := by omega
      have i2 : (k : Int) < (k0 : Int) := by omega
      by_cases hm : (0 ≤ x ∧ x < 55296) ∨ (57343 < x ∧ x ≤ 1114111)
      · rw [fix_may hm] at hc2
        have d2 : (w3.drewN q).cell? ⟨g2, o2 + k, none⟩ = some (.int .i32 x) := hc2
        rcases hm with ⟨m1, m2⟩ | ⟨m1, m2⟩
        · go_wp2_with fail
          go_quiet (fail)
          go_wp2_with fail
          go_roundw
          case rel => exact ⟨k + 1, by omega, by go_num, _, rfl⟩
          case measure => simp [intOf]; omega
        · have m3 : 0 ≤ x := by omega
          have m4 : ¬ x < 55296 := by omega
          go_wp2_with fail
          go_quiet (fail)
          go_wp2_with fail
          go_roundw
          case rel => exact ⟨k + 1, by omega, by go_num, _, rfl⟩
          case measure => simp [intOf]; omega
      · rw [fix_not hm] at hc2
        have d2 : (w3.drewN q).cell? ⟨g2, o2 + k, none⟩ = some (.int .i32 65533) := hc2
        by_cases m1 : 0 ≤ x
        · have m2 : ¬ x < 55296 := by omega
          by_cases m3 : 57343 < x
          · have m4 : ¬ x ≤ 1114111 := by omega
            clear hm
            go_wp2_with fail
            go_quiet (fail)
            go_wp2_with fail
            go_roundw
            case rel => exact ⟨k + 1, by omega, by go_num, _, rfl⟩
            case measure => simp [intOf]; omega
          · clear hm
            go_wp2_with fail
            go_quiet (fail)
            go_wp2_with fail
            go_roundw
            case rel => exact ⟨k + 1, by omega, by go_num, _, rfl⟩
            case measure => simp [intOf]; omega
        · have m3 : ¬ 57343 < x := by omega
          clear hm
          go_wp2_with fail
          go_quiet (fail)
          go_wp2_with fail
          go_roundw
          case rel => exact ⟨k + 1, by omega, by go_num, _, rfl⟩
          case measure => simp [intOf]; omega
    · have hsg := signs_len s'.data.toList 0
      have hsl' : s'.data.toList.length = s'.size := by simp
      have HBq := Lib.hid (below_drewNv HB3.out q)
      generalize w3.drewN q = wq at *
      have hzq := HBq.out.size
      have HD := Lib.hid (decode_any s' wq (by omega))
      have HN := Lib.hid (show (signsL 0 s'.data.toList).length ≤ 300 from by omega)
      generalize (signsL 0 s'.data.toList).length = n3 at *
      clear hsl3 hk3' hsg hsl'
      go_wp2_with fail
      refine HD.out.mono ?_
      rintro e w4 ⟨v, rfl, hown, hb4⟩
      have hn3 := HN.out
      have hln := Own.len hown (by decide)
      obtain ⟨A4, c4, rfl, hsl4⟩ := OwnF.sl hown (by decide) (by show n3 * 4 ≤ _; omega)
      have HB4 := Lib.hid (HBq.out.trans (hb4.mono hzq))
      have HE4 := Lib.hid (encode_any A4 n3 c4 (runesL s'.data.toList) w4 w4.heap.size hsl4 (Nat.le_refl _))
      have hz4 := HB4.out.size
      have hes := enc_le (runesL s'.data.toList)
      have HES : Hid ((ByteArray.mk (encB (runesL s'.data.toList)).toArray).size ≤ 1200) := by
        show (encB (runesL s'.data.toList)).length ≤ 1200
        omega
      have HQ := Lib.hid (right_iff s'.data.toList)
      have HV1 : Hid (Lib.validD (ByteArray.mk (encB (runesL s'.data.toList)).toArray).data.toList = true) := valid_enc _
      have HEQ : Hid (Lib.validD s'.data.toList = true → ByteArray.mk (encB (runesL s'.data.toList)).toArray = s') := fun h => bytes_ext (enc_runes _ h)
      have HNE : Hid (Lib.validD s'.data.toList = false → ByteArray.mk (encB (runesL s'.data.toList)).toArray ≠ s') := fun h e => by
        rw [← e, HV1.out] at h
        cases h
      clear hown hb4 hsl4 hes hln HQ
      generalize ByteArray.mk (encB (runesL s'.data.toList)).toArray = t at *
      go_wp2_with fail
      refine HE4.out.mono ?_
      rintro e w5 ⟨rfl, hb5⟩
      have HB5 := Lib.hid (HB4.out.trans (hb5.mono hz4))
      have HR1 := Lib.hid (right_any t w5 (by have := HES.out; omega) (Utf8Tabs_below HT.out HB5.out))
      rw [HV1.out] at HR1
      have hz5 := HB5.out.size
      clear hb5
      have HR2 := Lib.hid (fun W (hT : Tabs W) => right_any s' W (by omega) hT)
      have hte := HES.out
      cases hv : Lib.validD s'.data.toList with
      | true =>
        have ht := HEQ.out hv
        rw [hv] at HR2
        subst ht
        clear hv
        go_wp2_with fail
        refine HR1.out.mono ?_
        rintro e w6 ⟨rfl, hb6⟩
        have HB6 := Lib.hid (HB5.out.trans (hb6.mono hz5))
        clear hb6
        go_wp2_with fail
        refine (HR2.out _ (Utf8Tabs_below HT.out HB6.out)).mono ?_
        rintro e w7 ⟨rfl, hb7⟩
        go_wp2_with fail
        go_ret
        exact ⟨rfl, HB6.out.trans (hb7.mono HB6.out.size)⟩
      | false =>
        have ht := str_ne (HNE.out hv)
        rw [hv] at HR2
        clear hv
        go_wp2_with fail
        refine HR1.out.mono ?_
        rintro e w6 ⟨rfl, hb6⟩
        have HB6 := Lib.hid (HB5.out.trans (hb6.mono hz5))
        clear hb6
        go_wp2_with fail
        refine (HR2.out _ (Utf8Tabs_below HT.out HB6.out)).mono ?_
        rintro e w7 ⟨rfl, hb7⟩
        go_wp2_with fail
        go_ret
        exact ⟨rfl, HB6.out.trans (hb7.mono HB6.out.size)⟩
end Go.Proofs.YtabilpahmmkjkaaDoor
