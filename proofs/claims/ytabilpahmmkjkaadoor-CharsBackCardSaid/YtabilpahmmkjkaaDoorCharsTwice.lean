/-
The laws CharsTwice and CharsBack, walked.
-/
import Derived.Test.YtabilpahmmkjkaaDoorDecode
import Derived.Test.YtabilpahmmkjkaaDoorCharsBegun
import Derived.Shelf.Unicode.ValidAny
import Derived.Deep.DeepCutAuto
namespace Go.Proofs.YtabilpahmmkjkaaDoor
open Go.RowKit Go.Cl

theorem signs_len (l : List UInt8) : ∀ k, (signsL k l).length ≤ l.length := by
  induction hn : l.length using Nat.strongRecOn generalizing l with
  | _ n ih =>
    intro k
    by_cases h : 0 < l.length
    · have ho := one_le h
      have hd : (l.drop (oneR l).2).length < n := by rw [List.length_drop]; omega
      have := ih _ hd _ rfl (k + (oneR l).2)
      rw [signs_step h, List.length_cons]
      rw [List.length_drop] at this
      omega
    · rw [signs_end (by omega)]
      exact Nat.zero_le _
/-- The library's tables of UTF-8 lie as its text lays them. -/
abbrev Tabs (w : World) : Prop := Lib.Utf8Tabs (Tryd.laysValid_ren.g 3) (Tryd.laysValid_ren.g 4) w
theorem right_any (s : ByteArray) (w : World) (hs : s.size ≤ 1000000000) (hT : Tabs w) :
    Calls Tryd.prog 11 #[.string s] w fun e w' => e = .returned (.bool (Lib.validD s.data.toList)) ∧ Below w.heap.size w w' := by
  have HV : Hid (∀ W, Tabs W → Calls Tryd.prog 27 #[.string s] W fun e w' => e = .returned (.bool (Lib.validD s.data.toList)) ∧ Below W.heap.size W w') := fun W hT => Any.utf8_ValidString Tryd.laysValid s W (by omega) hT
  go_enter Tryd.func11, Tryd.ntmps11
  go_wp2_with fail
  refine (HV.out _ hT).mono ?_
  rintro e w2 ⟨rfl, hb⟩
  go_wp2_with fail
  go_ret
  exact ⟨rfl, hb⟩
theorem some_any (s : ByteArray) (n : Nat) (w : World) (hs : s.size ≤ 1152921504606846976) (hn : n ≤ 1000000) :
    Calls Tryd.prog 9 #[.string s, .int .i64 n] w fun e w' => (∃ t : ByteArray, e = .returned (.string t) ∧ t.size ≤ n) ∧ w = w' := by
  obtain ⟨k, hk1, hk2, hk3, _⟩ := min_nat s.size (n : Int) (by omega)
  have hkz : (s.extract 0 k).size ≤ n := by rw [ByteArray.size_extract]; omega
  go_enter Tryd.func9, Tryd.ntmps9
  go_wp2_with fail
  go_ret
  exact ⟨⟨s.extract 0 k, rfl, hkz⟩, rfl⟩
/-- A clean text. -/
def CleanT (a : ByteArray) : Prop := ∃ m, (∀ x ∈ m, cleanOne x) ∧ a.data.toList = encB m
theorem bytes_ext {a b : ByteArray} (h : a.data.toList = b.data.toList) : a = b := ByteArray.ext (Array.toList_inj.1 h)
theorem clean_made (s : ByteArray) (w : World) (hs : s.size ≤ 10000) :
    Calls Tryd.prog 8 #[.string s] w fun e w' => (∃ a : ByteArray, e = .returned (.string a) ∧ CleanT a ∧ a.size ≤ 4 * s.size) ∧ Below w.heap.size w w' := by
  refine (clean_any s w (by omega)).mono ?_
  rintro e w' ⟨rfl, hb⟩
  refine ⟨⟨_, rfl, ⟨_, cleanR_one _ _, clean_runes _⟩, ?_⟩, hb⟩
  have h1 := clean_le (signsL 0 s.data.toList)
  have h2 := signs_len s.data.toList 0
  have h3 : s.data.toList.length = s.size := by simp
  have h4 : (ByteArray.mk (cleanL (signsL 0 s.data.toList)).1.toArray).size = (cleanL (signsL 0 s.data.toList)).1.length := rfl
  omega
theorem clean_same (a : ByteArray) (w : World) (hs : a.size ≤ 1000000) (ha : CleanT a) :
    Calls Tryd.prog 8 #[.string a] w fun e w' => e = .returned (.string a) ∧ Below w.heap.size w w' := by
  obtain ⟨m, hm, hd⟩ := ha
  have h := clean_any a w (by omega)
  rw [hd, clean_twice hm] at h
  refine h.mono ?_
  rintro e w' ⟨rfl, hb⟩
  refine ⟨retS (bytes_ext ?_), hb⟩
  rw [hd]
theorem clean_append {a b : ByteArray} (ha : CleanT a) (hb : CleanT b) : CleanT (a ++ b) := by
  obtain ⟨m, hm, hd⟩ := ha
  obtain ⟨n, hn, he⟩ := hb
  refine ⟨m ++ n, fun x hx => (List.mem_append.1 hx).elim (hm x) (hn x), ?_⟩
  rw [enc_app, ← hd, ← he, ByteArray.data_append, Array.toList_append]
theorem clean_right {a : ByteArray} (ha : CleanT a) : Lib.validD a.data.toList = true := by
  obtain ⟨m, hm, hd⟩ := ha
  rw [hd]
  exact valid_enc m
theorem clean_byte {a : ByteArray} (ha : CleanT a) (k : Nat) (hk : k < a.size) : ((a[k].toNat : Int) == 0) = false ∧ ((a[k].toNat : Int) == 13) = false := by
  obtain ⟨m, hm, hd⟩ := ha
  have hx : a[k] ∈ encB m := by
    rw [← hd]
    exact List.mem_of_getElem? (byte_at' hk)
  obtain ⟨h0, h13⟩ := enc_bytes_all hm _ hx
  have e0 : a[k].toNat ≠ 0 := fun e => h0 (UInt8.toNat_inj.1 (by rw [e]; rfl))
  have e13 : a[k].toNat ≠ 13 := fun e => h13 (UInt8.toNat_inj.1 (by rw [e]; rfl))
  constructor
  · rw [beq_eq_false_iff_ne]; omega
  · rw [beq_eq_false_iff_ne]; omega

set_option maxRecDepth 100000 in
set_option maxHeartbeats 1000000 in
theorem charsTwice_walk (s t : ByteArray) (w : World) (hs : s.size ≤ 1152921504606846976) (ht : t.size ≤ 1152921504606846976) (hT : Tabs w) :
    Calls Tryd.prog 3 #[.string s, .string t] w fun e w' => e = .returned (.bool true) ∧ Below w.heap.size w w' := by
  have HT := Lib.hid hT
  clear hT
  go_enter Tryd.func3, Tryd.ntmps3
  go_wp2_with fail
  refine (some_any s 300 _ hs (by omega)).mono ?_
  rintro e w1 ⟨⟨s', rfl, hs'⟩, rfl⟩
  go_wp2_with fail
  refine (clean_made s' _ (by omega)).mono ?_
  rintro e w1 ⟨⟨a, rfl, ha, haz⟩, hb1⟩
  go_wp2_with fail
  refine (some_any t 300 _ ht (by omega)).mono ?_
  rintro e w2 ⟨⟨t', rfl, ht'⟩, rfl⟩
  go_wp2_with fail
  refine (clean_made t' _ (by omega)).mono ?_
  rintro e w2 ⟨⟨b, rfl, hb, hbz⟩, hb2⟩
  have HA := Lib.hid ha
  have HB := Lib.hid hb
  have HW := Lib.hid (hb1.trans (hb2.mono hb1.size))
  clear ha hb hb1 hb2
  go_wp2_with fail
  go_loop [7] (fun i => ∃ k : Nat, k ≤ a.size ∧ i = .int .i64 (k : Int)) (fun i => a.size - (intOf i).toNat)
  case atStart => exact ⟨0, Nat.zero_le _, rfl⟩
  case round =>
    obtain ⟨k, hk, rfl⟩ := hrel
    by_cases hlt : k < a.size
    · obtain ⟨h0, h13⟩ := clean_byte HA.out k hlt
      go_wp2_with fail
      go_round
      case rel => exact ⟨k + 1, by omega, by go_num⟩
      case measure => simp [intOf]; omega
    · have hab : (a ++ b).size ≤ 1000000 := by rw [ByteArray.size_append]; omega
      have HC := Lib.hid (fun W => clean_same a W (by omega) HA.out)
      have HD := Lib.hid (fun W => clean_same (a ++ b) W hab (clean_append HA.out HB.out))
      have HV := Lib.hid (fun W (hT : Tabs W) => right_any a W (by omega) hT)
      rw [clean_right HA.out] at HV
      go_wp2_with fail
      refine (charsBegun_any _).mono ?_
      rintro e w3 ⟨rfl, hb3⟩
      have HW3 := Lib.hid (HW.out.trans (hb3.mono HW.out.size))
      clear hb3
      go_wp2_with fail
      refine (HV.out _ (Utf8Tabs_below HT.out HW3.out)).mono ?_
      rintro e w4 ⟨rfl, hb4⟩
      have HW4 := Lib.hid (HW3.out.trans (hb4.mono HW3.out.size))
      clear hb4
      go_wp2_with fail
      refine (HC.out _).mono ?_
      rintro e w5 ⟨rfl, hb5⟩
      have HW5 := Lib.hid (HW4.out.trans (hb5.mono HW4.out.size))
      clear hb5
      go_wp2_with fail
      refine (HD.out _).mono ?_
      rintro e w6 ⟨rfl, hb6⟩
      have HW6 := Lib.hid (HW5.out.trans (hb6.mono HW5.out.size))
      clear hb6
      go_wp2_with fail
      go_ret
      exact ⟨rfl, HW6.out⟩
end Go.Proofs.YtabilpahmmkjkaaDoor
