/-
The walks of EntityBack: Escape, the law.
-/
import Derived.Test.YtabilpahmmkjkaaDoorEscLaw
import Derived.Lib.ReplaceLaws
import Derived.WalkSpells
namespace Go.Proofs.YtabilpahmmkjkaaDoor
open Go.RowKit Go.Cl

/-- The variable that strings.Index reads. -/
abbrev maxLenAt (w : World) (m : Int) : Prop := w.cell? ⟨2, 0, none⟩ = some (.int .i64 m)
theorem replace_any (s old new : ByteArray) (w : World) (m : Int) (hm : maxLenAt w m) (hs : s.size ≤ 1000000) (h1 : 1 ≤ old.size) (hn : new.size ≤ 6) :
    Calls Tryd.prog 29 #[.string s, .string old, .string new] w fun e w' => e = .returned (.string ⟨(Lib.replaceAll s.data.toList old.data.toList new.data.toList).toArray⟩) ∧ Below w.heap.size w w' := by
  refine Tryd.strings_ReplaceAll s old new m w (by omega) hm h1 ?_
  have h2 := Lib.countB_mul_le old h1 s.size s (Nat.le_refl _)
  have h3 : Lib.countB s old ≤ Lib.countB s old * old.size := Nat.le_mul_of_pos_right _ h1
  have h4 : Lib.countB s old * new.size ≤ Lib.countB s old * 6 := Nat.mul_le_mul_left _ hn
  omega
theorem rep_one' {c : UInt8} {s : ByteArray} {new : List UInt8} (hon : ([c] == new) = false) : Lib.replaceAll s.data.toList (ByteArray.mk #[c]).data.toList new = subst1 c new s.data.toList := rep_one c new hon _

set_option maxRecDepth 100000 in
theorem escape_any (s : ByteArray) (attr : Bool) (w : World) (m : Int) (hm : maxLenAt w m) (hs : s.size ≤ 1000) :
    Calls Tryd.prog 14 #[.string s, .bool attr] w fun e w' => e = .returned (.string ⟨(escL attr s.data.toList).toArray⟩) ∧ Below w.heap.size w w' := by
  have H1 := Lib.hid (replace_any s ⟨#[38]⟩ ⟨#[38, 97, 109, 112, 59]⟩ w m hm (by omega) (by decide) (by decide))
  rw [rep_one' (by decide)] at H1
  have hs1 : (subst1 38 ampN s.data.toList).length ≤ 6000 := by
    have := (sub_len 38 (new := ampN) (by decide) (by decide) s.data.toList).1
    have h : s.data.toList.length = s.size := by simp
    omega
  obtain ⟨s1, hd1⟩ : ∃ s1 : ByteArray, s1 = ⟨(subst1 38 ampN s.data.toList).toArray⟩ := ⟨_, rfl⟩
  have hl1 : s1.size ≤ 6000 := by rw [hd1]; exact hs1
  have hs2 := rep2_len s1.data.toList
  obtain ⟨s2, hd2⟩ : ∃ s2 : ByteArray, s2 = ⟨(rep2 s1.data.toList).toArray⟩ := ⟨_, rfl⟩
  have hl2 : s2.size ≤ 36000 := by
    rw [hd2]
    have h : s1.data.toList.length = s1.size := by simp
    show (rep2 s1.data.toList).length ≤ _
    omega
  have H2 := Lib.hid (fun W (h : maxLenAt W m) => replace_any s1 ⟨#[194, 160]⟩ ⟨#[38, 110, 98, 115, 112, 59]⟩ W m h (by omega) (by decide) (by decide))
  have HE : Hid (escL attr s.data.toList = lastS attr s2.data.toList) := by rw [hd2, hd1]; rfl
  rw [show (ByteArray.mk (Lib.replaceAll s1.data.toList (ByteArray.mk #[194, 160]).data.toList (ByteArray.mk #[38, 110, 98, 115, 112, 59]).data.toList).toArray) = s2 from by rw [hd2]; rfl] at H2
  rw [show (ByteArray.mk (subst1 38 (ByteArray.mk #[38, 97, 109, 112, 59]).data.toList s.data.toList).toArray) = s1 from by rw [hd1]; rfl] at H1
  clear hs1 hs2 hd1 hd2
  cases attr with
  | true =>
    have H3 := Lib.hid (fun W (h : maxLenAt W m) => replace_any s2 ⟨#[34]⟩ ⟨#[38, 113, 117, 111, 116, 59]⟩ W m h (by omega) (by decide) (by decide))
    rw [rep_one' (by decide)] at H3
    go_enter Tryd.func14, Tryd.ntmps14
    go_wp2_with fail
    refine H1.out.mono ?_
    rintro e w1 ⟨rfl, hb1⟩
    have HB1 := Lib.hid hb1
    go_wp2_with fail
    refine (H2.out _ (cell_be hm HB1.out)).mono ?_
    rintro e w2 ⟨rfl, hb2⟩
    have HB2 := Lib.hid (HB1.out.trans (hb2.mono HB1.out.size))
    clear hb2 hb1
    go_wp2_with fail
    refine (H3.out _ (cell_be hm HB2.out)).mono ?_
    rintro e w3 ⟨rfl, hb3⟩
    have HB3 := Lib.hid (HB2.out.trans (hb3.mono HB2.out.size))
    go_wp2_with fail
    go_ret
    exact ⟨by rw [HE.out]; rfl, HB3.out⟩
  | false =>
    have H3 := Lib.hid (fun W (h : maxLenAt W m) => replace_any s2 ⟨#[60]⟩ ⟨#[38, 108, 116, 59]⟩ W m h (by omega) (by decide) (by decide))
    rw [rep_one' (by decide)] at H3
    obtain ⟨s3, hd3⟩ : ∃ s3 : ByteArray, s3 = ⟨(subst1 60 ltN s2.data.toList).toArray⟩ := ⟨_, rfl⟩
    have hl3 : s3.size ≤ 216000 := by
      rw [hd3]
      have := (sub_len 60 (new := ltN) (by decide) (by decide) s2.data.toList).1
      have h : s2.data.toList.length = s2.size := by simp
      show (subst1 60 ltN s2.data.toList).length ≤ _
      omega
    have H4 := Lib.hid (fun W (h : maxLenAt W m) => replace_any s3 ⟨#[62]⟩ ⟨#[38, 103, 116, 59]⟩ W m h (by omega) (by decide) (by decide))
    rw [rep_one' (by decide)] at H4
    rw [show (ByteArray.mk (subst1 60 (ByteArray.mk #[38, 108, 116, 59]).data.toList s2.data.toList).toArray) = s3 from by rw [hd3]; rfl] at H3
    have HE2 : Hid (lastS false s2.data.toList = subst1 62 gtN s3.data.toList) := by rw [hd3]; rfl
    clear hd3
    go_enter Tryd.func14, Tryd.ntmps14
    go_wp2_with fail
    refine H1.out.mono ?_
    rintro e w1 ⟨rfl, hb1⟩
    have HB1 := Lib.hid hb1
    go_wp2_with fail
    refine (H2.out _ (cell_be hm HB1.out)).mono ?_
    rintro e w2 ⟨rfl, hb2⟩
    have HB2 := Lib.hid (HB1.out.trans (hb2.mono HB1.out.size))
    clear hb2 hb1
    go_wp2_with fail
    refine (H3.out _ (cell_be hm HB2.out)).mono ?_
    rintro e w3 ⟨rfl, hb3⟩
    have HB3 := Lib.hid (HB2.out.trans (hb3.mono HB2.out.size))
    clear hb3
    go_wp2_with fail
    refine (H4.out _ (cell_be hm HB3.out)).mono ?_
    rintro e w4 ⟨rfl, hb4⟩
    have HB4 := Lib.hid (HB3.out.trans (hb4.mono HB3.out.size))
    go_wp2_with fail
    go_ret
    exact ⟨by rw [HE.out, HE2.out]; rfl, HB4.out⟩

theorem esc_len (attr : Bool) (s : List UInt8) : (escL attr s).length ≤ 1296 * s.length := by
  have h1 := (sub_len 38 (new := ampN) (by decide) (by decide) s).1
  have h2 := rep2_len (subst1 38 ampN s)
  unfold escL
  generalize rep2 (subst1 38 ampN s) = t at *
  cases attr
  · show (subst1 62 gtN (subst1 60 ltN t)).length ≤ _
    have h3 := (sub_len 60 (new := ltN) (by decide) (by decide) t).1
    have h4 := (sub_len 62 (new := gtN) (by decide) (by decide) (subst1 60 ltN t)).1
    omega
  · show (subst1 34 quN t).length ≤ _
    have h3 := (sub_len 34 (new := quN) (by decide) (by decide) t).1
    omega
theorem byte_no {a : ByteArray} {l : List UInt8} {c : UInt8} (hd : a.data.toList = l) (h : ∀ x ∈ l, x ≠ c) (k : Nat) (hk : k < a.size) : ((a[k].toNat : Int) == (c.toNat : Int)) = false := by
  have hx : a[k] ∈ l := by
    rw [← hd]
    exact List.mem_of_getElem? (byte_at hk)
  have hne := h _ hx
  rw [beq_eq_false_iff_ne]
  intro e
  exact hne (UInt8.toNat_inj.1 (by omega))
theorem some_ent (s : ByteArray) (n : Nat) (w : World) (_hs : s.size ≤ 1152921504606846976) (hn : n ≤ 1000000) :
    Calls Tryd.prog 9 #[.string s, .int .i64 n] w fun e w' => (∃ t : ByteArray, e = .returned (.string t) ∧ t.size ≤ n) ∧ w = w' := by
  obtain ⟨k, hk1, hk2, hk3, _⟩ := min_nat s.size (n : Int) (by omega)
  have hkz : (s.extract 0 k).size ≤ n := by rw [ByteArray.size_extract]; omega
  go_enter Tryd.func9, Tryd.ntmps9
  go_wp2_with fail
  go_ret
  exact ⟨⟨s.extract 0 k, rfl, hkz⟩, rfl⟩

set_option maxRecDepth 100000 in
set_option maxHeartbeats 1000000 in
theorem entityBack_walk (s : ByteArray) (w : World) (m : Int) (hm : maxLenAt w m) (hs : s.size ≤ 1152921504606846976) :
    Calls Tryd.prog 5 #[.string s] w fun e w' => e = .returned (.bool true) ∧ Below w.heap.size w w' := by
  have HM := Lib.hid hm
  clear hm
  go_enter Tryd.func5, Tryd.ntmps5
  go_wp2_with fail
  refine (some_ent s 200 _ hs (by omega)).mono ?_
  rintro e w1 ⟨⟨t, rfl, ht⟩, rfl⟩
  have HE1 := Lib.hid (escape_any t false w m HM.out (by omega))
  have HE2 := Lib.hid (fun W (h : maxLenAt W m) => escape_any t true W m h (by omega))
  have htl : t.data.toList.length = t.size := by simp
  obtain ⟨a, ha⟩ : ∃ a : ByteArray, a = ⟨(escL false t.data.toList).toArray⟩ := ⟨_, rfl⟩
  obtain ⟨b, hb⟩ : ∃ b : ByteArray, b = ⟨(escL true t.data.toList).toArray⟩ := ⟨_, rfl⟩
  have haz : a.size ≤ 259200 := by
    rw [ha]
    have := esc_len false t.data.toList
    show (escL false t.data.toList).length ≤ _
    omega
  have hbz : b.size ≤ 259200 := by
    rw [hb]
    have := esc_len true t.data.toList
    show (escL true t.data.toList).length ≤ _
    omega
  rw [← ha] at HE1
  rw [← hb] at HE2
  have HA : Hid (a.data.toList = escL false t.data.toList) := by rw [ha]; rfl
  have HB : Hid (b.data.toList = escL true t.data.toList) := by rw [hb]; rfl
  have HRA := Lib.hid (fun W => text_any a W (by omega))
  have HRB := Lib.hid (fun W => value_any b W (by omega))
  have hra : ByteArray.mk (readL a false).toArray = t := by
    refine ByteArray.ext (Array.toList_inj.1 ?_)
    rw [ha]
    exact read_esc false t.data.toList
  have hrb : ByteArray.mk (readL b true).toArray = t := by
    refine ByteArray.ext (Array.toList_inj.1 ?_)
    rw [hb]
    exact read_esc true t.data.toList
  rw [hra] at HRA
  rw [hrb] at HRB
  clear hra hrb ha hb htl
  go_wp2_with fail
  refine HE1.out.mono ?_
  rintro e w1 ⟨rfl, hb1⟩
  have HB1 := Lib.hid hb1
  clear hb1
  go_wp2_with fail
  refine (HE2.out _ (cell_be HM.out HB1.out)).mono ?_
  rintro e w2 ⟨rfl, hb2⟩
  have HB2 := Lib.hid (HB1.out.trans (hb2.mono HB1.out.size))
  clear hb2
  go_wp2_with fail
  go_loop [5] (fun i => ∃ k : Nat, k ≤ a.size ∧ i = .int .i64 (k : Int)) (fun i => a.size - (intOf i).toNat)
  case atStart => exact ⟨0, Nat.zero_le _, rfl⟩
  case round =>
    obtain ⟨k, hk, rfl⟩ := hrel
    by_cases hlt : k < a.size
    · have h60 : ((a[k].toNat : Int) == 60) = false := byte_no HA.out (fun x hx => (esc_text _ x hx).1) k hlt
      have h62 : ((a[k].toNat : Int) == 62) = false := byte_no HA.out (fun x hx => (esc_text _ x hx).2) k hlt
      go_wp2_with fail
      go_round
      case rel => exact ⟨k + 1, by omega, by go_num⟩
      case measure => simp [intOf]; omega
    · go_wp2_with fail
      go_loop [6] (fun i => ∃ k : Nat, k ≤ b.size ∧ i = .int .i64 (k : Int)) (fun i => b.size - (intOf i).toNat)
      case atStart => exact ⟨0, Nat.zero_le _, rfl⟩
      case round =>
        obtain ⟨j, hj, rfl⟩ := hrel
        by_cases hlt2 : j < b.size
        · have h34 : ((b[j].toNat : Int) == 34) = false := byte_no HB.out (esc_value _) j hlt2
          go_wp2_with fail
          go_round
          case rel => exact ⟨j + 1, by omega, by go_num⟩
          case measure => simp [intOf]; omega
        · go_wp2_with fail
          refine (entityBegun_any _).mono ?_
          rintro e w3 ⟨rfl, hb3⟩
          have HB3 := Lib.hid (HB2.out.trans (hb3.mono HB2.out.size))
          clear hb3
          go_wp2_with fail
          refine (HRA.out _).mono ?_
          rintro e w4 ⟨rfl, hb4⟩
          have HB4 := Lib.hid (HB3.out.trans (hb4.mono HB3.out.size))
          clear hb4
          go_wp2_with fail
          refine (HRB.out _).mono ?_
          rintro e w5 ⟨rfl, hb5⟩
          have HB5 := Lib.hid (HB4.out.trans (hb5.mono HB4.out.size))
          clear hb5
          go_wp2_with fail
          go_ret
          exact ⟨rfl, HB5.out⟩
end Go.Proofs.YtabilpahmmkjkaaDoor
