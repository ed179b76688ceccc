/-
What reading does with plain text; the law EntityPlain's walk.
-/
import Derived.Test.YtabilpahmmkjkaaEntRead
namespace Go.Proofs.Ytabilpahmmkjkaa
open Go.RowKit Go.Cl

theorem ba_ext {a b : ByteArray} (h : a.data.toList = b.data.toList) : a = b := ByteArray.ext (Array.ext' h)
theorem find_plain {s : ByteArray} {b : UInt8} {l : List UInt8} (h : s.data.toList = b :: l) (hb : b ≠ 38) (attr : Bool) : stepB s attr = (⟨#[b]⟩, 1) := by
  have hf : findB s attr = (⟨#[]⟩, 0) := by
    unfold findB
    rw [h, if_neg (by simpa using hb)]
  unfold stepB
  rw [hf, if_pos rfl]
  congr 1
  apply ba_ext
  rw [ByteArray.data_extract, Array.toList_extract, List.extract_eq_take_drop, h]
  rfl
theorem read_cons (b : UInt8) (l : List UInt8) (hb : b ≠ 38) (attr : Bool) : readL ⟨(b :: l).toArray⟩ attr = b :: readL ⟨l.toArray⟩ attr := by
  have hs : (ByteArray.mk (b :: l).toArray).size = l.length + 1 := by simp [ByteArray.size]
  rw [readL_step (by omega), find_plain (l := l) (b := b) rfl hb]
  show [b] ++ _ = _
  have : (ByteArray.mk (b :: l).toArray).extract 1 (ByteArray.mk (b :: l).toArray).size = ⟨l.toArray⟩ := by
    apply ba_ext
    rw [drop_one]
    rfl
  rw [this]
  rfl
theorem read_app (l t : List UInt8) (hl : ∀ b ∈ l, b ≠ 38) (attr : Bool) : readL ⟨(l ++ t).toArray⟩ attr = l ++ readL ⟨t.toArray⟩ attr := by
  induction l with
  | nil => rfl
  | cons b l ih =>
    rw [List.cons_append, read_cons b (l ++ t) (hl b (List.mem_cons_self ..)), ih (fun x hx => hl x (List.mem_cons_of_mem _ hx))]
    rfl
theorem read_plain {p : ByteArray} (hp : ∀ b ∈ p.data.toList, b ≠ 38) (attr : Bool) : (ByteArray.mk (readL p attr).toArray) = p := by
  apply ba_ext
  have h := read_app p.data.toList [] hp attr
  rw [List.append_nil] at h
  have h0 : readL ⟨[].toArray⟩ attr = [] := readL_nil rfl attr
  rw [h0, List.append_nil] at h
  exact h
theorem read_join {p : ByteArray} (hp : ∀ b ∈ p.data.toList, b ≠ 38) (t : ByteArray) (attr : Bool) : (ByteArray.mk (readL (p ++ t) attr).toArray) = p ++ ByteArray.mk (readL t attr).toArray := by
  have h := read_app p.data.toList t.data.toList hp attr
  have h1 : (ByteArray.mk (p.data.toList ++ t.data.toList).toArray) = p ++ t := by
    apply ba_ext
    simp
  rw [h1] at h
  have h2 : (ByteArray.mk t.data.toList.toArray) = t := by apply ba_ext; rfl
  rw [h2] at h
  apply ba_ext
  rw [h]
  simp

theorem readN_len (f : Nat) : ∀ (s : ByteArray) (attr : Bool), s.size ≤ f → (readN f s attr).length ≤ 4 * s.size := by
  induction f with
  | zero => intro s attr _; exact Nat.zero_le _
  | succ f ih =>
    intro s attr h
    rw [readN]
    split
    · exact Nat.zero_le _
    · have hs := stepB_le (show 1 ≤ s.size by omega) attr
      have hc := cut_size s (stepB s attr).2
      have h1 := ih (s.extract (stepB s attr).2 s.size) attr (by omega)
      rw [List.length_append, show (stepB s attr).1.data.toList.length = (stepB s attr).1.size from by simp]
      omega
theorem readL_len (s : ByteArray) (attr : Bool) : (ByteArray.mk (readL s attr).toArray).size ≤ 4 * s.size := by
  show (readL s attr).toArray.size ≤ 4 * s.size
  rw [List.size_toArray]
  exact readN_len s.size s attr (Nat.le_refl _)

set_option maxRecDepth 100000 in
theorem begun_t : readL (⟨#[38, 108, 116, 59, 38, 97, 109, 112, 59, 38, 99, 111, 112, 121, 38, 35, 120, 52, 49]⟩ : ByteArray) false = [60, 38, 194, 169, 65] := by decide +kernel
set_option maxRecDepth 100000 in
theorem begun_v : readL (⟨#[38, 99, 111, 112, 121, 61, 49, 38, 108, 116, 59]⟩ : ByteArray) true = [38, 99, 111, 112, 121, 61, 49, 60] := by decide +kernel

theorem entityBegun_any (w : World) :
    Calls Try.prog 21 #[] w fun e w' => e = .returned (.bool true) ∧ Below w.heap.size w w' := by
  have HT := Lib.hid (fun W => text_any (⟨#[38, 108, 116, 59, 38, 97, 109, 112, 59, 38, 99, 111, 112, 121, 38, 35, 120, 52, 49]⟩ : ByteArray) W (by decide +kernel))
  have HV := Lib.hid (fun W => value_any (⟨#[38, 99, 111, 112, 121, 61, 49, 38, 108, 116, 59]⟩ : ByteArray) W (by decide +kernel))
  rw [begun_t] at HT
  rw [begun_v] at HV
  go_enter Try.func21, Try.ntmps21
  go_wp2_with fail
  refine (HT.out _).mono ?_
  rintro e w1 ⟨rfl, hb1⟩
  go_wp2_with fail
  refine (HV.out _).mono ?_
  rintro e w2 ⟨rfl, hb2⟩
  go_wp2_with fail
  go_ret
  exact ⟨rfl, hb1.trans (hb2.mono hb1.size)⟩

theorem some_any (s : ByteArray) (n : Nat) (w : World) (hs : s.size ≤ 1152921504606846976) (hn : n ≤ 1000000) :
    Calls Try.prog 20 #[.string s, .int .i64 n] w fun e w' => (∃ t : ByteArray, e = .returned (.string t) ∧ t.size ≤ n) ∧ w = w' := by
  obtain ⟨k, hk1, hk2, hk3, _⟩ := min_nat s.size (n : Int) (by omega)
  have hkz : (s.extract 0 k).size ≤ n := by rw [ByteArray.size_extract]; omega
  go_enter Try.func20, Try.ntmps20
  go_wp2_with fail
  go_ret
  exact ⟨⟨s.extract 0 k, rfl, hkz⟩, rfl⟩

theorem entityPlain_walk (s t : ByteArray) (w : World) (hs : s.size ≤ 1152921504606846976) (ht : t.size ≤ 1152921504606846976) :
    Calls Try.prog 7 #[.string s, .string t] w fun e w' => e = .returned (.bool true) ∧ Below w.heap.size w w' := by
  go_enter Try.func7, Try.ntmps7
  go_wp2_with fail
  refine (some_any s 200 _ hs (by omega)).mono ?_
  rintro e w1 ⟨⟨s', rfl, hs'⟩, rfl⟩
  go_wp2_with fail
  refine (some_any t 200 _ ht (by omega)).mono ?_
  rintro e w1 ⟨⟨t', rfl, ht'⟩, rfl⟩
  go_wp2_with fail
  go_loopw [5, 6] (fun a i wr => ∃ (k : Nat) (p : ByteArray), k ≤ s'.size ∧ a = .string p ∧ i = .int .i64 (k : Int) ∧ p.size ≤ k ∧ (∀ b ∈ p.data.toList, b ≠ 38) ∧ w = wr) (fun _ i _ => s'.size - (intOf i).toNat)
  case atStart => exact ⟨0, ⟨#[]⟩, Nat.zero_le _, rfl, rfl, Nat.le_refl _, by simp, rfl⟩
  case round =>
    obtain ⟨k, p, hk, rfl, rfl, hpk, hp, rfl⟩ := hrel
    by_cases hlt : k < s'.size
    · by_cases hb : s'[k] = 38
      · have hne : ((s'[k].toNat : Int) != 38) = false := by rw [hb]; rfl
        have HP := Lib.hid hp
        clear hp hb
        go_wp2_with fail
        go_roundw
        case rel => exact ⟨k + 1, p, by omega, rfl, by go_num, by omega, HP.out, by first | trivial | rfl⟩
        case measure => simp [intOf]; omega
      · have hne : ((s'[k].toNat : Int) != 38) = true := by
          have := byte_test (k := 38) (by decide) hb
          simpa [bne] using this
        have hx : (s'.extract k (k + 1)).data.toList = [s'[k]] := by
          rw [ByteArray.data_extract, Array.toList_extract, List.extract_eq_take_drop, List.drop_eq_getElem_cons (by simpa using hlt)]
          simp
          rfl
        have hxs : (s'.extract k (k + 1)).size = 1 := by rw [ByteArray.size_extract]; omega
        have HP := Lib.hid (show ∀ b ∈ (p ++ s'.extract k (k + 1)).data.toList, b ≠ 38 from by
          intro b hm
          rw [ByteArray.data_append, Array.toList_append, hx] at hm
          rcases List.mem_append.1 hm with hm | hm
          · exact hp b hm
          · obtain rfl : b = s'[k] := by simpa using hm
            exact hb)
        clear hp hb hx
        go_wp2_with fail
        go_roundw
        case rel => exact ⟨k + 1, p ++ s'.extract k (k + 1), by omega, rfl, by go_num, by rw [ByteArray.size_append]; omega, HP.out, by first | trivial | rfl⟩
        case measure => simp [intOf]; omega
    · have h200 : p.size ≤ 1000000000 := by omega
      have h400 : (p ++ t').size ≤ 1000000000 := by rw [ByteArray.size_append]; omega
      have ht2 : t'.size ≤ 1000000000 := by omega
      have H1 := Lib.hid (fun W => text_any p W h200)
      have H2 := Lib.hid (fun W => value_any p W h200)
      have H3 := Lib.hid (fun W => text_any (p ++ t') W h400)
      have H4 := Lib.hid (fun W => text_any t' W ht2)
      have H5 := Lib.hid (fun W => value_any (p ++ t') W h400)
      have H6 := Lib.hid (fun W => value_any t' W ht2)
      rw [read_plain hp false] at H1
      rw [read_plain hp true] at H2
      rw [read_join hp t' false] at H3
      rw [read_join hp t' true] at H5
      have hR1 : (ByteArray.mk (readL t' false).toArray).size ≤ 800 := by have := readL_len t' false; omega
      have hR2 : (ByteArray.mk (readL t' true).toArray).size ≤ 800 := by have := readL_len t' true; omega
      generalize ByteArray.mk (readL t' false).toArray = R1 at *
      generalize ByteArray.mk (readL t' true).toArray = R2 at *
      clear hp hs ht
      go_wp2_with fail
      refine (entityBegun_any _).mono ?_
      rintro e w1 ⟨rfl, hb1⟩
      go_wp2_with fail
      refine (H1.out _).mono ?_
      rintro e w2 ⟨rfl, hb2⟩
      go_wp2_with fail
      refine (H2.out _).mono ?_
      rintro e w3 ⟨rfl, hb3⟩
      go_wp2_with fail
      refine (H3.out _).mono ?_
      rintro e w4 ⟨rfl, hb4⟩
      go_wp2_with fail
      refine (H4.out _).mono ?_
      rintro e w5 ⟨rfl, hb5⟩
      go_wp2_with fail
      refine (H5.out _).mono ?_
      rintro e w6 ⟨rfl, hb6⟩
      go_wp2_with fail
      refine (H6.out _).mono ?_
      rintro e w7 ⟨rfl, hb7⟩
      go_wp2_with fail
      go_ret
      have z1 := hb1.size
      have z2 := hb2.size
      have z3 := hb3.size
      have z4 := hb4.size
      have z5 := hb5.size
      have z6 := hb6.size
      exact ⟨rfl, hb1.trans ((hb2.mono (by omega)).trans ((hb3.mono (by omega)).trans ((hb4.mono (by omega)).trans ((hb5.mono (by omega)).trans ((hb6.mono (by omega)).trans (hb7.mono (by omega)))))))⟩
end Go.Proofs.Ytabilpahmmkjkaa
