/-
The law CharsWide: what is written at two bytes a sign is read as it was.
-/
import Derived.Test.YtabilpahmmkjkaaWide
namespace Go.Proofs.Ytabilpahmmkjkaa
open Go.RowKit Go.Cl

/-- A sign that may be. -/
def mayB (x : Int) : Prop := (0 ≤ x ∧ x < 55296) ∨ (57343 < x ∧ x ≤ 1114111)
/-- One unit, or two halves. -/
def halves (x : Int) : List Int := if x < 65536 then [x] else [55296 + (x - 65536) / 1024, 56320 + (x - 65536) % 1024]
def bigB (l : List Int) : List Int := l.flatMap fun n => [n / 256, n % 256]
def smallB (l : List Int) : List Int := l.flatMap fun n => [n % 256, n / 256]
theorem big_snoc (l : List Int) (n : Int) : bigB (l ++ [n]) = bigB l ++ [n / 256, n % 256] := by simp [bigB]
theorem small_snoc (l : List Int) (n : Int) : smallB (l ++ [n]) = smallB l ++ [n % 256, n / 256] := by simp [smallB]
theorem big_len (l : List Int) : (bigB l).length = 2 * l.length := by
  induction l with
  | nil => rfl
  | cons x l ih => simp only [bigB, List.flatMap_cons, List.length_append, List.length_cons, List.length_nil] at *; omega
theorem small_len (l : List Int) : (smallB l).length = 2 * l.length := by
  induction l with
  | nil => rfl
  | cons x l ih => simp only [smallB, List.flatMap_cons, List.length_append, List.length_cons, List.length_nil] at *; omega
theorem halves_snoc (l : List Int) (x : Int) : (l ++ [x]).flatMap halves = l.flatMap halves ++ halves x := by simp
theorem halves_len (l : List Int) : (l.flatMap halves).length ≤ 2 * l.length := by
  induction l with
  | nil => exact Nat.le_refl _
  | cons x l ih =>
    have : (halves x).length ≤ 2 := by unfold halves; split <;> simp
    simp only [List.flatMap_cons, List.length_append, List.length_cons]
    omega
theorem halves_range {x : Int} (h : mayB x) : ∀ n ∈ halves x, 0 ≤ n ∧ n ≤ 65535 := by
  unfold mayB at h
  unfold halves
  intro n hn
  split at hn
  · simp at hn; omega
  · simp at hn; omega
theorem halves_all {l : List Int} (h : ∀ x ∈ l, mayB x) : ∀ n ∈ l.flatMap halves, 0 ≤ n ∧ n ≤ 65535 := by
  intro n hn
  obtain ⟨x, hx, hn⟩ := List.mem_flatMap.1 hn
  exact halves_range (h x hx) n hn
theorem byte_of {n : Int} (h0 : 0 ≤ n) (h1 : n < 256) : ((UInt8.ofNat n.toNat).toNat : Int) = n := by
  have : n.toNat < 256 := by omega
  simp [Nat.mod_eq_of_lt this]
  omega
theorem units_big (l : List Int) (h : ∀ n ∈ l, 0 ≤ n ∧ n ≤ 65535) : unitsL 0 ((bigB l).map fun n => UInt8.ofNat n.toNat) = l := by
  induction l with
  | nil => rfl
  | cons n l ih =>
    have hn := h n (by simp)
    show unitsL 0 (UInt8.ofNat (n / 256).toNat :: UInt8.ofNat (n % 256).toNat :: (bigB l).map fun n => UInt8.ofNat n.toNat) = _
    rw [unitsL, ih (fun x hx => h x (by simp [hx])), if_pos rfl, unit_eq, byte_of (by omega) (by omega), byte_of (by omega) (by omega)]
    congr 1
    omega
theorem units_small (l : List Int) (h : ∀ n ∈ l, 0 ≤ n ∧ n ≤ 65535) : unitsL 1 ((smallB l).map fun n => UInt8.ofNat n.toNat) = l := by
  induction l with
  | nil => rfl
  | cons n l ih =>
    have hn := h n (by simp)
    show unitsL 1 (UInt8.ofNat (n % 256).toNat :: UInt8.ofNat (n / 256).toNat :: (smallB l).map fun n => UInt8.ofNat n.toNat) = _
    rw [unitsL, ih (fun x hx => h x (by simp [hx])), if_neg (by decide), unit_eq, byte_of (by omega) (by omega), byte_of (by omega) (by omega)]
    congr 1
    omega
theorem paired_halves (l : List Int) (h : ∀ x ∈ l, mayB x) : pairedL (l.flatMap halves) = l := by
  induction l with
  | nil => rfl
  | cons x l ih =>
    have hx : mayB x := h x (by simp)
    have ih' := ih (fun y hy => h y (by simp [hy]))
    unfold mayB at hx
    rw [List.flatMap_cons]
    by_cases h1 : x < 65536
    · rw [show halves x = [x] from by unfold halves; rw [if_pos h1]]
      show pairedL (x :: l.flatMap halves) = _
      rcases hr : l.flatMap halves with _ | ⟨y, r⟩
      · rw [hr] at ih'
        rw [pairedL, ← ih', pairedL]
      · rw [pairedL, if_neg (by omega), ← hr, ih']
    · rw [show halves x = [55296 + (x - 65536) / 1024, 56320 + (x - 65536) % 1024] from by unfold halves; rw [if_neg h1]]
      show pairedL (_ :: _ :: l.flatMap halves) = _
      rw [pairedL, if_pos (by omega), ih']
      congr 1
      omega

/-- The conversion to a string. -/
theorem conv_bytes {w : World} {base b : Nat} {v : Value} {l : List Int} (h : BytesIn w base b v l) : (convert 54 9 v).run Try.prog w = .ok (.string (strOfNums l)) w := by
  obtain ⟨_, _, cs, h1, h2⟩ := h
  have hu : Try.prog.underlying 5 = some (.int .u8) := Try.underlying5
  rcases h1.2 with ⟨rfl, h0⟩ | ⟨g, cap, cur, rfl, hb, hh, hnc, hcm, hsz, htk⟩
  · rw [run_convert_bytes_nil w _ _ Try.underlying54 hu 0 0 _ Try.underlying9]
    obtain rfl : l = [] := List.eq_nil_of_length_eq_zero h0
    rfl
  · refine run_convert_bytes_arg w _ _ Try.underlying54 hu g 0 l.length cap l rfl (fun i hi => ?_) _ Try.underlying9
    obtain ⟨x, hx⟩ := get_some (l := l) hi
    obtain ⟨c, ⟨rfl, _⟩, hc⟩ := h2.at_ hx
    have h3 := hc 0 _ rfl
    have h4 : cs[i]? = some (.int .u8 x) := by simpa [tInt] using h3
    rw [List.getD, hx, Nat.zero_add, cell_of_row w g i cur _ (0, 0) hh]
    rw [← htk, List.getElem?_take] at h4
    split at h4
    · simpa using h4
    · cases h4
theorem str_data (l : List Int) : (strOfNums l).data.toList = l.map fun n => UInt8.ofNat n.toNat := rfl
theorem BytesIn.below {w w' : World} {base B b : Nat} {v : Value} {l : List Int} (h : BytesIn w base b v l) (hb : Below B w w') (hB : w.heap.size ≤ B) : BytesIn w' base b v l :=
  ⟨h.1, (hb.block b (Nat.lt_of_lt_of_le h.block hB)).trans h.2.1, OwnF.below h.2.2 hb hB⟩

set_option maxRecDepth 100000 in
set_option maxHeartbeats 2000000 in
theorem charsWide_walk (A : Option Addr) (n c : Nat) (l : List Int) (w : World) (hl : Sl (tInt .i32) w (lt w.heap.size) A n c l) :
    Calls Try.prog 9 #[.slice A n c] w fun e w' => e = .returned (.bool true) ∧ Below w.heap.size w w' := by
  have hn1 := hl.small
  have HL := Lib.hid hl.hn
  obtain ⟨k0, hk1, hk2, hk3, _⟩ := min_nat n 200 (by omega)
  have hkc : k0 ≤ c := Nat.le_trans hk2 hl.hc
  have hk := hl.cut_to hk2
  have hlen : (l.take k0).length = k0 := by have := HL.out; rw [List.length_take]; omega
  have HLEN := Lib.hid hlen
  clear hlen
  generalize l.take k0 = l' at *
  clear hl
  go_enter Try.func9, Try.ntmps9
  go_wp2_with fail
  go_loopw [6] (fun i wr => ∃ (k : Nat) (v1 v2 : Value) (l1 l2 : List Int), k ≤ k0 ∧ i = .int .i64 (k : Int) ∧ Below w.heap.size w wr ∧ Hid (∀ x ∈ l'.take k, mayB x) ∧ Hid (l1 = bigB ((l'.take k).flatMap halves)) ∧ Hid (l2 = smallB ((l'.take k).flatMap halves)) ∧ BytesIn wr w.heap.size w.heap.size v1 l1 ∧ BytesIn wr w.heap.size (w.heap.size + 1) v2 l2 ∧ Hid (v2.ownBlock = none ∨ v2.ownBlock ≠ v1.ownBlock)) (fun i _ => k0 - (intOf i).toNat)
  case atStart =>
    refine ⟨0, _, _, [], [], Nat.zero_le _, rfl, ((Below.refl _ _).alloc (Nat.le_refl _) _).alloc (by simp) _, Lib.hid (fun x hx => by cases hx), Lib.hid rfl, Lib.hid rfl, ⟨Nat.le_refl _, ?_, OwnF.nil _ _ _⟩, ⟨Nat.le_succ _, ?_, OwnF.nil _ _ _⟩, Lib.hid (Or.inl rfl)⟩
    · exact (Lib.alloc_old _ _ _ (by simp)).trans (heap_alloc_new w _)
    · have := heap_alloc_new (w.alloc (.cells #[.slice none 0 0] 54)) (.cells #[.slice none 0 0] 54)
      rwa [World.size_alloc] at this
  case round =>
    obtain ⟨k, v1, v2, l1, l2, hkk, rfl, hb, HM, HB1, HB2, hB1, hB2, HAP⟩ := hrel
    have hz := hb.size
    have hL1 : l1.length ≤ 1600 := by
      rw [HB1.out, big_len]
      have := halves_len (l'.take k)
      have := List.length_take_le k l'
      omega
    have hL2 : l2.length ≤ 1600 := by
      rw [HB2.out, small_len]
      have := halves_len (l'.take k)
      have := List.length_take_le k l'
      omega
    have HH1 := Lib.hid hB1
    have HH2 := Lib.hid hB2
    have hne : w.heap.size ≠ w.heap.size + 1 := by omega
    by_cases hlt : k < k0
    · obtain ⟨x, hx⟩ : ∃ x, l'[k]? = some x := get_some (by have := HLEN.out; omega)
      obtain ⟨g, o, rfl, hg, hc, hw⟩ := (hk.below hb (Nat.le_refl _)).int hx
      have hxr := i32_wf hw
      have HX := Lib.hid (take_snoc hx)
      have HCB := Lib.hid (fun W => charsBegun_any W)
      clear hx hw hB1 hB2
      by_cases c1 : x < 0
      · go_wp2_with fail
        refine (HCB.out _).mono ?_
        rintro e w2 ⟨rfl, hb2⟩
        go_wp2_with fail
        go_ret
        exact ⟨rfl, hb.trans (hb2.mono hz)⟩
      by_cases c2 : 1114111 < x
      · go_wp2_with fail
        refine (HCB.out _).mono ?_
        rintro e w2 ⟨rfl, hb2⟩
        go_wp2_with fail
        go_ret
        exact ⟨rfl, hb.trans (hb2.mono hz)⟩
      by_cases c3 : 55296 ≤ x ∧ x ≤ 57343
      · obtain ⟨c3, c4⟩ := c3
        go_wp2_with fail
        refine (HCB.out _).mono ?_
        rintro e w2 ⟨rfl, hb2⟩
        go_wp2_with fail
        go_ret
        exact ⟨rfl, hb.trans (hb2.mono hz)⟩
      have hmay : mayB x := by unfold mayB; omega
      have HM2 : Hid (∀ y ∈ l'.take (k + 1), mayB y) := by
        intro y hy
        rw [HX.out, List.mem_append] at hy
        rcases hy with hy | hy
        · exact HM.out y hy
        · simp at hy; rw [hy]; exact hmay
      clear hmay
      by_cases c4 : x < 65536
      · have HE := Lib.hid (show (l'.take (k + 1)).flatMap halves = (l'.take k).flatMap halves ++ [x] from by rw [HX.out, halves_snoc]; unfold halves; rw [if_pos c4])
        have HP := Lib.hid (put_any x (by omega) w.heap.size w.heap.size (w.heap.size + 1) v1 v2 l1 l2 wr HH1.out HH2.out hne HAP.out (by omega) (by omega))
        by_cases c5 : 55296 ≤ x
        all_goals
          go_wp2_with fail
          refine HP.out.mono ?_
          rintro e w2 ⟨rfl, u1, u2, g1, g2, hap, hb2⟩
          go_wp2_with fail
          go_roundw
          case rel => exact ⟨k + 1, u1, u2, _, _, by omega, by go_num, hb.trans hb2, HM2, Lib.hid (by rw [HE.out, big_snoc, HB1.out]), Lib.hid (by rw [HE.out, small_snoc, HB2.out]), g1, g2, Lib.hid hap⟩
          case measure => simp [intOf]; omega
      · have c5 : 55296 ≤ x := by omega
        have c6 : ¬ x ≤ 57343 := by omega
        have a1 : bits .and .i32 (x - 65536) 1023 = (x - 65536) % 1024 := i32_and1023 _ (by omega) (by omega)
        have w1 : IntKind.i32.wrap (x - 65536) = x - 65536 := IntWalk.i32_in _ (by omega)
        have w2 : IntKind.i32.wrap (55296 + (x - 65536) / 1024) = 55296 + (x - 65536) / 1024 := IntWalk.i32_in _ (by omega)
        have w3 : IntKind.i32.wrap (56320 + (x - 65536) % 1024) = 56320 + (x - 65536) % 1024 := IntWalk.i32_in _ (by omega)
        have HE := Lib.hid (show (l'.take (k + 1)).flatMap halves = (l'.take k).flatMap halves ++ [55296 + (x - 65536) / 1024] ++ [56320 + (x - 65536) % 1024] from by rw [HX.out, halves_snoc, List.append_assoc]; unfold halves; rw [if_neg c4]; rfl)
        have HP := Lib.hid (put_any (55296 + (x - 65536) / 1024) (by omega) w.heap.size w.heap.size (w.heap.size + 1) v1 v2 l1 l2 wr HH1.out HH2.out hne HAP.out (by omega) (by omega))
        have hr2 : 0 ≤ 56320 + (x - 65536) % 1024 ∧ 56320 + (x - 65536) % 1024 ≤ 65535 := by omega
        go_wp2_with fail
        refine HP.out.mono ?_
        rintro e w2 ⟨rfl, u1, u2, g1, g2, hap, hb2⟩
        have hc2 : w2.cell? ⟨g, o + k, none⟩ = some (.int .i32 x) := (hb2.cell (p := ⟨g, o + k, none⟩) hg).trans hc
        have HP2 := Lib.hid (put_any (56320 + (x - 65536) % 1024) hr2 w.heap.size w.heap.size (w.heap.size + 1) u1 u2 _ _ w2 g1 g2 hne hap (by rw [List.length_append]; show _ + 2 ≤ _; omega) (by rw [List.length_append]; show _ + 2 ≤ _; omega))
        clear g1 g2 hap
        go_wp2_with fail
        refine HP2.out.mono ?_
        rintro e w3 ⟨rfl, u3, u4, g1, g2, hap, hb3⟩
        go_wp2_with fail
        go_roundw
        case rel => exact ⟨k + 1, u3, u4, _, _, by omega, by go_num, (hb.trans hb2).trans hb3, HM2, Lib.hid (by rw [HE.out, big_snoc, big_snoc, HB1.out]), Lib.hid (by rw [HE.out, small_snoc, small_snoc, HB2.out]), g1, g2, Lib.hid hap⟩
        case measure => simp [intOf]; omega
    · obtain rfl : k = k0 := by omega
      have hall : l'.take k = l' := List.take_of_length_le (by have := HLEN.out; omega)
      rw [hall] at HM HB1 HB2
      have HF1 := Lib.hid (fun W => from_2 (strOfNums l1) W (by rw [strOfNums_size]; omega) (by rw [strOfNums_size, HB1.out, big_len]; omega))
      rw [show pairedL (unitsL 0 (strOfNums l1).data.toList) = l' from by rw [str_data, HB1.out, units_big _ (halves_all HM.out), paired_halves _ HM.out]] at HF1
      have HF2 := Lib.hid (fun W => from_3 (strOfNums l2) W (by rw [strOfNums_size]; omega) (by rw [strOfNums_size, HB2.out, small_len]; omega))
      rw [show pairedL (unitsL 1 (strOfNums l2).data.toList) = l' from by rw [str_data, HB2.out, units_small _ (halves_all HM.out), paired_halves _ HM.out]] at HF2
      have kv1 : wr.cell? ⟨w.heap.size, 0, none⟩ = some v1 := cell_blk hB1.2.1 rfl
      have cv1 := conv_bytes hB1
      clear hB1 hB2 hall
      go_wp2_with fail
      refine (HF1.out _).mono ?_
      rintro e w2 ⟨rfl, hb2⟩
      have hG2 := HH2.out.below hb2 (Nat.le_refl _)
      have kv2 : w2.cell? ⟨w.heap.size + 1, 0, none⟩ = some v2 := cell_blk hG2.2.1 rfl
      have cv2 := conv_bytes hG2
      have HB2' := Lib.hid (hb.trans (hb2.mono hz))
      clear hG2 hb2 kv1 cv1
      go_wp2_with fail
      refine (HF2.out _).mono ?_
      rintro e w3 ⟨rfl, hb3⟩
      have HB3 := Lib.hid (HB2'.out.trans (hb3.mono HB2'.out.size))
      clear hb3 kv2 cv2
      go_wp2_with fail
      refine (charsBegun_any _).mono ?_
      rintro e w4 ⟨rfl, hb4⟩
      have HB4 := Lib.hid (HB3.out.trans (hb4.mono HB3.out.size))
      have HE := Lib.hid (encode_any A k c l' w4 w.heap.size (hk.below HB4.out (Nat.le_refl _)) HB4.out.size)
      clear hb4
      go_wp2_with fail
      refine HE.out.mono ?_
      rintro e w5 ⟨rfl, hb5⟩
      go_wp2_with fail
      go_ret
      exact ⟨rfl, HB4.out.trans (hb5.mono HB4.out.size)⟩
end Go.Proofs.Ytabilpahmmkjkaa
