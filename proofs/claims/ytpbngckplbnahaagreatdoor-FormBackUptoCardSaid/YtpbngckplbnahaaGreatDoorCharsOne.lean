/-
The walks of package chars: lead, one.
-/
import Derived.Test.YtpbngckplbnahaaGreatDoorChars
import Derived.Deep.QuietTactic
import Derived.BigQuiet
namespace Go.Proofs.YtpbngckplbnahaaGreatDoor
open Go.RowKit Go.Cl

/-- A first byte: how many are behind it, and where the first of these lies; -1: it is none. -/
def leadR (b : Int) : Int × Int × Int :=
  if b < 128 then (0, 128, 191)
  else if 194 ≤ b ∧ b ≤ 223 then (1, 128, 191)
  else if 224 ≤ b ∧ b ≤ 239 then (2, (if b = 224 then 160 else 128), (if b = 237 then 159 else 191))
  else if 240 ≤ b ∧ b ≤ 244 then (3, (if b = 240 then 144 else 128), (if b = 244 then 143 else 191))
  else (-1, 128, 191)

theorem tup3 {v : Ending} {a b c : Int} {r : Int × Int × Int} (h : r = (a, b, c)) (hv : v = .returned (.tuple #[.int .i64 a, .int .u8 b, .int .u8 c])) : v = .returned (.tuple #[.int .i64 r.1, .int .u8 r.2.1, .int .u8 r.2.2]) := by
  subst h
  exact hv

set_option maxRecDepth 100000 in
theorem lead_any (b : UInt8) (w : World) :
    Calls Tryz.prog 148 #[.int .u8 b.toNat] w fun e w' => e = .returned (.tuple #[.int .i64 (leadR b.toNat).1, .int .u8 (leadR b.toNat).2.1, .int .u8 (leadR b.toNat).2.2]) ∧ w = w' := by
  have hb := b.toNat_lt
  generalize b.toNat = n at *
  go_enter Tryz.func148, Tryz.ntmps148
  go_wp2_with fail
  all_goals
    go_ret3
    refine ⟨tup3 (r := leadR n) ?_ rfl, rfl⟩
    try simp only [beq_iff_eq, beq_eq_false_iff_ne, ne_eq] at *
    unfold leadR
    repeat' split
    all_goals first | rfl | (exfalso; omega)

theorem byte_at' {s : ByteArray} {n : Nat} (h : n < s.size) : s.data.toList[n]? = some s[n] := by
  rw [List.getElem?_eq_getElem (by simpa using h)]; rfl
/-- Six more bits. -/
def stepN (n b : Int) : Int := bits BinOp.or IntKind.i32 (wrap32 (n * 64)) (b % 64)
/-- The bytes behind the first one: the sign, and how many of them are taken. -/
def tailR : Nat → List UInt8 → Int → Int → Int → Int × Nat
  | 0, _, _, _, n => (n, 0)
  | _ + 1, [], _, _, _ => (65533, 0)
  | k + 1, b :: r, lo, hi, n => if (b.toNat : Int) < lo ∨ hi < (b.toNat : Int) then (65533, 0) else ((tailR k r 128 191 (stepN n b.toNat)).1, (tailR k r 128 191 (stepN n b.toNat)).2 + 1)
theorem tail_end {k : Nat} {l : List UInt8} {lo hi n : Int} (hk : 0 < k) (hl : l = []) : tailR k l lo hi n = (65533, 0) := by
  obtain ⟨k, rfl⟩ : ∃ j, k = j + 1 := ⟨k - 1, by omega⟩
  rw [hl, tailR]
theorem tail_bad {k j : Nat} {l : List UInt8} {b : UInt8} {lo hi n : Int} (hk : 0 < k) (hb : l[j]? = some b) (h : (b.toNat : Int) < lo ∨ hi < (b.toNat : Int)) : tailR k (l.drop j) lo hi n = (65533, 0) := by
  obtain ⟨k, rfl⟩ : ∃ j, k = j + 1 := ⟨k - 1, by omega⟩
  rw [List.drop_eq_getElem_cons (List.getElem?_eq_some_iff.1 hb).1, (List.getElem?_eq_some_iff.1 hb).2, tailR, if_pos h]
theorem tail_go {k j : Nat} {l : List UInt8} {b : UInt8} {lo hi n : Int} (hk : 0 < k) (hb : l[j]? = some b) (h : ¬ ((b.toNat : Int) < lo ∨ hi < (b.toNat : Int))) : tailR k (l.drop j) lo hi n = ((tailR (k - 1) (l.drop (j + 1)) 128 191 (stepN n b.toNat)).1, (tailR (k - 1) (l.drop (j + 1)) 128 191 (stepN n b.toNat)).2 + 1) := by
  obtain ⟨k, rfl⟩ : ∃ j, k = j + 1 := ⟨k - 1, by omega⟩
  rw [List.drop_eq_getElem_cons (List.getElem?_eq_some_iff.1 hb).1, (List.getElem?_eq_some_iff.1 hb).2, tailR, if_neg h]
  rfl
/-- The bits of a sign in its first byte. -/
def maskN (b m : Int) : Int := bits BinOp.and IntKind.i32 b (if m = 1 then 31 else if m = 2 then 15 else 7)
/-- One sign at the beginning, and how many bytes it is. -/
def oneL (b : UInt8) (r : List UInt8) : Int × Nat :=
  let m := leadR b.toNat
  if m.1 < 0 then (65533, 1) else if m.1 = 0 then ((b.toNat : Int), 1)
  else ((tailR m.1.toNat r m.2.1 m.2.2 (maskN b.toNat m.1)).1, (tailR m.1.toNat r m.2.1 m.2.2 (maskN b.toNat m.1)).2 + 1)
def oneR : List UInt8 → Int × Nat
  | [] => (65533, 1)
  | b :: r => oneL b r
theorem one_eq {s : ByteArray} (h0 : 0 < s.size) : oneR s.data.toList = oneL s[0] (s.data.toList.drop 1) := by
  have h : s.data.toList = s[0] :: s.data.toList.drop 1 := by
    have := List.drop_eq_getElem_cons (l := s.data.toList) (i := 0) (by simpa using h0)
    rw [List.drop_zero] at this
    exact this
  conv => lhs; rw [h]
  rfl
theorem lead_cases (b : Int) : ∃ lo hi, leadR b = (-1, lo, hi) ∨ leadR b = (0, lo, hi) ∨ leadR b = (1, lo, hi) ∨ leadR b = (2, lo, hi) ∨ leadR b = (3, lo, hi) := by
  refine ⟨(leadR b).2.1, (leadR b).2.2, ?_⟩
  unfold leadR
  repeat' split
  all_goals simp

set_option maxHeartbeats 2000000 in
set_option maxRecDepth 100000 in
theorem one_1 (s : ByteArray) (w : World) (h0 : 0 < s.size) (hs : s.size ≤ 1000000000) (lo hi : Int) (hl : leadR s[0].toNat = (1, lo, hi)) :
    Calls Tryz.prog 116 #[.string s] w fun e w' => e = .returned (.tuple #[.int .i32 (oneR s.data.toList).1, .int .i64 (oneR s.data.toList).2]) ∧ ∃ k, w' = w.drewN k := by
  have HL := Lib.hid (fun W => lead_any s[0] W)
  have hb := s[0].toNat_lt
  have HR := Lib.hid (show oneR s.data.toList = ((tailR 1 (s.data.toList.drop 1) lo hi (bits BinOp.and IntKind.i32 s[0].toNat 31)).1, (tailR 1 (s.data.toList.drop 1) lo hi (bits BinOp.and IntKind.i32 s[0].toNat 31)).2 + 1) from by
    rw [one_eq h0, oneL, hl]
    rfl)
  rw [hl] at HL
  clear hl
  go_enter Tryz.func116, Tryz.ntmps116
  go_wp2_with fail
  refine (HL.out _).mono ?_
  rintro e w1 ⟨rfl, rfl⟩
  go_wp2_with fail
  go_quiet (fail)
  go_wp2_with fail
  go_loopw [5, 6, 7, 8] (fun lo' hi' n' i' wr => ∃ (j : Nat) (a b n : Int), 1 ≤ j ∧ j ≤ 1 + 1 ∧ j ≤ s.size ∧ i' = .int .i64 (j : Int) ∧ lo' = .int .u8 a ∧ hi' = .int .u8 b ∧ n' = .int .i32 n ∧ w.drewN nq = wr ∧
    oneR s.data.toList = ((tailR (1 + 1 - j) (s.data.toList.drop j) a b n).1, (tailR (1 + 1 - j) (s.data.toList.drop j) a b n).2 + j)) (fun _ _ _ i _ => 1 + 1 - (intOf i).toNat)
  case atStart => exact ⟨1, lo, hi, _, Nat.le_refl _, by omega, by omega, rfl, rfl, rfl, rfl, rfl, HR.out⟩
  case round =>
    obtain ⟨j, a, b, n, hj1, hj2, hj3, rfl, rfl, rfl, rfl, rfl, he⟩ := hrel
    have HE := Lib.hid he
    clear he HR HL
    by_cases hjm : j ≤ 1
    · by_cases hjs : j < s.size
      · have hbs := s[j].toNat_lt
        by_cases hbad : (s[j].toNat : Int) < a ∨ b < (s[j].toNat : Int)
        · have HV := Lib.hid (HE.out.trans (by rw [tail_bad (by omega) (byte_at' hjs) hbad]))
          rcases hbad with hbad | hbad
          · go_wp2_with fail
            go_ret2
            exact ⟨by rw [HV.out]; simp, _, rfl⟩
          · by_cases hbad2 : (s[j].toNat : Int) < a
            · go_wp2_with fail
              go_ret2
              exact ⟨by rw [HV.out]; simp, _, rfl⟩
            · go_wp2_with fail
              go_ret2
              exact ⟨by rw [HV.out]; simp, _, rfl⟩
        · have HV := Lib.hid (HE.out.trans (by rw [tail_go (by omega) (byte_at' hjs) hbad]))
          have hb1 : ¬ (s[j].toNat : Int) < a := fun h => hbad (Or.inl h)
          have hb2 : ¬ b < (s[j].toNat : Int) := fun h => hbad (Or.inr h)
          clear hbad
          go_wp2_with fail
          go_roundw
          case rel => exact ⟨j + 1, 128, 191, _, by omega, by omega, by omega, by go_num, rfl, rfl, rfl, by first | trivial | rfl, HV.out.trans (by rw [show 1 + 1 - j - 1 = 1 + 1 - (j + 1) by omega]; exact Prod.ext rfl ((Nat.add_assoc _ 1 j).trans (congrArg (fun y => _ + y) (Nat.add_comm 1 j))))⟩
          case measure => simp [intOf]; omega
      · have HV := Lib.hid (HE.out.trans (by rw [tail_end (by omega) (List.drop_eq_nil_of_le (by simp; omega))]))
        have hje : ((j : Int) == (s.size : Int)) = true := by first | (simp; done) | (simp; omega)
        go_wp2_with fail
        go_ret2
        exact ⟨by rw [HV.out]; first | (simp; done) | (simp; omega), _, rfl⟩
    · obtain rfl : j = 1 + 1 := by omega
      have HV := Lib.hid (show oneR s.data.toList = (n, 1 + 1) from HE.out.trans (by rw [Nat.sub_self, tailR, Nat.zero_add]))
      go_wp2_with fail
      go_ret2
      exact ⟨by first | (rw [HV.out]; done) | (rw [HV.out]; rfl) | (rw [HV.out]; simp; done), _, rfl⟩

set_option maxHeartbeats 2000000 in
set_option maxRecDepth 100000 in
theorem one_2 (s : ByteArray) (w : World) (h0 : 0 < s.size) (hs : s.size ≤ 1000000000) (lo hi : Int) (hl : leadR s[0].toNat = (2, lo, hi)) :
    Calls Tryz.prog 116 #[.string s] w fun e w' => e = .returned (.tuple #[.int .i32 (oneR s.data.toList).1, .int .i64 (oneR s.data.toList).2]) ∧ ∃ k, w' = w.drewN k := by
  have HL := Lib.hid (fun W => lead_any s[0] W)
  have hb := s[0].toNat_lt
  have HR := Lib.hid (show oneR s.data.toList = ((tailR 2 (s.data.toList.drop 1) lo hi (bits BinOp.and IntKind.i32 s[0].toNat 15)).1, (tailR 2 (s.data.toList.drop 1) lo hi (bits BinOp.and IntKind.i32 s[0].toNat 15)).2 + 1) from by
    rw [one_eq h0, oneL, hl]
    rfl)
  rw [hl] at HL
  clear hl
  go_enter Tryz.func116, Tryz.ntmps116
  go_wp2_with fail
  refine (HL.out _).mono ?_
  rintro e w1 ⟨rfl, rfl⟩
  go_wp2_with fail
  go_quiet (fail)
  go_wp2_with fail
  go_loopw [5, 6, 7, 8] (fun lo' hi' n' i' wr => ∃ (j : Nat) (a b n : Int), 1 ≤ j ∧ j ≤ 2 + 1 ∧ j ≤ s.size ∧ i' = .int .i64 (j : Int) ∧ lo' = .int .u8 a ∧ hi' = .int .u8 b ∧ n' = .int .i32 n ∧ w.drewN nq = wr ∧
    oneR s.data.toList = ((tailR (2 + 1 - j) (s.data.toList.drop j) a b n).1, (tailR (2 + 1 - j) (s.data.toList.drop j) a b n).2 + j)) (fun _ _ _ i _ => 2 + 1 - (intOf i).toNat)
  case atStart => exact ⟨1, lo, hi, _, Nat.le_refl _, by omega, by omega, rfl, rfl, rfl, rfl, rfl, HR.out⟩
  case round =>
    obtain ⟨j, a, b, n, hj1, hj2, hj3, rfl, rfl, rfl, rfl, rfl, he⟩ := hrel
    have HE := Lib.hid he
    clear he HR HL
    by_cases hjm : j ≤ 2
    · by_cases hjs : j < s.size
      · have hbs := s[j].toNat_lt
        by_cases hbad : (s[j].toNat : Int) < a ∨ b < (s[j].toNat : Int)
        · have HV := Lib.hid (HE.out.trans (by rw [tail_bad (by omega) (byte_at' hjs) hbad]))
          rcases hbad with hbad | hbad
          · go_wp2_with fail
            go_ret2
            exact ⟨by rw [HV.out]; simp, _, rfl⟩
          · by_cases hbad2 : (s[j].toNat : Int) < a
            · go_wp2_with fail
              go_ret2
              exact ⟨by rw [HV.out]; simp, _, rfl⟩
            · go_wp2_with fail
              go_ret2
              exact ⟨by rw [HV.out]; simp, _, rfl⟩
        · have HV := Lib.hid (HE.out.trans (by rw [tail_go (by omega) (byte_at' hjs) hbad]))
          have hb1 : ¬ (s[j].toNat : Int) < a := fun h => hbad (Or.inl h)
          have hb2 : ¬ b < (s[j].toNat : Int) := fun h => hbad (Or.inr h)
          clear hbad
          go_wp2_with fail
          go_roundw
          case rel => exact ⟨j + 1, 128, 191, _, by omega, by omega, by omega, by go_num, rfl, rfl, rfl, by first | trivial | rfl, HV.out.trans (by rw [show 2 + 1 - j - 1 = 2 + 1 - (j + 1) by omega]; exact Prod.ext rfl ((Nat.add_assoc _ 1 j).trans (congrArg (fun y => _ + y) (Nat.add_comm 1 j))))⟩
          case measure => simp [intOf]; omega
      · have HV := Lib.hid (HE.out.trans (by rw [tail_end (by omega) (List.drop_eq_nil_of_le (by simp; omega))]))
        have hje : ((j : Int) == (s.size : Int)) = true := by first | (simp; done) | (simp; omega)
        go_wp2_with fail
        go_ret2
        exact ⟨by rw [HV.out]; first | (simp; done) | (simp; omega), _, rfl⟩
    · obtain rfl : j = 2 + 1 := by omega
      have HV := Lib.hid (show oneR s.data.toList = (n, 2 + 1) from HE.out.trans (by rw [Nat.sub_self, tailR, Nat.zero_add]))
      go_wp2_with fail
      go_ret2
      exact ⟨by first | (rw [HV.out]; done) | (rw [HV.out]; rfl) | (rw [HV.out]; simp; done), _, rfl⟩

set_option maxHeartbeats 2000000 in
set_option maxRecDepth 100000 in
theorem one_3 (s : ByteArray) (w : World) (h0 : 0 < s.size) (hs : s.size ≤ 1000000000) (lo hi : Int) (hl : leadR s[0].toNat = (3, lo, hi)) :
    Calls Tryz.prog 116 #[.string s] w fun e w' => e = .returned (.tuple #[.int .i32 (oneR s.data.toList).1, .int .i64 (oneR s.data.toList).2]) ∧ ∃ k, w' = w.drewN k := by
  have HL := Lib.hid (fun W => lead_any s[0] W)
  have hb := s[0].toNat_lt
  have HR := Lib.hid (show oneR s.data.toList = ((tailR 3 (s.data.toList.drop 1) lo hi (bits BinOp.and IntKind.i32 s[0].toNat 7)).1, (tailR 3 (s.data.toList.drop 1) lo hi (bits BinOp.and IntKind.i32 s[0].toNat 7)).2 + 1) from by
    rw [one_eq h0, oneL, hl]
    rfl)
  rw [hl] at HL
  clear hl
  go_enter Tryz.func116, Tryz.ntmps116
  go_wp2_with fail
  refine (HL.out _).mono ?_
  rintro e w1 ⟨rfl, rfl⟩
  go_wp2_with fail
  go_quiet (fail)
  go_wp2_with fail
  go_loopw [5, 6, 7, 8] (fun lo' hi' n' i' wr => ∃ (j : Nat) (a b n : Int), 1 ≤ j ∧ j ≤ 3 + 1 ∧ j ≤ s.size ∧ i' = .int .i64 (j : Int) ∧ lo' = .int .u8 a ∧ hi' = .int .u8 b ∧ n' = .int .i32 n ∧ w.drewN nq = wr ∧
    oneR s.data.toList = ((tailR (3 + 1 - j) (s.data.toList.drop j) a b n).1, (tailR (3 + 1 - j) (s.data.toList.drop j) a b n).2 + j)) (fun _ _ _ i _ => 3 + 1 - (intOf i).toNat)
  case atStart => exact ⟨1, lo, hi, _, Nat.le_refl _, by omega, by omega, rfl, rfl, rfl, rfl, rfl, HR.out⟩
  case round =>
    obtain ⟨j, a, b, n, hj1, hj2, hj3, rfl, rfl, rfl, rfl, rfl, he⟩ := hrel
    have HE := Lib.hid he
    clear he HR HL
    by_cases hjm : j ≤ 3
    · by_cases hjs : j < s.size
      · have hbs := s[j].toNat_lt
        by_cases hbad : (s[j].toNat : Int) < a ∨ b < (s[j].toNat : Int)
        · have HV := Lib.hid (HE.out.trans (by rw [tail_bad (by omega) (byte_at' hjs) hbad]))
          rcases hbad with hbad | hbad
          · go_wp2_with fail
            go_ret2
            exact ⟨by rw [HV.out]; simp, _, rfl⟩
          · by_cases hbad2 : (s[j].toNat : Int) < a
            · go_wp2_with fail
              go_ret2
              exact ⟨by rw [HV.out]; simp, _, rfl⟩
            · go_wp2_with fail
              go_ret2
              exact ⟨by rw [HV.out]; simp, _, rfl⟩
        · have HV := Lib.hid (HE.out.trans (by rw [tail_go (by omega) (byte_at' hjs) hbad]))
          have hb1 : ¬ (s[j].toNat : Int) < a := fun h => hbad (Or.inl h)
          have hb2 : ¬ b < (s[j].toNat : Int) := fun h => hbad (Or.inr h)
          clear hbad
          go_wp2_with fail
          go_roundw
          case rel => exact ⟨j + 1, 128, 191, _, by omega, by omega, by omega, by go_num, rfl, rfl, rfl, by first | trivial | rfl, HV.out.trans (by rw [show 3 + 1 - j - 1 = 3 + 1 - (j + 1) by omega]; exact Prod.ext rfl ((Nat.add_assoc _ 1 j).trans (congrArg (fun y => _ + y) (Nat.add_comm 1 j))))⟩
          case measure => simp [intOf]; omega
      · have HV := Lib.hid (HE.out.trans (by rw [tail_end (by omega) (List.drop_eq_nil_of_le (by simp; omega))]))
        have hje : ((j : Int) == (s.size : Int)) = true := by first | (simp; done) | (simp; omega)
        go_wp2_with fail
        go_ret2
        exact ⟨by rw [HV.out]; first | (simp; done) | (simp; omega), _, rfl⟩
    · obtain rfl : j = 3 + 1 := by omega
      have HV := Lib.hid (show oneR s.data.toList = (n, 3 + 1) from HE.out.trans (by rw [Nat.sub_self, tailR, Nat.zero_add]))
      go_wp2_with fail
      go_ret2
      exact ⟨by first | (rw [HV.out]; done) | (rw [HV.out]; rfl) | (rw [HV.out]; simp; done), _, rfl⟩

set_option maxRecDepth 100000 in
theorem chOne_any (s : ByteArray) (w : World) (h0 : 0 < s.size) (hs : s.size ≤ 1000000000) :
    Calls Tryz.prog 116 #[.string s] w fun e w' => e = .returned (.tuple #[.int .i32 (oneR s.data.toList).1, .int .i64 (oneR s.data.toList).2]) ∧ ∃ k, w' = w.drewN k := by
  have HL := Lib.hid (fun W => lead_any s[0] W)
  have hb := s[0].toNat_lt
  obtain ⟨lo, hi, hl | hl | hl | hl | hl⟩ := lead_cases s[0].toNat
  · have HR := Lib.hid (show oneR s.data.toList = (65533, 1) from by rw [one_eq h0, oneL, hl]; rfl)
    rw [hl] at HL
    clear hl
    go_enter Tryz.func116, Tryz.ntmps116
    go_wp2_with fail
    refine (HL.out _).mono ?_
    rintro e w1 ⟨rfl, rfl⟩
    go_wp2_with fail
    go_ret2
    exact ⟨by rw [HR.out]; rfl, 0, rfl⟩
  · have HR := Lib.hid (show oneR s.data.toList = ((s[0].toNat : Int), 1) from by rw [one_eq h0, oneL, hl]; rfl)
    rw [hl] at HL
    clear hl
    go_enter Tryz.func116, Tryz.ntmps116
    go_wp2_with fail
    refine (HL.out _).mono ?_
    rintro e w1 ⟨rfl, rfl⟩
    go_wp2_with fail
    go_ret2
    exact ⟨by rw [HR.out]; rfl, 0, rfl⟩
  · exact one_1 s w h0 hs lo hi hl
  · exact one_2 s w h0 hs lo hi hl
  · exact one_3 s w h0 hs lo hi hl
end Go.Proofs.YtpbngckplbnahaaGreatDoor
