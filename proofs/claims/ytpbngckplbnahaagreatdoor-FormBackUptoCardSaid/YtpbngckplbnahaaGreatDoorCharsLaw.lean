/-
The plain laws of package chars: what is encoded is decoded; when a text is right.
-/
import Derived.Laws.BitsLemmas
import Derived.Test.YtpbngckplbnahaaGreatDoorClean
import Derived.Lib.ValidLaws
import Derived.Lib.MapLaws
namespace Go.Proofs.YtpbngckplbnahaaGreatDoor
open Go.RowKit Go.Cl

theorem mask_one : ∀ b : Fin 256, maskN (b.val : Nat) 1 = (b.val % 32 : Nat) := by decide +kernel
theorem mask_two : ∀ b : Fin 256, maskN (b.val : Nat) 2 = (b.val % 16 : Nat) := by decide +kernel
theorem mask_three : ∀ b : Fin 256, maskN (b.val : Nat) 3 = (b.val % 8 : Nat) := by decide +kernel
theorem step_eq {n b : Int} (h0 : 0 ≤ n) (h1 : n < 33554432) : stepN n b = n * 64 + b % 64 := by
  unfold stepN wrap32
  have e : (n * 64 + 2147483648) % 4294967296 - 2147483648 = n * 64 := by omega
  rw [e]
  exact i32_or6 (n * 64) (b % 64) (by omega) (by omega) (by omega) (by omega) (by omega)
theorem ofNat_toNat {n : Int} (h0 : 0 ≤ n) (h1 : n < 256) : (n.toNat.toUInt8.toNat : Int) = n := by
  have h : n.toNat < 256 := by omega
  simp [Nat.mod_eq_of_lt h]
  omega
theorem tail_zero (l : List UInt8) (lo hi n : Int) : tailR 0 l lo hi n = (n, 0) := by rw [tailR]
theorem tail_cons {b : UInt8} {r : List UInt8} {lo hi n c s : Int} (k : Nat) (e : (b.toNat : Int) = c) (h : ¬ (c < lo ∨ hi < c)) (hs : stepN n c = s) : tailR (k + 1) (b :: r) lo hi n = ((tailR k r 128 191 s).1, (tailR k r 128 191 s).2 + 1) := by
  subst e
  subst hs
  rw [tailR, if_neg h]
theorem oneL_eq {b : UInt8} {c : Int} (r : List UInt8) (k : Nat) {lo hi : Int} (e : (b.toNat : Int) = c) (h : leadR c = ((k : Int), lo, hi)) (hk : 0 < k) : oneL b r = ((tailR k r lo hi (maskN c k)).1, (tailR k r lo hi (maskN c k)).2 + 1) := by
  subst e
  unfold oneL
  rw [h]
  dsimp only
  rw [if_neg (by omega), if_neg (by omega), show ((k : Int)).toNat = k from by omega]
/-- A sign that may be is read as it was written. -/
theorem one_enc {r : Int} (h : Lib.validRune r = true) (t : List UInt8) : oneR (Lib.encodeRune r ++ t) = (r, (Lib.encodeRune r).length) := by
  have hv : (0 ≤ r ∧ r < 55296) ∨ (57343 < r ∧ r ≤ 1114111) := by unfold Lib.validRune at h; exact of_decide_eq_true h
  unfold Lib.encodeRune
  by_cases c1 : r ≤ 127
  · rw [Lib.encodeRuneZ_one (by omega) c1]
    show oneL r.toNat.toUInt8 t = _
    have e0 := ofNat_toNat (n := r) (by omega) (by omega)
    unfold oneL
    rw [e0, show leadR r = (0, 128, 191) from by unfold leadR; rw [if_pos (by omega)]]
    rfl
  by_cases c2 : r ≤ 2047
  · rw [Lib.encodeRuneZ_two (by omega) c2]
    show oneL (192 + r / 64).toNat.toUInt8 ((128 + r % 64).toNat.toUInt8 :: t) = _
    have e0 := ofNat_toNat (n := 192 + r / 64) (by omega) (by omega)
    have e1 := ofNat_toNat (n := 128 + r % 64) (by omega) (by omega)
    have m := mask_one ⟨(192 + r / 64).toNat, by omega⟩
    have hm : maskN (192 + r / 64) 1 = r / 64 := by
      simp only at m
      rw [show ((192 + r / 64).toNat : Int) = 192 + r / 64 from by omega] at m
      rw [m]; omega
    unfold oneL
    rw [e0, show leadR (192 + r / 64) = (1, 128, 191) from by unfold leadR; rw [if_neg (by omega), if_pos (by omega)]]
    simp only [show Int.toNat 1 = 1 from rfl, tailR]
    rw [e1, if_neg (by omega), if_neg (by omega), if_neg (by omega), hm, step_eq (by omega) (by omega)]
    simp only [List.map_cons, List.map_nil, List.length_cons, List.length_nil]
    rw [show r / 64 * 64 + (128 + r % 64) % 64 = r from by omega]
  by_cases c3 : r ≤ 65535
  · rw [Lib.encodeRuneZ_three (by omega)]
    show oneL (224 + r / 4096).toNat.toUInt8 ((128 + r / 64 % 64).toNat.toUInt8 :: (128 + r % 64).toNat.toUInt8 :: t) = _
    have e0 := ofNat_toNat (n := 224 + r / 4096) (by omega) (by omega)
    have e1 := ofNat_toNat (n := 128 + r / 64 % 64) (by omega) (by omega)
    have e2 := ofNat_toNat (n := 128 + r % 64) (by omega) (by omega)
    have m := mask_two ⟨(224 + r / 4096).toNat, by omega⟩
    have hm : maskN (224 + r / 4096) 2 = r / 4096 := by
      simp only at m
      rw [show ((224 + r / 4096).toNat : Int) = 224 + r / 4096 from by omega] at m
      rw [m]; omega
    have k1 : ¬ (128 + r / 64 % 64 < (if 224 + r / 4096 = 224 then 160 else 128) ∨ (if 224 + r / 4096 = 237 then 159 else 191) < 128 + r / 64 % 64) := by
      split <;> split <;> omega
    rw [oneL_eq _ 2 e0 (by unfold leadR; rw [if_neg (by omega), if_neg (by omega), if_pos (by omega)]; rfl) (by decide), show maskN (224 + r / 4096) ((2 : Nat) : Int) = r / 4096 from hm,
      tail_cons 1 e1 k1 (step_eq (by omega) (by omega)), tail_cons 0 e2 (by omega) (step_eq (by omega) (by omega)), tail_zero]
    refine Prod.ext ?_ rfl
    show (r / 4096 * 64 + (128 + r / 64 % 64) % 64) * 64 + (128 + r % 64) % 64 = r
    omega
  · rw [Lib.encodeRuneZ_four (by omega) (by omega)]
    show oneL (240 + r / 262144).toNat.toUInt8 ((128 + r / 4096 % 64).toNat.toUInt8 :: (128 + r / 64 % 64).toNat.toUInt8 :: (128 + r % 64).toNat.toUInt8 :: t) = _
    have e0 := ofNat_toNat (n := 240 + r / 262144) (by omega) (by omega)
    have e1 := ofNat_toNat (n := 128 + r / 4096 % 64) (by omega) (by omega)
    have e2 := ofNat_toNat (n := 128 + r / 64 % 64) (by omega) (by omega)
    have e3 := ofNat_toNat (n := 128 + r % 64) (by omega) (by omega)
    have m := mask_three ⟨(240 + r / 262144).toNat, by omega⟩
    have hm : maskN (240 + r / 262144) 3 = r / 262144 := by
      simp only at m
      rw [show ((240 + r / 262144).toNat : Int) = 240 + r / 262144 from by omega] at m
      rw [m]; omega
    have k1 : ¬ (128 + r / 4096 % 64 < (if 240 + r / 262144 = 240 then 144 else 128) ∨ (if 240 + r / 262144 = 244 then 143 else 191) < 128 + r / 4096 % 64) := by
      split <;> split <;> omega
    rw [oneL_eq _ 3 e0 (by unfold leadR; rw [if_neg (by omega), if_neg (by omega), if_neg (by omega), if_pos (by omega)]; rfl) (by decide), show maskN (240 + r / 262144) ((3 : Nat) : Int) = r / 262144 from hm,
      tail_cons 2 e1 k1 (step_eq (by omega) (by omega)), tail_cons 1 e2 (by omega) (step_eq (by omega) (by omega)), tail_cons 0 e3 (by omega) (step_eq (by omega) (by omega)), tail_zero]
    refine Prod.ext ?_ rfl
    show ((r / 262144 * 64 + (128 + r / 4096 % 64) % 64) * 64 + (128 + r / 64 % 64) % 64) * 64 + (128 + r % 64) % 64 = r
    omega

/-- The sign itself, or the wrong one. -/
def fixR (r : Int) : Int := if Lib.validRune r = true then r else 65533
theorem fix_valid (r : Int) : Lib.validRune (fixR r) = true := by
  unfold fixR
  split
  · assumption
  · decide
theorem enc_fix (r : Int) : Lib.encodeRune (fixR r) = Lib.encodeRune r := by
  unfold fixR
  split
  · rfl
  · rename_i h
    unfold Lib.encodeRune
    have h2 : Lib.validRune r = false := Bool.eq_false_iff.2 h
    unfold Lib.validRune at h2
    have h3 := of_decide_eq_false h2
    rw [Lib.encodeRuneZ_bad (r := r) (by omega)]
    rfl
theorem one_enc' (r : Int) (t : List UInt8) : oneR (Lib.encodeRune r ++ t) = (fixR r, (Lib.encodeRune r).length) := by
  rw [← enc_fix r]
  exact one_enc (fix_valid r) t
/-- The signs of a text, without their places. -/
def runesL (l : List UInt8) : List Int := (signsL 0 l).map fun x => x.1.2
theorem enc_pos (r : Int) : 0 < (Lib.encodeRune r).length := by
  rw [← Lib.runeCells_length]
  exact (Lib.runeCells_le r).1
theorem signs_map (l : List UInt8) : ∀ k, (signsL k l).map (fun x : Sg => x.1.2) = runesL l := by
  unfold runesL
  induction hn : l.length using Nat.strongRecOn generalizing l with
  | _ n ih =>
    intro k
    by_cases h : 0 < l.length
    · have ho := one_le h
      rw [signs_step h, signs_step h, List.map_cons, List.map_cons]
      have hd : (l.drop (oneR l).2).length < n := by rw [List.length_drop]; omega
      rw [ih _ hd _ rfl, ih _ hd _ rfl (0 + (oneR l).2)]
    · rw [signs_end (by omega), signs_end (by omega)]
theorem runes_step {l : List UInt8} (h : 0 < l.length) : runesL l = (oneR l).1 :: runesL (l.drop (oneR l).2) := by
  unfold runesL
  rw [signs_step h, List.map_cons, signs_map _ (0 + (oneR l).2)]
  rfl
theorem runes_nil : runesL [] = [] := rfl
/-- What is encoded is decoded, but for what may not be. -/
theorem runes_enc (m : List Int) : runesL (encB m) = m.map fixR := by
  induction m with
  | nil => rfl
  | cons r m ih =>
    have e : encB (r :: m) = Lib.encodeRune r ++ encB m := rfl
    have hp := enc_pos r
    rw [e, runes_step (by rw [List.length_append]; omega), one_enc', List.drop_left, ih]
    rfl
theorem runes_enc_app (m : List Int) (t : List UInt8) : runesL (encB m ++ t) = m.map fixR ++ runesL t := by
  induction m with
  | nil => rfl
  | cons r m ih =>
    have e : encB (r :: m) ++ t = Lib.encodeRune r ++ (encB m ++ t) := by show (Lib.encodeRune r ++ encB m) ++ t = _; rw [List.append_assoc]
    have hp := enc_pos r
    rw [e, runes_step (by rw [List.length_append]; omega), one_enc', List.drop_left, ih]
    rfl
theorem enc_app (a b : List Int) : encB (a ++ b) = encB a ++ encB b := by unfold encB; rw [List.flatMap_append]
theorem enc_map_fix (m : List Int) : encB (m.map fixR) = encB m := by
  induction m with
  | nil => rfl
  | cons r m ih =>
    show Lib.encodeRune (fixR r) ++ encB (m.map fixR) = Lib.encodeRune r ++ encB m
    rw [enc_fix, ih]

/-! ### when a text is right -/
theorem decode_enc {r : Int} (h : Lib.validRune r = true) (t : List UInt8) : (Lib.decodeL (Lib.encodeRune r ++ t)).2 = (Lib.encodeRune r).length ∧ (Lib.decodeL (Lib.encodeRune r ++ t) = ((65533 : Nat), 1) → False) := by
  have hv : (0 ≤ r ∧ r < 55296) ∨ (57343 < r ∧ r ≤ 1114111) := by unfold Lib.validRune at h; exact of_decide_eq_true h
  unfold Lib.encodeRune
  by_cases c1 : r ≤ 127
  · rw [Lib.encodeRuneZ_one (by omega) c1]
    have e0 := ofNat_toNat (n := r) (by omega) (by omega)
    have hd : Lib.decodeL (r.toNat.toUInt8 :: t) = (r.toNat.toUInt8.toNat, 1) := Lib.decodeL_ascii _ t (by omega)
    show (Lib.decodeL (r.toNat.toUInt8 :: t)).2 = 1 ∧ (Lib.decodeL (r.toNat.toUInt8 :: t) = (65533, 1) → False)
    rw [hd]
    exact ⟨rfl, fun e => by have := congrArg Prod.fst e; simp only at this; omega⟩
  by_cases c2 : r ≤ 2047
  · rw [Lib.encodeRuneZ_two (by omega) c2]
    show (Lib.decodeL ((192 + r / 64).toNat.toUInt8 :: (128 + r % 64).toNat.toUInt8 :: t)).2 = 2 ∧ (Lib.decodeL ((192 + r / 64).toNat.toUInt8 :: (128 + r % 64).toNat.toUInt8 :: t) = (65533, 1) → False)
    have e0 := ofNat_toNat (n := 192 + r / 64) (by omega) (by omega)
    have e1 := ofNat_toNat (n := 128 + r % 64) (by omega) (by omega)
    have hd : Lib.decodeL ((192 + r / 64).toNat.toUInt8 :: (128 + r % 64).toNat.toUInt8 :: t) = (r.toNat, 2) := by
      rw [Lib.decodeL_N]
      simp only [List.getD_cons_zero, List.getD_cons_succ, List.length_cons]
      generalize (192 + r / 64).toNat.toUInt8.toNat = b0 at *
      generalize (128 + r % 64).toNat.toUInt8.toNat = b1 at *
      unfold Lib.decodeN
      rw [if_neg (by omega), if_pos (by omega), if_pos (by omega)]
      congr 1
      omega
    rw [hd]
    exact ⟨rfl, fun e => by have := congrArg Prod.snd e; simp at this⟩
  by_cases c3 : r ≤ 65535
  · rw [Lib.encodeRuneZ_three (by omega)]
    show (Lib.decodeL ((224 + r / 4096).toNat.toUInt8 :: (128 + r / 64 % 64).toNat.toUInt8 :: (128 + r % 64).toNat.toUInt8 :: t)).2 = 3 ∧ (Lib.decodeL ((224 + r / 4096).toNat.toUInt8 :: (128 + r / 64 % 64).toNat.toUInt8 :: (128 + r % 64).toNat.toUInt8 :: t) = (65533, 1) → False)
    have e0 := ofNat_toNat (n := 224 + r / 4096) (by omega) (by omega)
    have e1 := ofNat_toNat (n := 128 + r / 64 % 64) (by omega) (by omega)
    have e2 := ofNat_toNat (n := 128 + r % 64) (by omega) (by omega)
    have hd : Lib.decodeL ((224 + r / 4096).toNat.toUInt8 :: (128 + r / 64 % 64).toNat.toUInt8 :: (128 + r % 64).toNat.toUInt8 :: t) = (r.toNat, 3) := by
      rw [Lib.decodeL_N]
      simp only [List.getD_cons_zero, List.getD_cons_succ, List.length_cons]
      generalize (224 + r / 4096).toNat.toUInt8.toNat = b0 at *
      generalize (128 + r / 64 % 64).toNat.toUInt8.toNat = b1 at *
      generalize (128 + r % 64).toNat.toUInt8.toNat = b2 at *
      unfold Lib.decodeN
      rw [if_neg (by omega), if_neg (by omega), if_pos (by omega), if_pos (by omega)]
      congr 1
      omega
    rw [hd]
    exact ⟨rfl, fun e => by have := congrArg Prod.snd e; simp at this⟩
  · rw [Lib.encodeRuneZ_four (by omega) (by omega)]
    show (Lib.decodeL ((240 + r / 262144).toNat.toUInt8 :: (128 + r / 4096 % 64).toNat.toUInt8 :: (128 + r / 64 % 64).toNat.toUInt8 :: (128 + r % 64).toNat.toUInt8 :: t)).2 = 4 ∧ (Lib.decodeL ((240 + r / 262144).toNat.toUInt8 :: (128 + r / 4096 % 64).toNat.toUInt8 :: (128 + r / 64 % 64).toNat.toUInt8 :: (128 + r % 64).toNat.toUInt8 :: t) = (65533, 1) → False)
    have e0 := ofNat_toNat (n := 240 + r / 262144) (by omega) (by omega)
    have e1 := ofNat_toNat (n := 128 + r / 4096 % 64) (by omega) (by omega)
    have e2 := ofNat_toNat (n := 128 + r / 64 % 64) (by omega) (by omega)
    have e3 := ofNat_toNat (n := 128 + r % 64) (by omega) (by omega)
    have hd : Lib.decodeL ((240 + r / 262144).toNat.toUInt8 :: (128 + r / 4096 % 64).toNat.toUInt8 :: (128 + r / 64 % 64).toNat.toUInt8 :: (128 + r % 64).toNat.toUInt8 :: t) = (r.toNat, 4) := by
      rw [Lib.decodeL_N]
      simp only [List.getD_cons_zero, List.getD_cons_succ, List.length_cons]
      generalize (240 + r / 262144).toNat.toUInt8.toNat = b0 at *
      generalize (128 + r / 4096 % 64).toNat.toUInt8.toNat = b1 at *
      generalize (128 + r / 64 % 64).toNat.toUInt8.toNat = b2 at *
      generalize (128 + r % 64).toNat.toUInt8.toNat = b3 at *
      unfold Lib.decodeN
      rw [if_neg (by omega), if_neg (by omega), if_neg (by omega), if_pos (by omega), if_pos (by omega)]
      congr 1
      omega
    rw [hd]
    exact ⟨rfl, fun e => by have := congrArg Prod.snd e; simp at this⟩
theorem valid_enc_app (r : Int) (t : List UInt8) : Lib.validD (Lib.encodeRune r ++ t) = Lib.validD t := by
  rw [← enc_fix r]
  have hp := enc_pos (fixR r)
  obtain ⟨h1, h2⟩ := decode_enc (fix_valid r) t
  have hne : Lib.encodeRune (fixR r) ++ t ≠ [] := by
    intro e
    have h0 : (Lib.encodeRune (fixR r) ++ t).length = 0 := by rw [e]; rfl
    rw [List.length_append] at h0
    omega
  rw [Lib.validD_step _ hne, if_neg (fun h => h2 (Prod.ext h.1 h.2)), h1, List.drop_left]
/-- What was encoded is right. -/
theorem valid_enc (m : List Int) : Lib.validD (encB m) = true := by
  induction m with
  | nil => rfl
  | cons r m ih =>
    show Lib.validD (Lib.encodeRune r ++ encB m) = true
    rw [valid_enc_app, ih]
theorem decode_valid (l : List UInt8) : Lib.validRune ((Lib.decodeL l).1 : Int) = true := by
  rw [Lib.decodeL_N]
  have k0 := (l.getD 0 0).toNat_lt
  have k1 := (l.getD 1 0).toNat_lt
  have k2 := (l.getD 2 0).toNat_lt
  have k3 := (l.getD 3 0).toNat_lt
  unfold Lib.validRune
  unfold Lib.decodeN
  apply decide_eq_true
  repeat' split
  all_goals (simp only at *; omega)
/-- A text that is right is what its signs are encoded to. -/
theorem enc_runes (l : List UInt8) (h : Lib.validD l = true) : encB (runesL l) = l := by
  induction hn : l.length using Nat.strongRecOn generalizing l with
  | _ n ih =>
    by_cases hl : 0 < l.length
    · have hne := List.length_pos_iff.1 hl
      rw [Lib.validD_step l hne] at h
      by_cases hb : (Lib.decodeL l).1 = 65533 ∧ (Lib.decodeL l).2 = 1
      · rw [if_pos hb] at h; cases h
      · rw [if_neg hb] at h
        have he := Lib.encode_decode l hne hb
        have hv := decode_valid l
        have hsplit : l = Lib.encodeRune ((Lib.decodeL l).1 : Int) ++ l.drop (Lib.decodeL l).2 := by rw [he, List.take_append_drop]
        have hp := enc_pos ((Lib.decodeL l).1 : Int)
        have ho := one_enc hv (l.drop (Lib.decodeL l).2)
        rw [← hsplit] at ho
        have hlen : (Lib.encodeRune ((Lib.decodeL l).1 : Int)).length = (Lib.decodeL l).2 := by
          have h1 := (decode_enc hv (l.drop (Lib.decodeL l).2)).1
          rw [← hsplit] at h1
          exact h1.symm
        rw [hlen] at ho
        have hlt : (l.drop (Lib.decodeL l).2).length < n := by rw [List.length_drop]; omega
        have ih' := ih _ hlt _ h rfl
        rw [runes_step hl, ho]
        show Lib.encodeRune ((Lib.decodeL l).1 : Int) ++ encB (runesL (l.drop (Lib.decodeL l).2)) = l
        rw [ih', ← hsplit]
    · have : l = [] := List.eq_nil_of_length_eq_zero (by omega)
      subst this
      rfl
/-- .. and no other. -/
theorem right_iff (l : List UInt8) : decide (encB (runesL l) = l) = Lib.validD l := by
  by_cases h : Lib.validD l = true
  · rw [h]
    exact decide_eq_true (enc_runes l h)
  · have h' : Lib.validD l = false := by simpa using h
    rw [h']
    refine decide_eq_false fun e => h ?_
    rw [← e]
    exact valid_enc _

/-! ### Clean -/
theorem clean_eq (l : List Sg) : cleanL l = (((l.map fun x => x.1.2).foldl (fun a r => (a.1 ++ cleanB a.2 r, r)) (([] : List UInt8), (0 : Int)))) := by
  unfold cleanL
  rw [List.foldl_map]
  rfl
/-- What Clean makes of signs, behind what was last. -/
def cleanR : Int → List Int → List Int
  | _, [] => []
  | last, r :: m => (if r = 0 then [65533] else if r = 13 ∨ (r = 10 ∧ last ≠ 13) then [10] else if r ≠ 10 then [fixR r] else []) ++ cleanR r m
theorem clean_fold (m : List Int) : ∀ (a : List UInt8) (last : Int), (m.foldl (fun a r => (a.1 ++ cleanB a.2 r, r)) (a, last)).1 = a ++ encB (cleanR last m) := by
  induction m with
  | nil => intro a last; simp [cleanR, encB]
  | cons r m ih =>
    intro a last
    rw [List.foldl_cons, ih]
    show a ++ cleanB last r ++ _ = _
    rw [List.append_assoc, cleanR, enc_app]
    congr 2
    unfold cleanB
    split
    · show _ = Lib.encodeRune 65533 ++ []
      rw [List.append_nil]
    · split
      · rfl
      · split
        · show _ = Lib.encodeRune (fixR r) ++ []
          rw [List.append_nil, enc_fix]
        · rfl
theorem clean_runes (l : List UInt8) : (cleanL (signsL 0 l)).1 = encB (cleanR 0 (runesL l)) := by
  rw [clean_eq, clean_fold, List.nil_append]
  rfl
/-- Signs of a clean text. -/
def cleanOne (r : Int) : Prop := Lib.validRune r = true ∧ r ≠ 0 ∧ r ≠ 13
theorem cleanR_one (m : List Int) : ∀ last, ∀ x ∈ cleanR last m, cleanOne x := by
  induction m with
  | nil => intro last x hx; cases hx
  | cons r m ih =>
    intro last x hx
    rw [cleanR, List.mem_append] at hx
    rcases hx with hx | hx
    · split at hx
      · simp at hx; subst hx; exact ⟨by decide, by decide, by decide⟩
      · split at hx
        · simp at hx; subst hx; exact ⟨by decide, by decide, by decide⟩
        · split at hx
          · rename_i h1 h2 h3
            simp at hx
            subst hx
            refine ⟨fix_valid r, ?_, ?_⟩
            · unfold fixR; split
              · exact h1
              · decide
            · unfold fixR; split
              · exact fun e => h2 (Or.inl e)
              · decide
          · cases hx
    · exact ih r x hx
/-- A clean text stays. -/
theorem cleanR_same (m : List Int) : ∀ last, last ≠ 13 → (∀ x ∈ m, cleanOne x) → cleanR last m = m := by
  induction m with
  | nil => intro last _ _; rfl
  | cons r m ih =>
    intro last hl h
    obtain ⟨h1, h2, h3⟩ := h r (by simp)
    rw [cleanR, ih r h3 (fun x hx => h x (by simp [hx])), if_neg h2]
    by_cases h10 : r = 10
    · rw [if_pos (Or.inr ⟨h10, hl⟩), h10]; rfl
    · rw [if_neg (by omega), if_pos h10]
      unfold fixR
      rw [if_pos h1]
      rfl
theorem map_fix_same {m : List Int} (h : ∀ x ∈ m, cleanOne x) : m.map fixR = m := by
  conv => rhs; rw [← List.map_id m]
  apply List.map_congr_left
  intro x hx
  unfold fixR
  rw [if_pos (h x hx).1]
  rfl
theorem clean_twice {m : List Int} (h : ∀ x ∈ m, cleanOne x) : (cleanL (signsL 0 (encB m))).1 = encB m := by
  rw [clean_runes, runes_enc, map_fix_same h, cleanR_same m 0 (by decide) h]
theorem enc_bytes {r : Int} (h : cleanOne r) : ∀ b ∈ Lib.encodeRune r, b ≠ 0 ∧ b ≠ 13 := by
  obtain ⟨hv, h0, h13⟩ := h
  have hv' : (0 ≤ r ∧ r < 55296) ∨ (57343 < r ∧ r ≤ 1114111) := by unfold Lib.validRune at hv; exact of_decide_eq_true hv
  intro b hb
  unfold Lib.encodeRune at hb
  obtain ⟨x, hx, rfl⟩ := List.mem_map.1 hb
  have hr := Lib.encodeRuneZ_byte r x hx
  have hn : x ≠ 0 ∧ x ≠ 13 := by
    by_cases c1 : r ≤ 127
    · rw [Lib.encodeRuneZ_one (by omega) c1] at hx
      simp at hx; omega
    by_cases c2 : r ≤ 2047
    · rw [Lib.encodeRuneZ_two (by omega) c2] at hx
      simp at hx; omega
    by_cases c3 : r ≤ 65535
    · rw [Lib.encodeRuneZ_three (by omega)] at hx
      simp at hx; omega
    · rw [Lib.encodeRuneZ_four (by omega) (by omega)] at hx
      simp at hx; omega
  have e := ofNat_toNat hr.1 hr.2
  constructor
  · intro h; rw [h] at e; simp at e; omega
  · intro h; rw [h] at e; simp at e; omega
theorem enc_bytes_all {m : List Int} (h : ∀ x ∈ m, cleanOne x) : ∀ b ∈ encB m, b ≠ 0 ∧ b ≠ 13 := by
  intro b hb
  obtain ⟨x, hx, hb⟩ := List.mem_flatMap.1 hb
  exact enc_bytes (h x hx) b hb
end Go.Proofs.YtpbngckplbnahaaGreatDoor
