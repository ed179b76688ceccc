/-
Forms as text: what is encoded is decoded (plain law). No program in sight.
-/
import Derived.Test.YtpbngckplbnahaaGreatDoorFormLaw
namespace Go.Proofs.YtpbngckplbnahaaGreatDoor
open Go.RowKit Go.Cl

/-- The signs that stand for themselves. -/
def fbPlain : List UInt8 := ([97, 98, 99, 100, 101, 102, 103, 104, 105, 106, 107, 108, 109, 110, 111, 112, 113, 114, 115, 116, 117, 118, 119, 120, 121, 122, 65, 66, 67, 68, 69, 70, 71, 72, 73, 74, 75, 76, 77, 78, 79, 80, 81, 82, 83, 84, 85, 86, 87, 88, 89, 90, 48, 49, 50, 51, 52, 53, 54, 55, 56, 57, 42, 45, 46, 95] : List UInt8)
def hexU : List UInt8 := ([48, 49, 50, 51, 52, 53, 54, 55, 56, 57, 65, 66, 67, 68, 69, 70] : List UInt8)
def fbEnc1 (b : UInt8) : List UInt8 := if fbPlain.contains b then [b] else if b = 32 then [43] else [37, hexU[(b.toNat / 16)]?.getD 0, hexU[(b.toNat % 16)]?.getD 0]
def fbEncB (s : List UInt8) : List UInt8 := s.flatMap fbEnc1
/-- A digit by sixteens. -/
def digU (b : UInt8) : Option Nat := let c := if 97 ≤ b.toNat ∧ b.toNat ≤ 102 then b - 32 else b
  hexU.findIdx? (· == c)
/-- Two digits. -/
def fbDec2 : List UInt8 → Option (Nat × List UInt8)
  | a :: b :: t => match digU a, digU b with
    | some m, some n => some (m * 16 + n, t)
    | _, _ => none
  | _ => none
def fbDecF : Nat → List UInt8 → List UInt8
  | f + 1, x :: r => if x = 43 then 32 :: fbDecF f r else match (if x = 37 then fbDec2 r else none) with
    | some (k, t) => k.toUInt8 :: fbDecF f t
    | none => x :: fbDecF f r
  | _, _ => []
def fbDecB (s : List UInt8) : List UInt8 := fbDecF s.length s
set_option maxRecDepth 100000 in
theorem fbEnc1_all : ∀ n, n < 256 → (fbEnc1 n.toUInt8 = [n.toUInt8] ∧ n ≠ 43 ∧ n ≠ 37) ∨ (fbEnc1 n.toUInt8 = [43] ∧ n = 32) ∨ ∃ a b, fbEnc1 n.toUInt8 = [37, a, b] ∧ digU a = some (n / 16) ∧ digU b = some (n % 16) := by
  have h : ∀ n, n < 256 → (fbEnc1 n.toUInt8 = [n.toUInt8] ∧ n ≠ 43 ∧ n ≠ 37) ∨ (fbEnc1 n.toUInt8 = [43] ∧ n = 32) ∨ (fbEnc1 n.toUInt8 = [37, hexU[(n / 16)]?.getD 0, hexU[(n % 16)]?.getD 0] ∧ digU (hexU[(n / 16)]?.getD 0) = some (n / 16) ∧ digU (hexU[(n % 16)]?.getD 0) = some (n % 16)) := by decide +kernel
  intro n hn
  rcases h n hn with h1 | h1 | h1
  · exact .inl h1
  · exact .inr (.inl h1)
  · exact .inr (.inr ⟨_, _, h1⟩)
theorem fb_u8 (b : UInt8) : b.toNat.toUInt8 = b := by simp
theorem fbDecF_enc (s : List UInt8) : ∀ f, (fbEncB s).length ≤ f → fbDecF f (fbEncB s) = s := by
  unfold fbEncB
  induction s with
  | nil => intro f _; cases f <;> rfl
  | cons x r ih =>
    intro f hf
    rw [List.flatMap_cons, List.length_append] at hf
    rw [List.flatMap_cons]
    have hx := fbEnc1_all x.toNat x.toNat_lt
    rw [fb_u8] at hx
    rcases hx with ⟨h1, h2, h3⟩ | ⟨h1, h2⟩ | ⟨a, b, h1, h2, h3⟩
    · rw [h1] at hf ⊢
      obtain ⟨f, rfl⟩ : ∃ q, f = q + 1 := ⟨f - 1, by simp at hf; omega⟩
      show (if x = 43 then 32 :: fbDecF f _ else _) = _
      have e1 : x ≠ 43 := fun e => h2 (by rw [e]; rfl)
      have e2 : x ≠ 37 := fun e => h3 (by rw [e]; rfl)
      rw [if_neg e1, if_neg e2]
      show x :: fbDecF f (r.flatMap fbEnc1) = _
      have hf' : 1 + (r.flatMap fbEnc1).length ≤ f + 1 := hf
      rw [ih f (by omega)]
    · rw [h1] at hf ⊢
      obtain ⟨f, rfl⟩ : ∃ q, f = q + 1 := ⟨f - 1, by simp at hf; omega⟩
      show 32 :: fbDecF f (r.flatMap fbEnc1) = _
      have hf' : 1 + (r.flatMap fbEnc1).length ≤ f + 1 := hf
      rw [ih f (by omega), ← fb_u8 x, h2]
      rfl
    · rw [h1] at hf ⊢
      obtain ⟨f, rfl⟩ : ∃ q, f = q + 1 := ⟨f - 1, by simp at hf; omega⟩
      have hd : fbDec2 (a :: b :: r.flatMap fbEnc1) = some (x.toNat, r.flatMap fbEnc1) := by
        show (match digU a, digU b with
          | some m, some n => some (m * 16 + n, r.flatMap fbEnc1)
          | _, _ => none) = _
        rw [h2, h3]
        show some (x.toNat / 16 * 16 + x.toNat % 16, _) = _
        rw [show x.toNat / 16 * 16 + x.toNat % 16 = x.toNat by omega]
      show (match fbDec2 (a :: b :: r.flatMap fbEnc1) with
        | some (k, t) => k.toUInt8 :: fbDecF f t
        | none => 37 :: fbDecF f (a :: b :: r.flatMap fbEnc1)) = _
      rw [hd]
      show x.toNat.toUInt8 :: fbDecF f _ = _
      have hf' : 3 + (r.flatMap fbEnc1).length ≤ f + 1 := hf
      rw [fb_u8, ih f (by omega)]
theorem fb_dec_enc (s : List UInt8) : fbDecB (fbEncB s) = s := fbDecF_enc s _ (Nat.le_refl _)
/-! ### the signs of an encoded text -/
def fbOk (b : UInt8) : Bool := fbPlain.contains b || b == 43 || b == 37
set_option maxRecDepth 100000 in
theorem fbEnc1_ok : ∀ n, n < 256 → (fbEnc1 n.toUInt8).all fbOk = true := by decide +kernel
theorem fb_enc_ok (s : List UInt8) : ∀ b ∈ fbEncB s, fbOk b = true := by
  intro b hb
  obtain ⟨x, _, hx⟩ := List.mem_flatMap.1 hb
  have h := fbEnc1_ok x.toNat x.toNat_lt
  rw [fb_u8] at h
  exact List.all_eq_true.1 h b hx
theorem fb_enc_not (s : List UInt8) (c : UInt8) (h : fbOk c = false) : c ∉ fbEncB s := fun hc => by rw [fb_enc_ok s c hc] at h; cases h
/-! ### entries -/
def fbEncE (x : List UInt8 × List UInt8) : List UInt8 := fbEncB x.1 ++ 61 :: fbEncB x.2
/-- strings.Join by '&'. -/
def fbJoin : List (List UInt8) → List UInt8
  | [] => []
  | [x] => x
  | x :: r => x ++ 38 :: fbJoin r
def fbEncL (l : List (List UInt8 × List UInt8)) : List UInt8 := fbJoin (l.map fbEncE)
def fbDecE (p : List UInt8) : List UInt8 × List UInt8 := (fbDecB (Lib.cut p [61]).1, fbDecB (Lib.cut p [61]).2.1)
/-- What the parts tell. -/
def fbDecP (ps : List (List UInt8)) : List (List UInt8 × List UInt8) := (ps.filter fun p => !p.isEmpty).map fbDecE
/-- The parts between '&'. -/
def fbPartsF : Nat → List UInt8 → List (List UInt8)
  | 0, _ => []
  | f + 1, s => if (Lib.cut s [38]).2.2 then (Lib.cut s [38]).1 :: fbPartsF f (Lib.cut s [38]).2.1 else [s]
theorem fb_at {a t : List UInt8} {c : UInt8} (h : c ∉ a) : Lib.indexByte (a ++ c :: t) c = (a.length : Int) := by
  induction a with
  | nil =>
    show (if (c == c) = true then (0 : Int) else _) = 0
    rw [if_pos (by simp)]
  | cons b r ih =>
    obtain ⟨h1, h2⟩ := not_or.1 (fun e => h (List.mem_cons.2 e))
    have := ih h2
    show (if (b == c) = true then (0 : Int) else if (Lib.indexByte (r ++ c :: t) c == -1) = true then -1 else Lib.indexByte (r ++ c :: t) c + 1) = _
    rw [if_neg (by simpa using fun e => h1 e.symm), this, if_neg (by first | (simp; done) | (simp; omega)), List.length_cons]
    omega
theorem fb_not {a : List UInt8} {c : UInt8} (h : c ∉ a) : Lib.indexByte a c = -1 := by
  induction a with
  | nil => rfl
  | cons b r ih =>
    obtain ⟨h1, h2⟩ := not_or.1 (fun e => h (List.mem_cons.2 e))
    have := ih h2
    show (if (b == c) = true then (0 : Int) else if (Lib.indexByte r c == -1) = true then -1 else Lib.indexByte r c + 1) = _
    rw [if_neg (by simpa using fun e => h1 e.symm), this]
    first | rfl | decide
theorem fb_hit {a t : List UInt8} {c : UInt8} (h : c ∉ a) : Lib.cut (a ++ c :: t) [c] = (a, t, true) := by
  unfold Lib.cut
  rw [Lib.index_one, fb_at h, if_pos (by omega), Int.toNat_natCast]
  show (_, List.drop (a.length + 1) _, true) = _
  rw [List.take_left', List.drop_append]
  · simp
  · rfl
theorem fb_miss {a : List UInt8} {c : UInt8} (h : c ∉ a) : Lib.cut a [c] = (a, [], false) := by
  unfold Lib.cut
  rw [Lib.index_one, fb_not h, if_neg (by decide)]
theorem fbEncE_not (x : List UInt8 × List UInt8) : (38 : UInt8) ∉ fbEncE x := by
  intro h
  rcases List.mem_append.1 h with h | h
  · exact fb_enc_not _ _ (by decide +kernel) h
  · rcases List.mem_cons.1 h with h | h
    · exact absurd h (by decide)
    · exact fb_enc_not _ _ (by decide +kernel) h
theorem fbDecE_enc (x : List UInt8 × List UInt8) : fbDecE (fbEncE x) = x := by
  unfold fbDecE fbEncE
  rw [fb_hit (fb_enc_not _ _ (by decide +kernel)), fb_dec_enc, fb_dec_enc]
theorem fb_parts (ps : List (List UInt8)) (h : ∀ p ∈ ps, (38 : UInt8) ∉ p) : ∀ f, ps.length ≤ f → 0 < f → fbPartsF f (fbJoin ps) = if ps = [] then [[]] else ps := by
  induction ps with
  | nil =>
    intro f _ hf
    obtain ⟨f, rfl⟩ : ∃ q, f = q + 1 := ⟨f - 1, by omega⟩
    show (if (Lib.cut [] [38]).2.2 then _ else [[]]) = _
    rw [fb_miss (by simp)]
    rfl
  | cons p r ih =>
    intro f hf h0
    obtain ⟨f, rfl⟩ : ∃ q, f = q + 1 := ⟨f - 1, by omega⟩
    have hp := h p (List.mem_cons_self ..)
    cases r with
    | nil =>
      show (if (Lib.cut p [38]).2.2 then _ else [p]) = _
      rw [fb_miss hp]
      rfl
    | cons q r =>
      have e : fbJoin (p :: q :: r) = p ++ 38 :: fbJoin (q :: r) := rfl
      rw [e, fbPartsF, fb_hit hp]
      show p :: fbPartsF f (fbJoin (q :: r)) = _
      rw [ih (fun x hx => h x (List.mem_cons_of_mem _ hx)) f (by simp at hf ⊢; omega) (by simp at hf; omega)]
      rfl
/-- What is encoded is decoded. -/
theorem form_back (l : List (List UInt8 × List UInt8)) (f : Nat) (h : l.length < f) : fbDecP (fbPartsF f (fbEncL l)) = l := by
  unfold fbEncL
  rw [fb_parts _ (fun p hp => by obtain ⟨x, _, rfl⟩ := List.mem_map.1 hp; exact fbEncE_not x) f (by rw [List.length_map]; omega) (by omega)]
  cases l with
  | nil => rfl
  | cons x r =>
    rw [if_neg (by simp)]
    unfold fbDecP
    generalize x :: r = l
    induction l with
    | nil => rfl
    | cons x r ih =>
      have hx : (!(fbEncE x).isEmpty) = true := by unfold fbEncE; cases fbEncB x.1 <;> rfl
      rw [List.map_cons, List.filter_cons, hx]
      show fbDecE (fbEncE x) :: _ = _
      rw [fbDecE_enc]
      exact congrArg (x :: ·) ih
/-- The signs that an encoded text may have. -/
def signOk (b : UInt8) : Bool := fbOk b || b == 61 || b == 38
theorem fbEncE_ok (x : List UInt8 × List UInt8) : ∀ b ∈ fbEncE x, signOk b = true := by
  intro b hb
  unfold signOk
  rcases List.mem_append.1 hb with h | h
  · rw [fb_enc_ok _ b h]; rfl
  · rcases List.mem_cons.1 h with h | h
    · rw [h]; decide +kernel
    · rw [fb_enc_ok _ b h]; rfl
theorem fb_join_ok : ∀ ps : List (List UInt8), (∀ p ∈ ps, ∀ b ∈ p, signOk b = true) → ∀ b ∈ fbJoin ps, signOk b = true
  | [], _ => fun b hb => by cases hb
  | [p], h => h p (List.mem_cons_self ..)
  | p :: q :: r, h => fun b hb => by
    rcases List.mem_append.1 (show b ∈ p ++ 38 :: fbJoin (q :: r) from hb) with hb | hb
    · exact h p (List.mem_cons_self ..) b hb
    · rcases List.mem_cons.1 hb with hb | hb
      · rw [hb]; decide +kernel
      · exact fb_join_ok (q :: r) (fun x hx => h x (List.mem_cons_of_mem _ hx)) b hb
theorem form_signs (l : List (List UInt8 × List UInt8)) : ∀ b ∈ fbEncL l, signOk b = true :=
  fb_join_ok _ fun p hp => by obtain ⟨x, _, rfl⟩ := List.mem_map.1 hp; exact fbEncE_ok x
end Go.Proofs.YtpbngckplbnahaaGreatDoor
