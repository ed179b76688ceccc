/-
Forms as text: the walk of digit.
-/
import Derived.Test.YtpbngckplbnahaaGreatDoorFbLaw
namespace Go.Proofs.YtpbngckplbnahaaGreatDoor
open Go.RowKit Go.Cl
attribute [local go_sem ↓] Go.wp_at_zero Go.wp_at_succ
def digI (b : UInt8) : Int := match digU b with
  | some m => (m : Int)
  | none => -1
set_option maxRecDepth 100000 in
theorem digI_up : ∀ n : Nat, n < 256 → 97 ≤ n → n ≤ 102 → Lib.indexByte hexU (IntKind.u8.wrap ((n : Int) - 32)).toNat.toUInt8 = digI n.toUInt8 := by decide +kernel
set_option maxRecDepth 100000 in
theorem digI_no : ∀ n : Nat, n < 256 → (n < 97 ∨ 102 < n) → Lib.indexByte hexU n.toUInt8 = digI n.toUInt8 := by decide +kernel
theorem digit_any (b : UInt8) (w : World) : Calls Tryz.prog 97 #[.int .u8 (b.toNat : Int)] w fun e w' => e = .returned (.int .i64 (digI b)) ∧ w' = w := by
  have hb := b.toNat_lt
  have e8 : b.toNat.toUInt8 = b := by simp
  generalize b.toNat = n at *
  subst e8
  by_cases h1 : 97 ≤ n ∧ n ≤ 102
  · have HI := Lib.hid (Tryz.strings_IndexByte (⟨#[48, 49, 50, 51, 52, 53, 54, 55, 56, 57, 65, 66, 67, 68, 69, 70]⟩ : ByteArray) (IntKind.u8.wrap ((n : Int) - 32)) w)
    have HD := Lib.hid (digI_up n hb h1.1 h1.2)
    obtain ⟨h2, h3⟩ := h1
    have i1 : (97 : Int) ≤ (n : Int) := by omega
    have i2 : (n : Int) ≤ 102 := by omega
    have w1 : IntKind.u8.wrap ((n : Int) - 32) = (n : Int) - 32 := by unfold IntKind.wrap; simp [IntKind.bits]; omega
    rw [w1] at HI HD
    go_enter Tryz.func97, Tryz.ntmps97
    go_wp2_with (go_at_call 91; refine HI.out.mono ?_; rintro e w2 ⟨rfl, rfl⟩)
    go_ret
    exact ⟨by rw [← HD.out]; rfl, rfl⟩
  · have HI := Lib.hid (Tryz.strings_IndexByte (⟨#[48, 49, 50, 51, 52, 53, 54, 55, 56, 57, 65, 66, 67, 68, 69, 70]⟩ : ByteArray) (n : Int) w)
    have HD := Lib.hid (digI_no n hb (by omega))
    by_cases h2 : 97 ≤ n
    · have i1 : (97 : Int) ≤ (n : Int) := by omega
      have i2 : ¬ (n : Int) ≤ 102 := by omega
      go_enter Tryz.func97, Tryz.ntmps97
      go_wp2_with (go_at_call 91; refine HI.out.mono ?_; rintro e w2 ⟨rfl, rfl⟩)
      go_ret
      exact ⟨by rw [← HD.out]; rfl, rfl⟩
    · have i1 : ¬ (97 : Int) ≤ (n : Int) := by omega
      go_enter Tryz.func97, Tryz.ntmps97
      go_wp2_with (go_at_call 91; refine HI.out.mono ?_; rintro e w2 ⟨rfl, rfl⟩)
      go_ret
      exact ⟨by rw [← HD.out]; rfl, rfl⟩
end Go.Proofs.YtpbngckplbnahaaGreatDoor

/-
Forms as text: decoding, step by step (plain).
-/
namespace Go.Proofs.YtpbngckplbnahaaGreatDoor
open Go.RowKit Go.Cl

theorem fbDec2_len : ∀ {r t : List UInt8} {k : Nat}, fbDec2 r = some (k, t) → t.length + 2 = r.length
  | a :: b :: q, t, k, h => by
    have h2 : (match digU a, digU b with
      | some m, some n => some (m * 16 + n, q)
      | _, _ => none) = some (k, t) := h
    cases ha : digU a with
    | none => rw [ha] at h2; cases h2
    | some m =>
      cases hb : digU b with
      | none => rw [ha, hb] at h2; cases h2
      | some n =>
        rw [ha, hb] at h2
        injection h2 with h2
        injection h2 with _ h2
        rw [← h2]
        simp
  | [], _, _, h => by cases h
  | [_], _, _, h => by cases h
theorem fbDecF_cons (f : Nat) (x : UInt8) (r : List UInt8) : fbDecF (f + 1) (x :: r) = if x = 43 then 32 :: fbDecF f r else match (if x = 37 then fbDec2 r else none) with
    | some (k, t) => k.toUInt8 :: fbDecF f t
    | none => x :: fbDecF f r := rfl
theorem fbDecF_more : ∀ (f g : Nat) (s : List UInt8), s.length ≤ f → s.length ≤ g → fbDecF f s = fbDecF g s
  | 0, g, [], _, _ => by cases g <;> rfl
  | f + 1, g, [], _, _ => by cases g <;> rfl
  | 0, _, x :: r, h, _ => by simp at h
  | f + 1, 0, x :: r, _, h => by simp at h
  | f + 1, g + 1, x :: r, hf, hg => by
    have h1 : r.length ≤ f := by simpa using hf
    have h2 : r.length ≤ g := by simpa using hg
    rw [fbDecF_cons, fbDecF_cons, fbDecF_more f g r h1 h2]
    split
    · rfl
    · cases h3 : (if x = 37 then fbDec2 r else none) with
      | none => rfl
      | some q =>
        obtain ⟨k, t⟩ := q
        split at h3
        · have h4 := fbDec2_len h3
          show k.toUInt8 :: fbDecF f t = k.toUInt8 :: fbDecF g t
          rw [fbDecF_more f g t (by omega) (by omega)]
        · cases h3
theorem fbDecF_le : ∀ (f : Nat) (s : List UInt8), (fbDecF f s).length ≤ s.length
  | 0, s => by cases s <;> simp [fbDecF]
  | f + 1, [] => by simp [fbDecF]
  | f + 1, x :: r => by
    rw [fbDecF_cons, List.length_cons]
    split
    · have := fbDecF_le f r; rw [List.length_cons]; omega
    · cases h3 : (if x = 37 then fbDec2 r else none) with
      | none => have := fbDecF_le f r; show (x :: fbDecF f r).length ≤ _; rw [List.length_cons]; omega
      | some q =>
        obtain ⟨k, t⟩ := q
        split at h3
        · have h4 := fbDec2_len h3
          have := fbDecF_le f t
          show (k.toUInt8 :: fbDecF f t).length ≤ _
          rw [List.length_cons]
          omega
        · cases h3
theorem fbDecB_le (s : List UInt8) : (fbDecB s).length ≤ s.length := fbDecF_le _ s
theorem fbDecB_plus (r : List UInt8) : fbDecB (43 :: r) = 32 :: fbDecB r := rfl
theorem digI_nonneg {b : UInt8} (h : 0 ≤ digI b) : ∃ m, digU b = some m ∧ digI b = (m : Int) ∧ m < 16 := by
  unfold digI at h ⊢
  cases hb : digU b with
  | none => rw [hb] at h; exact absurd h (by decide)
  | some m =>
    refine ⟨m, rfl, rfl, ?_⟩
    have h1 : hexU.findIdx? (· == (if 97 ≤ b.toNat ∧ b.toNat ≤ 102 then b - 32 else b)) = some m := hb
    have h2 := List.findIdx?_eq_some_iff_getElem.1 h1
    exact h2.1
theorem digI_neg {b : UInt8} (h : ¬ 0 ≤ digI b) : digU b = none := by
  unfold digI at h
  cases hb : digU b with
  | none => rfl
  | some m => rw [hb] at h; exact absurd (Int.natCast_nonneg m) h
/-- What two digits tell. -/
def digV (a b : UInt8) : UInt8 := UInt8.ofNat (IntKind.u8.wrap (bits .or .i64 (digI a * 16) (digI b))).toNat
theorem digV_all : ∀ m : Nat, m < 16 → ∀ n : Nat, n < 16 → UInt8.ofNat (IntKind.u8.wrap (bits .or .i64 ((m : Int) * 16) (n : Int))).toNat = (m * 16 + n).toUInt8 := by decide +kernel
theorem fb_pct {xs : List UInt8} {k : Nat} (h : k + 2 < xs.length) (hb : xs[k] = 37) (h1 : 0 ≤ digI xs[k + 1]) (h2 : 0 ≤ digI xs[k + 2]) : fbDecB (xs.drop k) = digV xs[k + 1] xs[k + 2] :: fbDecB (xs.drop (k + 3)) := by
  have hq1 : k + 1 < xs.length := by omega
  obtain ⟨m, m1, m2, m3⟩ := digI_nonneg h1
  obtain ⟨n, n1, n2, n3⟩ := digI_nonneg h2
  have hv : digV xs[k + 1] xs[k + 2] = (m * 16 + n).toUInt8 := by unfold digV; rw [m2, n2]; exact digV_all m m3 n n3
  rw [hv, List.drop_eq_getElem_cons (by omega), hb, List.drop_eq_getElem_cons (show k + 1 < xs.length by omega), List.drop_eq_getElem_cons (show k + 1 + 1 < xs.length by omega)]
  have hd : fbDec2 (xs[k + 1] :: xs[k + 1 + 1] :: xs.drop (k + 1 + 1 + 1)) = some (m * 16 + n, xs.drop (k + 1 + 1 + 1)) := by
    show (match digU xs[k + 1], digU xs[k + 2] with
      | some m, some n => some (m * 16 + n, xs.drop (k + 1 + 1 + 1))
      | _, _ => none) = _
    rw [m1, n1]
  show fbDecF (_ + 1) (37 :: _) = _
  rw [fbDecF_cons, if_neg (by decide), if_pos rfl, hd]
  show (m * 16 + n).toUInt8 :: fbDecF _ _ = _
  congr 1
  exact fbDecF_more _ _ _ (by simp; omega) (Nat.le_refl _)
theorem fb_one {xs : List UInt8} {k : Nat} (h : k < xs.length) (h43 : xs[k] ≠ 43) (h2 : ¬ (xs[k] = 37 ∧ ∃ h : k + 2 < xs.length, 0 ≤ digI (xs[k + 1]'(by omega)) ∧ 0 ≤ digI xs[k + 2])) : fbDecB (xs.drop k) = xs[k] :: fbDecB (xs.drop (k + 1)) := by
  rw [List.drop_eq_getElem_cons h]
  show fbDecF (_ + 1) (xs[k] :: _) = _
  rw [fbDecF_cons, if_neg h43]
  have hn : (if xs[k] = 37 then fbDec2 (xs.drop (k + 1)) else none) = none := by
    split
    · rename_i h37
      by_cases hk : k + 2 < xs.length
      · rw [List.drop_eq_getElem_cons (show k + 1 < xs.length by omega), List.drop_eq_getElem_cons (show k + 1 + 1 < xs.length by omega)]
        show (match digU xs[k + 1], digU xs[k + 2] with
          | some m, some n => some (m * 16 + n, xs.drop (k + 1 + 1 + 1))
          | _, _ => none) = none
        by_cases ha : 0 ≤ digI xs[k + 1]
        · have hb : ¬ 0 ≤ digI xs[k + 2] := fun hb => h2 ⟨h37, hk, ha, hb⟩
          rw [digI_neg hb]
          cases digU xs[k + 1] <;> rfl
        · rw [digI_neg ha]
      · cases hd : fbDec2 (xs.drop (k + 1)) with
        | none => rfl
        | some q =>
          have := fbDec2_len (k := q.1) (t := q.2) hd
          rw [List.length_drop] at this
          omega
    · rfl
  rw [hn]
  rfl
theorem fb_plus {xs : List UInt8} {k : Nat} (h : k < xs.length) (h43 : xs[k] = 43) : fbDecB (xs.drop k) = 32 :: fbDecB (xs.drop (k + 1)) := by
  rw [List.drop_eq_getElem_cons h, h43, fbDecB_plus]
theorem digI_in (x : UInt8) : -1 ≤ digI x ∧ digI x < 16 := by
  by_cases h : 0 ≤ digI x
  · obtain ⟨m, _, e, hm⟩ := digI_nonneg h
    omega
  · have h2 := digI_neg h
    unfold digI
    rw [h2]
    decide
theorem digI_wrap (x : UInt8) : IntKind.i64.wrap (digI x * 16) = digI x * 16 := by
  have h := digI_in x
  exact IntWalk.i64_in _ (by omega)
theorem digV_nat (x y : UInt8) : ((digV x y).toNat : Int) = IntKind.u8.wrap (bits .or .i64 (digI x * 16) (digI y)) := by
  unfold digV
  generalize bits .or .i64 (digI x * 16) (digI y) = z
  rw [IntKind.wrap_u8]
  have h : (UInt8.ofNat (z % 256).toNat).toNat = (z % 256).toNat % 256 := by simp
  rw [h]
  omega
end Go.Proofs.YtpbngckplbnahaaGreatDoor
