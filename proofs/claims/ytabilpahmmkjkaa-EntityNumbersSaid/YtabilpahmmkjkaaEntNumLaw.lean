/-
The law EntityNumbers' walk.
-/
import Derived.Test.YtabilpahmmkjkaaEntLaws
namespace Go.Proofs.Ytabilpahmmkjkaa
open Go.RowKit Go.Cl

/-- The number that digits tell behind one that was told. -/
def fromD (base : Int) (v : Int) (l : List UInt8) : Int := l.foldl (fun v d => base * v + digN d.toNat base) v
theorem cap_step {base v d : Int} (hb : 1 ≤ base) (hd : 0 ≤ d) : min (base * min v 2097152 + d) 2097152 = min (base * v + d) 2097152 := by
  rcases Int.le_total v 2097152 with h | h
  · rw [Int.min_eq_left h]
  · rw [Int.min_eq_right h]
    have h1 : 1 * 2097152 ≤ base * 2097152 := Int.mul_le_mul_of_nonneg_right hb (by omega)
    have h2 : base * 2097152 ≤ base * v := Int.mul_le_mul_of_nonneg_left h (by omega)
    rw [Int.min_eq_right (by omega), Int.min_eq_right (by omega)]
theorem eat_digits (base : Int) (hb : 1 ≤ base) (r : List UInt8) (l : List UInt8) : ∀ (v : Int), 0 ≤ v → (∀ d ∈ l, 0 ≤ digN d.toNat base) →
    eat base (l ++ r) (min v 2097152) = ((eat base r (min (fromD base v l) 2097152)).1, (eat base r (min (fromD base v l) 2097152)).2 + l.length) := by
  induction l with
  | nil => intro v _ _; rfl
  | cons d l ih =>
    intro v hv hl
    have hd := hl d (List.mem_cons_self ..)
    rw [List.cons_append, eat, if_pos hd, cap_step hb hd, ih (base * v + digN d.toNat base) (by have := Int.mul_nonneg (show 0 ≤ base by omega) hv; omega) (fun x hx => hl x (List.mem_cons_of_mem _ hx))]
    rfl
theorem numE_of {s p : ByteArray} {base : Int} {a n : Nat} {x : UInt8} {r : List UInt8} (hb : 1 ≤ base) (hs : s.data.toList.drop a = p.data.toList ++ x :: r) (hp : ∀ d ∈ p.data.toList, 0 ≤ digN d.toNat base)
    (h0 : 0 < p.size) (hv : fromD base 0 p.data.toList = n) (hx : digN x.toNat base < 0) :
    numE s base a = (signB (min (n : Int) 2097152), if x = 59 then a + p.size + 1 else a + p.size) := by
  have he : eat base (s.data.toList.drop a) 0 = (min (n : Int) 2097152, p.size) := by
    have h := eat_digits base hb (x :: r) p.data.toList 0 (Int.le_refl 0) hp
    rw [hv, eat, if_neg (by omega)] at h
    rw [hs]
    have h1 : p.data.toList.length = p.size := by simp
    rw [h1, Nat.zero_add] at h
    exact h
  have hget : s.data.toList[a + p.size]? = some x := by
    have h1 : (s.data.toList.drop a)[p.size]? = some x := by
      rw [hs, List.getElem?_append_right (by simp)]
      simp
    rwa [List.getElem?_drop] at h1
  unfold numE
  rw [he]
  dsimp only
  rw [if_neg (by omega)]
  unfold semiN
  rw [hget]
  by_cases h59 : x = 59
  · rw [if_pos (by rw [h59]), if_pos h59]
  · rw [if_neg (by simpa using h59), if_neg h59]
theorem low_dig : ∀ b : Nat, b < 256 → 0 ≤ digN b 10 → (low b == 120) = false := by decide +kernel
theorem find_ten {p m : ByteArray} {n : Nat} {x : UInt8} (hp : ∀ d ∈ p.data.toList, 0 ≤ digN d.toNat 10) (h0 : 0 < p.size) (hv : fromD 10 0 p.data.toList = n) (hx : digN x.toNat 10 < 0) (attr : Bool) :
    findB (⟨#[38, 35]⟩ ++ p ++ ⟨#[x]⟩ ++ m) attr = (signB (min (n : Int) 2097152), if x = 59 then 2 + p.size + 1 else 2 + p.size) := by
  have hl : (⟨#[38, 35]⟩ ++ p ++ ⟨#[x]⟩ ++ m : ByteArray).data.toList = 38 :: 35 :: (p.data.toList ++ x :: m.data.toList) := by simp
  obtain ⟨d, l, hd⟩ : ∃ d l, p.data.toList = d :: l := by
    cases h : p.data.toList with
    | nil => have : p.data.toList.length = p.size := by simp
             rw [h] at this; simp at this; omega
    | cons d l => exact ⟨d, l, rfl⟩
  have hh : hexB (⟨#[38, 35]⟩ ++ p ++ ⟨#[x]⟩ ++ m) = false := by
    unfold hexB
    rw [hl, hd]
    exact low_dig d.toNat d.toNat_lt (hp d (by rw [hd]; exact List.mem_cons_self ..))
  unfold findB numB
  rw [hh, hl]
  simp only [List.getElem?_cons_zero, List.getElem?_cons_succ, if_true]
  exact numE_of (r := m.data.toList) (by omega) (by rw [hl]; rfl) hp h0 hv hx
theorem find_hex {p m : ByteArray} {n : Nat} {x : UInt8} (hp : ∀ d ∈ p.data.toList, 0 ≤ digN d.toNat 16) (h0 : 0 < p.size) (hv : fromD 16 0 p.data.toList = n) (hx : digN x.toNat 16 < 0) (attr : Bool) :
    findB (⟨#[38, 35, 120]⟩ ++ p ++ ⟨#[x]⟩ ++ m) attr = (signB (min (n : Int) 2097152), if x = 59 then 3 + p.size + 1 else 3 + p.size) := by
  have hl : (⟨#[38, 35, 120]⟩ ++ p ++ ⟨#[x]⟩ ++ m : ByteArray).data.toList = 38 :: 35 :: 120 :: (p.data.toList ++ x :: m.data.toList) := by simp
  have hh : hexB (⟨#[38, 35, 120]⟩ ++ p ++ ⟨#[x]⟩ ++ m) = true := by
    unfold hexB
    rw [hl]
    show (low (120 : UInt8).toNat == 120) = true
    decide +kernel
  unfold findB numB
  rw [hh, hl]
  simp only [List.getElem?_cons_zero, List.getElem?_cons_succ, if_true]
  exact numE_of (r := m.data.toList) (by omega) (by rw [hl]; rfl) hp h0 hv hx
/-- The signs of digits. -/
def tens : ByteArray := ⟨#[48, 49, 50, 51, 52, 53, 54, 55, 56, 57]⟩
def hexs : ByteArray := ⟨#[48, 49, 50, 51, 52, 53, 54, 55, 56, 57, 97, 98, 99, 100, 101, 102]⟩
theorem tens_at : ∀ d, d < 10 → ∃ b : UInt8, (tens.extract d (d + 1)).data.toList = [b] ∧ digN b.toNat 10 = d := by
  intro d hd
  rcases (show d = 0 ∨ d = 1 ∨ d = 2 ∨ d = 3 ∨ d = 4 ∨ d = 5 ∨ d = 6 ∨ d = 7 ∨ d = 8 ∨ d = 9 by omega) with rfl | rfl | rfl | rfl | rfl | rfl | rfl | rfl | rfl | rfl <;> exact ⟨_, rfl, by decide +kernel⟩
theorem hexs_at : ∀ d, d < 16 → ∃ b : UInt8, (hexs.extract d (d + 1)).data.toList = [b] ∧ digN b.toNat 16 = d := by
  intro d hd
  rcases (show d = 0 ∨ d = 1 ∨ d = 2 ∨ d = 3 ∨ d = 4 ∨ d = 5 ∨ d = 6 ∨ d = 7 ∨ d = 8 ∨ d = 9 ∨ d = 10 ∨ d = 11 ∨ d = 12 ∨ d = 13 ∨ d = 14 ∨ d = 15 by omega) with rfl | rfl | rfl | rfl | rfl | rfl | rfl | rfl | rfl | rfl | rfl | rfl | rfl | rfl | rfl | rfl <;> exact ⟨_, rfl, by decide +kernel⟩
theorem sign_pos (n : Int) : 0 < (signB n).size := by
  have h : ∀ r : Int, 0 < (ByteArray.mk (Lib.encodeRune r).toArray).size := fun r => by
    have h1 := (Lib.runeCells_le r).1
    rw [Lib.runeCells_length] at h1
    show 0 < (Lib.encodeRune r).toArray.size
    rw [List.size_toArray]
    omega
  exact h _
/-- One more digit ahead. -/
structure Digs (base : Int) (n k : Nat) (p : ByteArray) : Prop where
  ok : ∀ d ∈ p.data.toList, 0 ≤ digN d.toNat base
  val : fromD base k p.data.toList = n
  size : p.size + k ≤ n + 1
theorem Digs.put {base n k : Nat} {p q : ByteArray} {b : UInt8} (h : Digs base n k p) (hb : 2 ≤ base) (hk : 0 < k ∨ p.size = 0) (hq : q.data.toList = [b]) (hd : digN b.toNat base = ((k % base : Nat) : Int)) : Digs base n (k / base) (q ++ p) := by
  have hdm := Nat.div_add_mod k base
  constructor
  · intro d hm
    rw [ByteArray.data_append, Array.toList_append, hq] at hm
    rcases List.mem_append.1 hm with hm | hm
    · obtain rfl : d = b := by simpa using hm
      rw [hd]; omega
    · exact h.ok d hm
  · rw [ByteArray.data_append, Array.toList_append, hq]
    show fromD base ((base : Int) * ((k / base : Nat) : Int) + digN b.toNat base) p.data.toList = n
    rw [hd, ← Int.natCast_mul, ← Int.natCast_add, hdm]
    exact h.val
  · have hqs : q.size = 1 := by
      have : q.data.toList.length = q.size := by simp
      rw [hq] at this; simpa using this.symm
    rw [ByteArray.size_append, hqs]
    have hs := h.size
    have hle : 0 < k → k / base < k := fun hk => Nat.div_lt_self hk (by omega)
    rcases hk with hk | hk
    · have := hle hk; omega
    · rcases Nat.eq_zero_or_pos k with rfl | hk'
      · simp; omega
      · have := hle hk'; omega
end Go.Proofs.Ytabilpahmmkjkaa
