/-
Steps undo each other: the plain law of WalkBack.
-/
import Derived.Test.YtmemadajjmmlpaaDoorWalkBegun
import Derived.Lib.QuoteBits
namespace Go.Proofs.YtmemadajjmmlpaaDoor
open Go.RowKit Go.Cl

section
variable {l : List Nd} (T : Tree l)
include T
theorem Tree.top_par {m p : Nat} (hm : m < l.length) (hp : p < l.length) (e : parD l m = (p : Int)) : topR l m = topR l p := by
  unfold topR
  rw [T.chain_step hm, e, T.chain_step hp]
  simp
theorem Tree.top_beside {m : Nat} (hm : m < l.length) {b k : Int} (h : besideR l m b = k) (hk : 0 ≤ k) : ∃ n : Nat, k = (n : Int) ∧ n < l.length ∧ topR l n = topR l m := by
  obtain ⟨p, i, j, n, e, hp, _, _, rfl, _, hn, hpn⟩ := T.beside_some hm h hk
  exact ⟨n, rfl, hn, (T.top_par hn hp hpn).trans (T.top_par hm hp e).symm⟩
theorem Tree.top_over (f : Nat) : ∀ m : Nat, m < l.length → upN l m < f → ∀ k : Int, overR l m = k → 0 ≤ k → ∃ n : Nat, k = (n : Int) ∧ n < l.length ∧ topR l n = topR l m := by
  induction f with
  | zero => intro m hm hf; omega
  | succ f ih =>
    intro m hm hf k hk h0
    rw [T.over_step hm] at hk
    by_cases h : 0 ≤ besideR l m 1
    · rw [if_pos h] at hk
      exact T.top_beside hm hk h0
    · rw [if_neg h] at hk
      rcases T.par hm with e | ⟨p, e, hp, _⟩
      · rw [e, over_end] at hk; omega
      · rw [e] at hk
        obtain ⟨n, e1, hn, ht⟩ := ih p hp (by have := (T.up_par hm e).2; omega) k hk h0
        exact ⟨n, e1, hn, ht.trans (T.top_par hm hp e).symm⟩
theorem Tree.top_desc (f : Nat) : ∀ m : Nat, m < l.length → upN l m + f = 41 → ∃ k : Nat, descR l m = (k : Int) ∧ k < l.length ∧ topR l k = topR l m := by
  induction f with
  | zero =>
    intro m hm hf
    have := (T.deep m hm).1
    omega
  | succ f ih =>
    intro m hm hf
    by_cases h : 0 ≤ kidR l m true
    · obtain ⟨n, hn, hnl, hp, _⟩ := T.kid_last hm h
      have hu := (T.up_par hnl hp).2
      obtain ⟨k, hk, hkl, ht⟩ := ih n hnl (by omega)
      exact ⟨k, by rw [T.desc_step hm, if_pos h, hn]; exact hk, hkl, ht.trans (T.top_par hnl hm hp)⟩
    · exact ⟨m, by rw [T.desc_step hm, if_neg h], hm, rfl⟩
theorem Tree.top_next {m : Nat} (hm : m < l.length) (h0 : 0 ≤ nextR l m) : ∃ n : Nat, nextR l m = (n : Int) ∧ n < l.length ∧ topR l n = topR l m := by
  unfold nextR at h0 ⊢
  by_cases hf : 0 ≤ kidR l m false
  · rw [if_pos hf]
    obtain ⟨n, hn, hnl, hp, _⟩ := T.kid_first hm hf
    exact ⟨n, hn, hnl, T.top_par hnl hm hp⟩
  · rw [if_neg hf] at h0 ⊢
    exact T.top_over (upN l m + 1) m hm (by omega) _ rfl h0
theorem Tree.top_last {m : Nat} (hm : m < l.length) (h0 : 0 ≤ lastR l m) : ∃ n : Nat, lastR l m = (n : Int) ∧ n < l.length ∧ topR l n = topR l m := by
  unfold lastR at h0 ⊢
  by_cases hb : besideR l m (-1) < 0
  · rw [if_pos hb] at h0 ⊢
    rcases T.par hm with e | ⟨p, e, hp, _⟩
    · omega
    · exact ⟨p, e, hp, (T.top_par hm hp e).symm⟩
  · rw [if_neg hb]
    obtain ⟨n, e, hn, ht⟩ := T.top_beside hm rfl (by omega : 0 ≤ besideR l m (-1))
    rw [e]
    obtain ⟨q, hq, hql, hqt⟩ := T.top_desc (41 - upN l n) n hn (by have := (T.deep n hn).1; omega)
    exact ⟨q, hq, hql, hqt.trans ht⟩
/-- The way back. -/
def backH (how : Int) : Int := if how = 1 then 2 else if how = 2 then 1 else if how = 4 ∨ how = 5 then 8 else if how = 6 then 7 else 6
theorem Tree.step_back {m : Nat} (hm : m < l.length) {how : Int} (hh : how = 1 ∨ how = 2 ∨ how = 4 ∨ how = 5 ∨ how = 6 ∨ how = 7) (h0 : 0 ≤ stepR l m how) :
    ∃ n : Nat, stepR l m how = (n : Int) ∧ n < l.length ∧ topR l n = topR l m ∧ stepR l n (backH how) = m := by
  rcases hh with rfl | rfl | rfl | rfl | rfl | rfl
  · have h0' : 0 ≤ nextR l m := h0
    obtain ⟨n, e, hn, ht⟩ := T.top_next hm h0'
    obtain ⟨n', e', _, hb, _⟩ := T.last_next hm rfl h0'
    obtain rfl : n = n' := by omega
    exact ⟨n, e, hn, ht, hb⟩
  · have h0' : 0 ≤ lastR l m := h0
    obtain ⟨n, e, hn, ht⟩ := T.top_last hm h0'
    obtain ⟨n', e', _, hb⟩ := T.next_last hm rfl h0'
    obtain rfl : n = n' := by omega
    exact ⟨n, e, hn, ht, hb⟩
  · have h0' : 0 ≤ kidR l m false := h0
    obtain ⟨n, e, hn, hp, _⟩ := T.kid_first hm h0'
    exact ⟨n, e, hn, T.top_par hn hm hp, hp⟩
  · have h0' : 0 ≤ kidR l m true := h0
    obtain ⟨n, e, hn, hp, _⟩ := T.kid_last hm h0'
    exact ⟨n, e, hn, T.top_par hn hm hp, hp⟩
  · have h0' : 0 ≤ besideR l m 1 := h0
    obtain ⟨n, e, hn, ht⟩ := T.top_beside hm rfl h0'
    have hb := T.beside_back hm rfl h0'
    rw [e] at hb
    exact ⟨n, e, hn, ht, hb⟩
  · have h0' : 0 ≤ besideR l m (-1) := h0
    obtain ⟨n, e, hn, ht⟩ := T.top_beside hm rfl h0'
    have hb := T.beside_back hm rfl h0'
    rw [e] at hb
    exact ⟨n, e, hn, ht, hb⟩
end
theorem checkW_one {l : List Nd} (h : checkD l = 0) {n : Nat} (hn : n < l.length) (ht : topR l n = 0) : checkW l [(n : Int)] = 0 := by
  unfold checkW
  rw [if_neg (by rw [h]; simp), if_neg, if_neg]
  · unfold looseB
    simp [ht]
  · unfold outB
    simp
    omega
/-- A step that leads nowhere leads to 0. -/
theorem stepS_none {l : List Nd} {m how : Int} (h : (stepS l m how).2.2 ≠ 0 ∨ (stepS l m how).2.1 = false) : (stepS l m how).1 = 0 := by
  unfold stepS at h ⊢
  by_cases h1 : checkD l ≠ 0
  · rw [if_pos h1]
  · rw [if_neg h1] at h ⊢
    by_cases h2 : how < 1 ∨ 8 < how
    · rw [if_pos h2]
    · rw [if_neg h2] at h ⊢
      by_cases h3 : checkW l [m] ≠ 0
      · rw [if_pos h3]
      · rw [if_neg h3] at h ⊢
        rcases h with h | h
        · exact absurd rfl h
        · have : ¬ 0 ≤ stepR l m how := of_decide_eq_false h
          show max (stepR l m how) 0 = 0
          omega
/-- One step, and back. -/
theorem stepS_back {l : List Nd} {m how k : Int} (hh : how = 1 ∨ how = 2 ∨ how = 4 ∨ how = 5 ∨ how = 6 ∨ how = 7) (h : stepS l m how = (k, true, 0)) :
    stepS l k (backH how) = (m, true, 0) ∧ (Lit.int .i64 k).wf = true := by
  unfold stepS at h
  by_cases h1 : checkD l ≠ 0
  · rw [if_pos h1] at h
    simp at h
  · rw [if_neg h1, if_neg (by omega)] at h
    have h1' : checkD l = 0 := by omega
    by_cases h3 : checkW l [m] ≠ 0
    · rw [if_pos h3] at h
      simp at h
    · rw [if_neg h3] at h
      obtain ⟨_, hin⟩ := checkW_in (show checkW l [m] = 0 by omega)
      obtain ⟨m, rfl, hm, ht0⟩ := hin m (by simp)
      have T := tree_of h1'
      simp only [Prod.mk.injEq, decide_eq_true_eq] at h
      obtain ⟨hk, h0, _⟩ := h
      obtain ⟨n, e, hn, ht, hb⟩ := T.step_back hm hh h0
      obtain rfl : k = (n : Int) := by omega
      have hbh : ¬ (backH how < 1 ∨ 8 < backH how) := by
        rcases hh with rfl | rfl | rfl | rfl | rfl | rfl <;> decide
      refine ⟨?_, ?_⟩
      · unfold stepS
        rw [if_neg h1, if_neg hbh, if_neg (by rw [checkW_one h1' hn (ht.trans ht0)]; simp), hb, decide_eq_true (by omega)]
        rw [show max (m : Int) 0 = m by omega]
      · have := T.small
        have hs : n < 200 := by omega
        exact WalkArith.wf_i64 (by omega)
/-- 'x & 7', x any int. -/
theorem and7 (x : Int) : ∃ j : Nat, j ≤ 7 ∧ bits .and .i64 x 7 = (j : Int) := by
  refine ⟨(BitVec.ofInt 64 x &&& BitVec.ofInt 64 7).toNat, ?_, ?_⟩
  · rw [BitVec.toNat_and]
    exact Nat.and_le_right
  · show IntKind.i64.wrap ((BitVec.ofInt 64 x &&& BitVec.ofInt 64 7).toNat : Int) = _
    have h : (BitVec.ofInt 64 x &&& BitVec.ofInt 64 7).toNat ≤ 7 := by
      rw [BitVec.toNat_and]
      exact Nat.and_le_right
    exact Go.Lib.wrap_i64_small _ (by omega)
end Go.Proofs.YtmemadajjmmlpaaDoor
