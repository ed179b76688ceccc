/-
Of two unlike nodes just one stands ahead. No program in sight.
-/
import Derived.Test.YtmemadajjmmlpaaDoorOrderLaw
namespace Go.Proofs.YtmemadajjmmlpaaDoor
open Go.RowKit Go.Cl

/-- A way down by kids, that ends at a node. -/
def KidsTo (l : List Nd) : Int → List Int → Int → Prop
  | p, [], m => p = m
  | p, x :: r, m => x ∈ kidsD l p ∧ KidsTo l x r m
theorem KidsTo.snoc {l : List Nd} {m z : Int} (hz : z ∈ kidsD l m) : ∀ {r : List Int} {p : Int}, KidsTo l p r m → KidsTo l p (r ++ [z]) z := by
  intro r
  induction r with
  | nil =>
    intro p h
    obtain rfl : p = m := h
    exact ⟨hz, rfl⟩
  | cons x r ih => intro p h; exact ⟨h.1, ih h.2⟩
theorem Tree.path_kids {l : List Nd} (T : Tree l) (f : Nat) : ∀ m : Nat, m < l.length → upN l m < f → ∃ r, pathL l m = topR l m :: r ∧ KidsTo l (topR l m) r m := by
  induction f with
  | zero => intro m hm hf; omega
  | succ f ih =>
    intro m hm hf
    have hp0 : pathL l m = pathL l (parD l m) ++ [(m : Int)] := by
      unfold pathL
      rw [T.chain_step hm, List.reverse_cons]
    rcases T.par hm with e | ⟨p, e, hp, hmem⟩
    · have h1 : pathL l m = [(m : Int)] := by
        rw [hp0, e]
        rfl
      have h2 : topR l m = m := by
        unfold topR
        rw [T.chain_step hm, e, chain_end]
        rfl
      exact ⟨[], by rw [h1, h2], h2⟩
    · obtain ⟨r, h1, h2⟩ := ih p hp (by have := (T.up_par hm e).2; omega)
      have ht := T.top_par hm hp e
      refine ⟨r ++ [(m : Int)], by rw [hp0, e, h1, ht]; rfl, ?_⟩
      rw [ht]
      exact h2.snoc hmem
theorem bef_self (l : List Nd) : ∀ (ps : List Int) (p : Int), befF l p ps ps = false := by
  intro ps
  induction ps with
  | nil => intro p; rfl
  | cons x r ih => intro p; rw [befF, if_pos rfl]; exact ih x
theorem bef_one (l : List Nd) : ∀ (ps qs : List Int) (p a b : Int), KidsTo l p ps a → KidsTo l p qs b → a ≠ b → befF l p ps qs ≠ befF l p qs ps := by
  intro ps
  induction ps with
  | nil =>
    intro qs p a b ha hb hne
    cases qs with
    | nil => exact absurd ((show p = a from ha).symm.trans hb) hne
    | cons y qs => simp [befF]
  | cons x ps ih =>
    intro qs p a b ha hb hne
    cases qs with
    | nil => simp [befF]
    | cons y qs =>
      by_cases hxy : x = y
      · subst hxy
        rw [befF, befF, if_pos rfl, if_pos rfl]
        exact ih qs x a b ha.2 hb.2 hne
      · rw [befF, befF, if_neg hxy, if_neg (fun e => hxy e.symm)]
        obtain ⟨i, hi, hx, _⟩ := idx_of_mem ha.1
        obtain ⟨j, hj, hy, _⟩ := idx_of_mem hb.1
        have hij : i ≠ j := fun e => by
          subst e
          rw [hx] at hy
          exact hxy (Option.some.inj hy)
        rw [hi, hj]
        intro e
        rcases Nat.lt_or_gt_of_ne hij with h | h
        · rw [decide_eq_true (by omega), decide_eq_false (by omega)] at e
          cases e
        · rw [decide_eq_false (by omega), decide_eq_true (by omega)] at e
          cases e
theorem checkW_comm (l : List Nd) (a b : Int) : checkW l [a, b] = checkW l [b, a] := by
  have h1 : outB l.length [a, b] = outB l.length [b, a] := by
    unfold outB
    simp only [List.any_cons, List.any_nil, Bool.or_false]
    exact Bool.or_comm _ _
  have h2 : looseB l [a, b] = looseB l [b, a] := by
    unfold looseB
    simp only [List.any_cons, List.any_nil, Bool.or_false]
    exact Bool.or_comm _ _
  unfold checkW
  rw [h1, h2]
theorem befS_bad {l : List Nd} {a b : Int} (h : checkW l [a, b] ≠ 0) : beforeS l a b = (false, checkW l [a, b]) ∧ beforeS l b a = (false, checkW l [a, b]) := by
  unfold beforeS
  rw [← checkW_comm l a b, if_pos h]
  exact ⟨rfl, if_pos h⟩
theorem befS_good {l : List Nd} {a b : Int} (h : checkW l [a, b] = 0) : ∃ x y, beforeS l a b = (x, 0) ∧ beforeS l b a = (y, 0) ∧ (x != y) = (a != b) := by
  unfold beforeS
  rw [← checkW_comm l a b, if_neg (by rw [h]; simp)]
  refine ⟨_, _, rfl, if_neg (by rw [h]; simp), ?_⟩
  obtain ⟨hc, hin⟩ := checkW_in h
  have T := tree_of hc
  obtain ⟨a, rfl, ha, ha0⟩ := hin a (by simp)
  obtain ⟨b, rfl, hb, hb0⟩ := hin b (by simp)
  obtain ⟨r, h1, h2⟩ := T.path_kids (upN l a + 1) a ha (by omega)
  obtain ⟨s, h3, h4⟩ := T.path_kids (upN l b + 1) b hb (by omega)
  rw [ha0] at h1 h2
  rw [hb0] at h3 h4
  by_cases hab : (a : Int) = b
  · have hab' : a = b := by omega
    subst hab'
    simp
  · have hne : ((a : Int) != b) = true := by simpa using hab
    rw [hne, h1, h3, befF, befF, if_pos rfl, if_pos rfl]
    have := bef_one l r s 0 a b h2 h4 hab
    simpa using this
end Go.Proofs.YtmemadajjmmlpaaDoor
