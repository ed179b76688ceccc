/-
Fold beside All. No program in sight.
-/
import Derived.Test.YtfeighclpaijoaaGreatDoorFoldLaw
import Derived.Test.YtfeighclpaijoaaGreatDoorEdDocs
namespace Go.Proofs.YtfeighclpaijoaaGreatDoor
open Go.RowKit Go.Cl

theorem edAll_run : ∀ (es : List Edt) (l d : List Nd) (k : Nat), runE l es = some d → edAll k l es = (d, 0, 0) := by
  intro es
  induction es with
  | nil => intro l d k h; obtain rfl := Option.some.inj h; rfl
  | cons e r ih =>
    intro l d k h
    rw [runE] at h
    by_cases he : edErr l e = 0
    · rw [if_pos he] at h
      rw [edAll, if_neg (by simpa using he)]
      exact ih _ _ _ h
    · rw [if_neg he] at h; cases h
theorem run_edAll : ∀ (es : List Edt) (l : List Nd) (k : Nat), (edAll k l es).2.2 = 0 → ∃ d, runE l es = some d := by
  intro es
  induction es with
  | nil => intro l k _; exact ⟨l, rfl⟩
  | cons e r ih =>
    intro l k h
    rw [edAll] at h
    by_cases he : edErr l e = 0
    · rw [if_neg (by simpa using he)] at h
      obtain ⟨d, hd⟩ := ih _ _ h
      exact ⟨d, by rw [runE, if_pos he]; exact hd⟩
    · rw [if_pos he] at h
      exact absurd h he
/-- Folding takes edits away. -/
theorem settle_len : ∀ (n : Nat) (st : List Edt), st.length ≤ n → (settle st).length ≤ st.length := by
  intro n
  induction n with
  | zero =>
    intro st hn
    have : st = [] := List.eq_nil_of_length_eq_zero (by omega)
    subst this
    rw [settle]
    all_goals simp
  | succ n ih =>
    intro st hn
    match st, hn with
    | [], _ => rw [settle]; exact Nat.le_refl _; simp
    | [e], _ => rw [settle]; exact Nat.le_refl _; simp
    | b :: a :: r, hn =>
      rw [settle]
      have hl : r.length + 2 ≤ n + 1 := hn
      cases hj : joinD a b with
      | none => exact Nat.le_refl _
      | some js =>
        cases js with
        | nil => exact Nat.le_trans (ih r (by omega)) (by show r.length ≤ r.length + 2; omega)
        | cons x xs => exact Nat.le_trans (ih (x :: r) (by show r.length + 1 ≤ n; omega)) (by show r.length + 1 ≤ r.length + 2; omega)
theorem fold_len : ∀ (es st : List Edt), (es.foldl (fun st e => settle (e :: st)) st).length ≤ st.length + es.length := by
  intro es
  induction es with
  | nil => intro st; exact Nat.le_refl _
  | cons e r ih =>
    intro st
    have h1 := ih (settle (e :: st))
    have h2 := settle_len _ (e :: st) (Nat.le_refl _)
    rw [List.length_cons] at h2 ⊢
    exact Nat.le_trans h1 (by omega)
theorem foldR_len (es : List Edt) : (foldR es).length ≤ es.length := by
  have := fold_len es []
  rw [List.length_nil] at this
  unfold foldR
  omega
/-- What is folded may be done, and comes to the same. -/
theorem fold_all {l : List Nd} {es : List Edt} (h : (alR l es).2.2 = 0) : alR l (foldR es).reverse = ((alR l es).1, 0, 0) := by
  have h0 : alErr l es = 0 := by
    by_cases h0 : alErr l es = 0
    · exact h0
    · unfold alR at h
      rw [if_pos h0] at h
      exact absurd h h0
  have hc : checkD l = 0 := by
    by_cases hc : checkD l = 0
    · exact hc
    · unfold alErr at h0
      rw [if_pos hc] at h0
      exact absurd h0 hc
  have hl : ¬ 40 < es.length := fun hl => by
    unfold alErr at h0
    rw [if_neg (by simpa using hc), if_pos hl] at h0
    cases h0
  have e1 : alR l es = edAll 0 l es := by unfold alR; rw [if_neg (by simpa using h0)]
  rw [e1] at h ⊢
  obtain ⟨d, hd⟩ := run_edAll es l 0 h
  have hr := foldR_run (good_of hc) hd
  have h2 : alErr l (foldR es).reverse = 0 := by
    unfold alErr
    have := foldR_len es
    rw [if_neg (by simpa using hc), if_neg (by rw [List.length_reverse]; omega)]
  unfold alR
  rw [if_neg (by simpa using h2), edAll_run _ _ _ 0 hr, edAll_run _ _ _ 0 hd]
/-- Texts that are set on one node: the last one alone is left. -/
theorem fold_texts {n : Int} : ∀ (es : List Edt), (∀ e ∈ es, e.do_ = 3 ∧ e.at_ = n) → ∀ a : Edt, a.do_ = 3 → a.at_ = n → es.foldl (fun st e => settle (e :: st)) [a] = [(a :: es).getLast (by simp)] := by
  intro es
  induction es with
  | nil => intro _ a _ _; rfl
  | cons e r ih =>
    intro h a ha hn
    have he := h e (by simp)
    have hj : joinD a e = some [e] := by
      unfold joinD
      rw [if_pos ⟨ha, he.1, by rw [hn, he.2]⟩]
    have hs : settle (e :: [a]) = [e] := by
      rw [settle, hj]
      exact settle_id (st := [e]) trivial
    rw [List.foldl_cons, hs, ih (fun x hx => h x (by simp [hx])) e he.1 he.2]
    rfl
end Go.Proofs.YtfeighclpaijoaaGreatDoor
