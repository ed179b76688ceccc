/-
The order of points: a total one.
-/
import Derived.Test.YtcnogokemilhnaaDoorSpanLess
namespace Go.Proofs.YtcnogokemilhnaaDoor
open Go.RowKit Go.Cl

theorem cmpI_anti (a b : Int) : cmpI a b = - cmpI b a := by
  unfold cmpI
  by_cases h1 : a < b
  · rw [if_pos h1, if_neg (by omega), if_pos h1]
  · by_cases h2 : b < a
    · rw [if_neg h1, if_pos h2, if_pos h2]; rfl
    · rw [if_neg h1, if_neg h2, if_neg h2, if_neg h1]; rfl
theorem cmpI_zero {a b : Int} (h : cmpI a b = 0) : a = b := by
  unfold cmpI at h
  by_cases h1 : a < b
  · rw [if_pos h1] at h; cases h
  · by_cases h2 : b < a
    · rw [if_neg h1, if_pos h2] at h; cases h
    · omega
theorem cmpI_self (a : Int) : cmpI a a = 0 := by
  unfold cmpI
  rw [if_neg (by omega), if_neg (by omega)]
theorem cmpI_neg {a b : Int} : cmpI a b < 0 ↔ a < b := by
  unfold cmpI
  by_cases h1 : a < b
  · rw [if_pos h1]; exact ⟨fun _ => h1, fun _ => by decide⟩
  · rw [if_neg h1]
    by_cases h2 : b < a
    · rw [if_pos h2]; exact ⟨fun h => absurd h (by decide), fun h => absurd h h1⟩
    · rw [if_neg h2]; exact ⟨fun h => absurd h (by decide), fun h => absurd h h1⟩
theorem cmpL_anti : ∀ xs ys : List Int, cmpL xs ys = - cmpL ys xs
  | [], [] => rfl
  | [], _ :: _ => rfl
  | _ :: _, [] => rfl
  | a :: r, b :: s => by
    rw [cmpL, cmpL, cmpI_anti a b]
    by_cases h : cmpI b a = 0
    · rw [if_neg (by omega), if_neg (by omega)]
      exact cmpL_anti r s
    · rw [if_pos (by omega), if_pos (by omega)]
theorem cmpL_zero : ∀ {xs ys : List Int}, cmpL xs ys = 0 → xs = ys
  | [], [], _ => rfl
  | [], _ :: _, h => by cases h
  | _ :: _, [], h => by cases h
  | a :: r, b :: s, h => by
    rw [cmpL] at h
    by_cases h1 : cmpI a b = 0
    · rw [if_neg (by omega)] at h
      rw [cmpI_zero h1, cmpL_zero h]
    · rw [if_pos (by omega)] at h
      exact absurd h h1
theorem cmpL_self : ∀ xs : List Int, cmpL xs xs = 0
  | [] => rfl
  | a :: r => by rw [cmpL, cmpI_self, if_neg (by simp)]; exact cmpL_self r
theorem cmpL_trans : ∀ {xs ys zs : List Int}, cmpL xs ys < 0 → cmpL ys zs < 0 → cmpL xs zs < 0
  | [], [], _, h, _ => absurd (show (0 : Int) < 0 from h) (by decide)
  | [], _ :: _, [], _, h => absurd (show (1 : Int) < 0 from h) (by decide)
  | [], _ :: _, _ :: _, _, _ => show (-1 : Int) < 0 by decide
  | _ :: _, [], _, h, _ => absurd (show (1 : Int) < 0 from h) (by decide)
  | _ :: _, _ :: _, [], _, h => absurd (show (1 : Int) < 0 from h) (by decide)
  | a :: r, b :: s, c :: t, h, g => by
    rw [cmpL] at h g ⊢
    by_cases h1 : cmpI a b = 0
    · have e := cmpI_zero h1
      subst e
      rw [if_neg (by omega)] at h
      by_cases g1 : cmpI a c = 0
      · rw [if_neg (by omega)] at g
        rw [if_neg (by omega)]
        exact cmpL_trans h g
      · rw [if_pos g1] at g
        rw [if_pos g1]
        exact g
    · rw [if_pos h1] at h
      have hab := cmpI_neg.1 h
      by_cases g1 : cmpI b c = 0
      · have e := cmpI_zero g1
        subst e
        rw [if_pos h1]
        exact h
      · rw [if_pos g1] at g
        have hbc := cmpI_neg.1 g
        have hac : cmpI a c < 0 := cmpI_neg.2 (by omega)
        rw [if_pos (by omega)]
        exact hac
theorem cmpL_same (s : List Int) (x y : Int) : cmpL (s ++ [x]) (s ++ [y]) = cmpI x y := by
  induction s with
  | nil =>
    show (if cmpI x y ≠ 0 then cmpI x y else cmpL [] []) = cmpI x y
    by_cases h : cmpI x y = 0
    · rw [if_neg (by omega), h]; rfl
    · rw [if_pos h]
  | cons a r ih =>
    rw [List.cons_append, List.cons_append, cmpL, cmpI_self, if_neg (by simp)]
    exact ih
/-- The order of two points is that of their paths. -/
theorem orderR_path (l : List Nd) (a b : Pt) : orderR l a b = cmpL (pathP l a) (pathP l b) := by
  unfold orderR
  by_cases h : a.node = b.node
  · rw [if_pos h]
    unfold pathP
    rw [List.reverse_cons, List.reverse_cons, h, cmpL_same]
    unfold cmpI
    by_cases h1 : a.at_ < b.at_
    · rw [if_pos h1, if_pos (by omega)]
    · have h3 : ¬ (2 * a.at_ < 2 * b.at_) := by omega
      rw [if_neg h1, if_neg h3]
      by_cases h2 : b.at_ < a.at_
      · rw [if_pos h2, if_pos (by omega)]
      · have h4 : ¬ (2 * b.at_ < 2 * a.at_) := by omega
        rw [if_neg h2, if_neg h4]
  · rw [if_neg h]
theorem Tree.steps_inj {l : List Nd} (T : Tree l) (f : Nat) : ∀ m n : Nat, m < l.length → n < l.length → upN l m < f → topR l m = 0 → topR l n = 0 → stepsR l m = stepsR l n → m = n := by
  induction f with
  | zero => intro m n _ _ h; omega
  | succ f ih =>
    intro m n hm hn hf tm tn h
    have up : ∀ k : Nat, k < l.length → 0 < k → topR l k = 0 → ∃ p : Nat, parD l k = (p : Int) ∧ p < l.length ∧ (k : Int) ∈ kidsD l p := by
      intro k hk h0 tk
      rcases T.par hk with e | h
      · have := T.top_loose2 hk e
        omega
      · exact h
    rcases Nat.eq_zero_or_pos m with m0 | m0
    · rcases Nat.eq_zero_or_pos n with n0 | n0
      · omega
      · subst m0
        rw [show ((0 : Nat) : Int) = 0 from rfl, steps_root T, T.steps_up hn n0] at h
        cases h
    · rcases Nat.eq_zero_or_pos n with n0 | n0
      · subst n0
        rw [show ((0 : Nat) : Int) = 0 from rfl, steps_root T, T.steps_up hm m0] at h
        cases h
      · obtain ⟨p, ep, hp, kp⟩ := up m hm m0 tm
        obtain ⟨q, eq, hq, kq⟩ := up n hn n0 tn
        rw [T.steps_up hm m0, T.steps_up hn n0, ep, eq] at h
        have h1 := (List.cons.inj h).1
        have h2 := (List.cons.inj h).2
        have := (T.up_par hm ep).2
        have hpq := ih p q hp hq (by omega) ((T.top_par hm hp ep).symm.trans tm) ((T.top_par hn hq eq).symm.trans tn) h2
        subst hpq
        obtain ⟨i, ei, gi, _⟩ := idx_of_mem kp
        obtain ⟨j, ej, gj, _⟩ := idx_of_mem kq
        have hij : i = j := by omega
        subst hij
        rw [gi] at gj
        have := Option.some.inj gj
        omega
/-- Points that are not apart are one. -/
theorem order_zero {l : List Nd} (T : Tree l) {a b : Pt} (ha : ptE l a = 0) (hb : ptE l b = 0) (h : orderR l a b = 0) : a.node = b.node ∧ a.at_ = b.at_ := by
  rw [orderR_path] at h
  have h := List.reverse_inj.1 (cmpL_zero h)
  have h1 := (List.cons.inj h).1
  have h2 := (List.cons.inj h).2
  obtain ⟨m, em, hm, _, _, tm⟩ := pt_ok ha
  obtain ⟨n, en, hn, _, _, tn⟩ := pt_ok hb
  rw [em, en] at h2
  have := T.steps_inj _ m n hm hn (Nat.lt_succ_self _) tm tn h2
  exact ⟨by rw [em, en, this], by omega⟩
theorem order_self (l : List Nd) (a : Pt) : orderR l a a = 0 := by rw [orderR_path, cmpL_self]
theorem order_anti (l : List Nd) (a b : Pt) : orderR l a b = - orderR l b a := by rw [orderR_path, orderR_path, cmpL_anti]
theorem order_trans {l : List Nd} {a b c : Pt} (h : orderR l a b < 0) (g : orderR l b c < 0) : orderR l a c < 0 := by
  rw [orderR_path] at *
  exact cmpL_trans h g
/-- Of two points at most one is ahead; if none is, they are one. -/
theorem order_total {l : List Nd} (T : Tree l) {a b : Pt} (ha : ptE l a = 0) (hb : ptE l b = 0) :
    (decide (orderR l a b < 0) != decide (orderR l b a < 0)) = !(decide (a.node = b.node) && decide (a.at_ = b.at_)) ∧ (decide (orderR l a b < 0) && decide (orderR l b a < 0)) = false := by
  have hx := order_anti l a b
  by_cases h : orderR l a b = 0
  · obtain ⟨e1, e2⟩ := order_zero T ha hb h
    rw [show decide (orderR l a b < 0) = false from decide_eq_false (by omega), show decide (orderR l b a < 0) = false from decide_eq_false (by omega), decide_eq_true e1, decide_eq_true e2]
    exact ⟨rfl, rfl⟩
  · have hne : (decide (a.node = b.node) && decide (a.at_ = b.at_)) = false := by
      cases hc : (decide (a.node = b.node) && decide (a.at_ = b.at_)) with
      | false => rfl
      | true =>
        exfalso
        simp only [Bool.and_eq_true, decide_eq_true_eq] at hc
        have e : a = b := by
          cases a; cases b
          simp only at hc
          rw [hc.1, hc.2]
        rw [e] at h
        exact h (order_self l b)
    rw [hne]
    by_cases h1 : orderR l a b < 0
    · rw [decide_eq_true h1, show decide (orderR l b a < 0) = false from decide_eq_false (by omega)]
      exact ⟨rfl, rfl⟩
    · rw [decide_eq_false h1, show decide (orderR l b a < 0) = true from decide_eq_true (by omega)]
      exact ⟨rfl, rfl⟩
theorem ptsF_zero {l : List Nd} : ∀ {ps : List Pt}, (∀ p ∈ ps, ptE l p = 0) → ptsF l ps = 0
  | [], _ => rfl
  | x :: r, h => by
    rw [ptsF, if_neg (by rw [h x (by simp)]; simp)]
    exact ptsF_zero fun p hp => h p (by simp [hp])
theorem ptsS_two {l : List Nd} {a b : Pt} : ptsS l [a, b] = 0 ↔ checkD l = 0 ∧ ptE l a = 0 ∧ ptE l b = 0 := by
  constructor
  · intro h
    obtain ⟨hc, hp⟩ := pts_ok h
    exact ⟨hc, hp a (by simp), hp b (by simp)⟩
  · intro ⟨hc, h1, h2⟩
    unfold ptsS
    rw [if_neg (by rw [hc]; simp)]
    exact ptsF_zero fun p hp => by
      rcases List.mem_cons.1 hp with rfl | hp
      · exact h1
      · rcases List.mem_cons.1 hp with rfl | hp
        · exact h2
        · cases hp
theorem less_ok {l : List Nd} {a b : Pt} (h : ptsS l [a, b] = 0) : lessS l a b = (decide (orderR l a b < 0), 0) := if_neg (by rw [h]; simp)
theorem less_bad {l : List Nd} {a b : Pt} (h : ptsS l [a, b] ≠ 0) : lessS l a b = (false, ptsS l [a, b]) := if_pos h
/-- What SpanOrder says of a document, but for what spanBegun says. -/
theorem span_order_law (l : List Nd) (a b c : Pt) :
    (((lessS l a b).2 ≠ 0 ∨ (lessS l b a).2 ≠ 0) ∧ (lessS l a b).1 = false ∧ (lessS l b a).1 = false) ∨
    ((lessS l a b).2 = 0 ∧ (lessS l b a).2 = 0 ∧
      ((lessS l a b).1 != (lessS l b a).1) = !(decide (a.node = b.node) && decide (a.at_ = b.at_)) ∧ ((lessS l a b).1 && (lessS l b a).1) = false ∧
      ((lessS l b c).2 ≠ 0 ∨ ((lessS l b c).2 = 0 ∧ (lessS l a c).2 = 0 ∧ ((lessS l a b).1 = false ∨ (lessS l b c).1 = false ∨ (lessS l a c).1 = true)))) := by
  by_cases h : ptsS l [a, b] = 0
  · obtain ⟨hc, pa, pb⟩ := ptsS_two.1 h
    have h' : ptsS l [b, a] = 0 := ptsS_two.2 ⟨hc, pb, pa⟩
    have T := tree_of hc
    refine Or.inr ?_
    rw [less_ok h, less_ok h']
    refine ⟨rfl, rfl, (order_total T pa pb).1, (order_total T pa pb).2, ?_⟩
    by_cases g : ptsS l [b, c] = 0
    · obtain ⟨_, _, pc⟩ := ptsS_two.1 g
      have g' : ptsS l [a, c] = 0 := ptsS_two.2 ⟨hc, pa, pc⟩
      rw [less_ok g, less_ok g']
      refine Or.inr ⟨rfl, rfl, ?_⟩
      by_cases x : orderR l a b < 0
      · by_cases z : orderR l b c < 0
        · exact Or.inr (Or.inr (decide_eq_true (order_trans x z)))
        · exact Or.inr (Or.inl (decide_eq_false z))
      · exact Or.inl (decide_eq_false x)
    · rw [less_bad g]
      exact Or.inl g
  · have h' : ptsS l [b, a] ≠ 0 := fun e => by
      obtain ⟨hc, pb, pa⟩ := ptsS_two.1 e
      exact h (ptsS_two.2 ⟨hc, pa, pb⟩)
    rw [less_bad h, less_bad h']
    exact Or.inl ⟨Or.inl h, rfl, rfl⟩
end Go.Proofs.YtcnogokemilhnaaDoor
