/-
What an edit does to the index of a document: only the nodes it touches are turned (plain).
-/
import Derived.Test.YtomleengbnfikaaGreatDoorIdxCan
import Derived.Test.YtomleengbnfikaaGreatDoorIdxOf
import Derived.Test.YtomleengbnfikaaGreatDoorSpanPartsLaw
namespace Go.Proofs.YtomleengbnfikaaGreatDoor
open Go.RowKit Go.Cl

/-! ### the order, but for a branch -/
theorem Tree.start {l : List Nd} (T : Tree l) {m : Nat} (hm : m < l.length) : upN l m + (41 - upN l m) = 41 := by have := (T.deep m hm).1; omega
theorem Tree.up_ge {l : List Nd} (T : Tree l) (f : Nat) : ∀ m : Nat, m < l.length → upN l m + f = 41 → ∀ x ∈ preR l m, ∃ n : Nat, x = (n : Int) ∧ n < l.length ∧ upN l m ≤ upN l n := by
  induction f with
  | zero => intro m hm hf; have := (T.deep m hm).1; omega
  | succ f ih =>
    intro m hm hf x hx
    rw [T.pre_step hm] at hx
    rcases List.mem_cons.1 hx with rfl | hx
    · exact ⟨m, rfl, hm, Nat.le_refl _⟩
    · obtain ⟨k, hk, hx⟩ := List.mem_flatMap.1 hx
      obtain ⟨n, rfl, hn, hp⟩ := T.kid hm hk
      have hu := (T.up_par hn hp).2
      obtain ⟨q, e, hq, hle⟩ := ih n hn (by omega) x hx
      exact ⟨q, e, hq, by omega⟩
theorem Tree.pre_once {l : List Nd} (T : Tree l) {m : Nat} (hm : m < l.length) : (preR l m).Nodup :=
  (T.pre_sorted _ m hm (T.start hm)).1.imp fun {a b} h e => by
    subst e
    rw [cmpL_self] at h
    exact absurd h (by decide)
/-- Two documents with the same kids. -/
theorem pre_same {l l' : List Nd} (T : Tree l) (T' : Tree l') (C : Nat → Prop) (hC : ∀ m, C m → m < l.length ∧ m < l'.length ∧ kidsD l' m = kidsD l m ∧ ∀ k : Nat, (k : Int) ∈ kidsD l m → C k) (f : Nat) : ∀ m : Nat, C m → upN l m + f = 41 → preR l' m = preR l m := by
  induction f with
  | zero => intro m hm hf; have := (T.deep m (hC m hm).1).1; omega
  | succ f ih =>
    intro m hm hf
    obtain ⟨h1, h2, h3, h4⟩ := hC m hm
    rw [T.pre_step h1, T'.pre_step h2, h3]
    congr 1
    refine fm_congr fun k hk => ?_
    obtain ⟨n, rfl, hn, hp⟩ := T.kid h1 hk
    exact ih n (h4 n hk) (by have := (T.up_par hn hp).2; omega)
theorem filter_flat {f g : Int → List Int} {p q : Int → Bool} : ∀ (xs : List Int), (∀ x ∈ xs, (f x).filter p = if q x = true then g x else []) → (xs.flatMap f).filter p = (xs.filter q).flatMap g
  | [], _ => rfl
  | x :: r, h => by
    have h1 := h x (List.mem_cons_self ..)
    have h2 := filter_flat r fun y hy => h y (List.mem_cons_of_mem _ hy)
    rw [List.flatMap_cons, List.filter_append, h1, h2]
    by_cases hq : q x = true
    · rw [if_pos hq, List.filter_cons_of_pos hq, List.flatMap_cons]
    · rw [if_neg hq, List.filter_cons_of_neg hq]; rfl
/-- A branch cut off. -/
structure CutD (B S : List Nd) (t p : Nat) : Prop where
  len : S.length = B.length
  lt : t < B.length
  t0 : t ≠ 0
  par : parD B t = (p : Int)
  kids : ∀ z : Nat, z < B.length → z ≠ p → kidsD S z = kidsD B z
  cut : kidsD S p = (kidsD B p).filter fun k => decide (k ≠ (t : Int))
theorem CutD.branch {B S : List Nd} {t p : Nat} (h : CutD B S t p) (TB : Tree B) (TS : Tree S) : preR S t = preR B t := by
  have hu := (TB.up_par h.lt h.par).2
  refine pre_same TB TS (fun m => (m : Int) ∈ preR B t) (fun m hm => ?_) _ t (List.mem_of_getElem? (TB.pre_head h.lt)) (TB.start h.lt)
  obtain ⟨n, e, hn, hle⟩ := TB.up_ge _ t h.lt (TB.start h.lt) _ hm
  obtain rfl : m = n := by omega
  exact ⟨hn, by rw [h.len]; exact hn, h.kids m hn (fun e => by subst e; omega), fun k hk => TB.pre_kids _ t h.lt (TB.start h.lt) _ _ hm hk⟩
theorem CutD.order {B S : List Nd} {t p : Nat} (h : CutD B S t p) (TB : Tree B) (TS : Tree S) (f : Nat) : ∀ m : Nat, m < B.length → upN B m + f = 41 → (m : Int) ∉ preR B t → (preR B m).filter (fun x => decide (x ∉ preR B t)) = preR S m := by
  induction f with
  | zero => intro m hm hf; have := (TB.deep m hm).1; omega
  | succ f ih =>
    intro m hm hf hnd
    rw [TB.pre_step hm, TS.pre_step (by rw [h.len]; exact hm), List.filter_cons_of_pos (by simpa using hnd)]
    congr 1
    have hk : kidsD S m = (kidsD B m).filter fun k => decide (k ≠ (t : Int)) := by
      by_cases e : m = p
      · subst e; exact h.cut
      · rw [h.kids m hm e]
        refine (List.filter_eq_self.2 fun k hk => ?_).symm
        obtain ⟨n, rfl, hn, hp⟩ := TB.kid hm hk
        simp only [ne_eq, decide_eq_true_eq]
        intro e2
        have e3 : n = t := by omega
        subst e3
        have := h.par
        omega
    rw [hk]
    refine filter_flat _ fun k hk => ?_
    obtain ⟨n, rfl, hn, hp⟩ := TB.kid hm hk
    by_cases e : (n : Int) = (t : Int)
    · rw [if_neg (by simpa using e), e]
      exact List.filter_eq_nil_iff.2 fun x hx => by simpa using hx
    · rw [if_pos (by simpa using e)]
      refine ih n hn (by have := (TB.up_par hn hp).2; omega) fun hm2 => ?_
      obtain ⟨i, hi⟩ := List.mem_iff_getElem?.1 hm2
      rcases Nat.eq_zero_or_pos i with h0 | h0
      · subst h0
        rw [TB.pre_head h.lt] at hi
        exact e (Option.some.inj hi).symm
      · obtain ⟨j, _, hj⟩ := TB.pre_parent _ t h.lt (TB.start h.lt) i _ h0 hi
        rw [hp] at hj
        exact hnd (List.mem_of_getElem? hj)
theorem CutD.all {B S : List Nd} {t p : Nat} (h : CutD B S t p) (TB : Tree B) (TS : Tree S) : (preR B 0).filter (fun x => decide (x ∉ preR B t)) = preR S 0 := by
  refine h.order TB TS _ 0 TB.pos (TB.start TB.pos) fun hm => ?_
  obtain ⟨i, hi⟩ := List.mem_iff_getElem?.1 hm
  rcases Nat.eq_zero_or_pos i with h0 | h0
  · subst h0
    rw [TB.pre_head h.lt] at hi
    have := Option.some.inj hi
    have := h.t0
    omega
  · obtain ⟨j, _, hj⟩ := TB.pre_parent _ t h.lt (TB.start h.lt) i _ h0 hi
    have hr := TB.root
    rw [show ((0 : Nat) : Int) = 0 from rfl, hr] at hj
    obtain ⟨n, e, _⟩ := TB.up_ge _ t h.lt (TB.start h.lt) _ (List.mem_of_getElem? hj)
    omega

/-! ### what an edit keeps -/
def touP (l : List Nd) (e : Edt) : List Int := if e.do_ = 1 ∨ e.do_ = 2 then [e.at_] else if e.do_ = 5 then preR l e.to_ else if e.do_ = 6 then preR l e.at_ else []
structure KeptE (l l' : List Nd) (T : List Int) : Prop where
  ord : (preR l' 0).filter (fun x => decide (x ∉ T)) = (preR l 0).filter fun x => decide (x ∉ T)
  words : ∀ n ∈ preR l 0, n ∉ T → wordsP (ndG l' n) = wordsP (ndG l n)
  once : T.Nodup
  inn : ∀ n ∈ T, ∃ m : Nat, n = (m : Int) ∧ m < l.length ∧ m < l'.length
theorem words_eq {x y : Nd} (h1 : x.kind = y.kind) (h2 : x.name = y.name) (h3 : x.attrs = y.attrs) : wordsP x = wordsP y := by
  unfold wordsP
  rw [h1, h2, h3]
theorem ndG_at {l : List Nd} {m : Nat} {x : Nd} (h : l[m]? = some x) : ndG l (m : Int) = x := by unfold ndG; rw [Int.toNat_natCast, h]; rfl
theorem Tree.pre_in {l : List Nd} (T : Tree l) {m : Nat} (hm : m < l.length) : ∀ x ∈ preR l m, ∃ n : Nat, x = (n : Int) ∧ n < l.length := fun x hx => by
  obtain ⟨n, e, hn, _⟩ := T.up_ge _ m hm (T.start hm) x hx
  exact ⟨n, e, hn⟩
theorem pre_kids_same {l l' : List Nd} (T : Tree l) (T' : Tree l') (hle : l.length ≤ l'.length) (h : ∀ m : Nat, m < l.length → kidsD l' m = kidsD l m) : preR l' 0 = preR l 0 :=
  pre_same T T' (fun m => m < l.length) (fun m hm => ⟨hm, Nat.lt_of_lt_of_le hm hle, h m hm, fun k hk => by
    obtain ⟨n, e, hn, _⟩ := T.kid hm hk
    obtain rfl : k = n := by omega
    exact hn⟩) _ 0 T.pos (T.start T.pos)
theorem kept_set {l : List Nd} (T : Tree l) {m : Nat} {x y : Nd} (hx : l[m]? = some x) (T' : Tree (l.set m y)) (hk : y.kids = x.kids) (Z : List Int) (hZ : (Z = [] ∧ wordsP y = wordsP x) ∨ Z = [(m : Int)]) : KeptE l (l.set m y) Z := by
  have hm := (List.getElem?_eq_some_iff.1 hx).1
  have hp : preR (l.set m y) 0 = preR l 0 := pre_kids_same T T' (by simp) fun k hkl => by
    by_cases e : k = m
    · subst e
      rw [kidsD_at hx, kidsD_at (x := y) (by rw [List.getElem?_set_self hm]), hk]
    · obtain ⟨z, hz⟩ := get_some hkl
      rw [kidsD_at hz, kidsD_at ((List.getElem?_set_ne (Ne.symm e)).trans hz)]
  refine ⟨by rw [hp], fun n hn hnT => ?_, ?_, fun n hn => ?_⟩
  · obtain ⟨k, rfl, hkl⟩ := T.pre_in T.pos n hn
    obtain ⟨z, hz⟩ := get_some hkl
    by_cases e : k = m
    · subst e
      rcases hZ with ⟨_, hw⟩ | rfl
      · rw [ndG_at hx, ndG_at (x := y) (by rw [List.getElem?_set_self hm]), hw]
      · exact absurd (List.mem_singleton.2 rfl) hnT
    · rw [ndG_at hz, ndG_at ((List.getElem?_set_ne (Ne.symm e)).trans hz)]
  · rcases hZ with ⟨rfl, _⟩ | rfl
    · exact List.nodup_nil
    · simp
  · rcases hZ with ⟨rfl, _⟩ | rfl
    · cases hn
    · obtain rfl : n = (m : Int) := by simpa using hn
      exact ⟨m, rfl, hm, by simpa using hm⟩
theorem kept_make {l : List Nd} (T : Tree l) (x : Nd) (T' : Tree (l ++ [x])) : KeptE l (l ++ [x]) [] := by
  have hg : ∀ k : Nat, k < l.length → (l ++ [x])[k]? = l[k]? := fun k h => List.getElem?_append_left h
  have hp : preR (l ++ [x]) 0 = preR l 0 := pre_kids_same T T' (by simp) fun k hkl => by
    obtain ⟨z, hz⟩ := get_some hkl
    rw [kidsD_at hz, kidsD_at ((hg k hkl).trans hz)]
  refine ⟨by rw [hp], fun n hn _ => ?_, List.nodup_nil, fun n hn => by cases hn⟩
  obtain ⟨k, rfl, hkl⟩ := T.pre_in T.pos n hn
  obtain ⟨z, hz⟩ := get_some hkl
  rw [ndG_at hz, ndG_at ((hg k hkl).trans hz)]
theorem filter_twice {p : Int → Bool} (l : List Int) : (l.filter p).filter p = l.filter p := by rw [List.filter_filter]; simp
theorem kept_ins {l : List Nd} (G : Good l) {n to_ before : Int} (he : insErr l n to_ before = 0) : KeptE l (insDo l n to_ before) (preR l to_) := by
  have G' := good_ins G he
  have T := tree_of (check_of G)
  have T' := tree_of (check_of G')
  obtain ⟨m, t, x, y, rfl, rfl, hi⟩ := insErr_iff he
  rw [hi.do_] at G' T' ⊢
  have hne := hi.ne
  have hm := (List.getElem?_eq_some_iff.1 hi.hx).1
  have ht := (List.getElem?_eq_some_iff.1 hi.hy).1
  have ht0 : t ≠ 0 := fun e => hi.kind ((G.root t y hi.hy).2 e)
  have hg := fun j => get2 (l := l) (x := { x with kids := x.kids.take (insAt x.kids before).toNat ++ (t : Int) :: x.kids.drop (insAt x.kids before).toNat }) (y := { y with parent := (m : Int) }) hm ht j
  generalize hl' : (l.set m { x with kids := x.kids.take (insAt x.kids before).toNat ++ (t : Int) :: x.kids.drop (insAt x.kids before).toNat }).set t { y with parent := (m : Int) } = l' at *
  have hlen : l'.length = l.length := by rw [← hl']; simp
  have gm := hg m
  rw [if_neg hne, if_pos rfl] at gm
  have gt := hg t
  rw [if_pos rfl] at gt
  have other : ∀ k : Nat, k ≠ m → k ≠ t → l'[k]? = l[k]? := fun k h1 h2 => by rw [hg, if_neg h2, if_neg h1]
  have hnt : (t : Int) ∉ x.kids := fun hmem => by
    obtain ⟨j, z, e, hz, hp, _⟩ := (G.kr.kids m x hi.hx).2 _ hmem
    have : t = j := by omega
    subst this
    rw [hi.hy] at hz
    obtain rfl := Option.some.inj hz
    have := hi.loose
    omega
  have hc : CutD l' l t m := by
    refine ⟨hlen.symm, by omega, ht0, by rw [parD_at gt], fun z hz hzm => ?_, ?_⟩
    · by_cases e : z = t
      · subst e
        rw [kidsD_at gt, kidsD_at hi.hy]
      · obtain ⟨q, hq⟩ := get_some (l := l) (k := z) (by omega)
        rw [kidsD_at hq, kidsD_at ((other z hzm e).trans hq)]
    · rw [kidsD_at hi.hx, kidsD_at gm]
      show _ = List.filter _ (x.kids.take _ ++ (t : Int) :: x.kids.drop _)
      rw [List.filter_append, List.filter_cons_of_neg (by simp), ← List.filter_append, List.take_append_drop]
      exact (List.filter_eq_self.2 fun k hk => by
        simp only [ne_eq, decide_eq_true_eq]
        intro e
        exact hnt (e ▸ hk)).symm
  have hb := hc.branch T' T
  have ha := hc.all T' T
  rw [← hb] at ha
  refine ⟨by rw [← ha, filter_twice], fun n hn _ => ?_, T.pre_once ht, fun n hn => ?_⟩
  · obtain ⟨k, rfl, hkl⟩ := T.pre_in T.pos n hn
    by_cases e : k = m
    · subst e
      rw [ndG_at hi.hx, ndG_at gm]
      exact words_eq rfl rfl rfl
    · by_cases e2 : k = t
      · subst e2
        rw [ndG_at hi.hy, ndG_at gt]
        exact words_eq rfl rfl rfl
      · obtain ⟨z, hz⟩ := get_some hkl
        rw [ndG_at hz, ndG_at ((other k e e2).trans hz)]
  · obtain ⟨k, e, hk⟩ := T.pre_in ht n hn
    exact ⟨k, e, hk, by omega⟩
theorem kept_rem {l : List Nd} (G : Good l) {n : Int} (he : remErr l n = 0) : KeptE l (remDo l n) (preR l n) := by
  have G' := good_rem G he
  have T := tree_of (check_of G)
  have T' := tree_of (check_of G')
  obtain ⟨m, p, i, x, y, rfl, hr⟩ := remErr_iff G he
  rw [hr.do_] at G' T' ⊢
  have hne := hr.ne
  have hm := (List.getElem?_eq_some_iff.1 hr.hx).1
  have hp := (List.getElem?_eq_some_iff.1 hr.hy).1
  have hm0 : m ≠ 0 := fun e => hr.kind ((G.root m x hr.hx).2 e)
  have hg := fun j => get2 (l := l) (x := { y with kids := y.kids.eraseIdx i }) (y := { x with parent := -1 }) hp hm j
  generalize hl' : (l.set p { y with kids := y.kids.eraseIdx i }).set m { x with parent := -1 } = l' at *
  have hlen : l'.length = l.length := by rw [← hl']; simp
  have gm := hg m
  rw [if_pos rfl] at gm
  have gp := hg p
  rw [if_neg hne, if_pos rfl] at gp
  have other : ∀ k : Nat, k ≠ m → k ≠ p → l'[k]? = l[k]? := fun k h1 h2 => by rw [hg, if_neg h1, if_neg h2]
  have hc : CutD l l' m p := by
    refine ⟨hlen, hm, hm0, by rw [parD_at hr.hx]; exact hr.par, fun z hz hzp => ?_, ?_⟩
    · by_cases e : z = m
      · subst e
        rw [kidsD_at gm, kidsD_at hr.hx]
      · obtain ⟨q, hq⟩ := get_some hz
        rw [kidsD_at hq, kidsD_at ((other z e hzp).trans hq)]
    · rw [kidsD_at hr.hy, kidsD_at gp]
      have hnd := (G.kr.kids p y hr.hy).1
      have hil := (List.getElem?_eq_some_iff.1 hr.at_).1
      show y.kids.eraseIdx i = _
      have hsplit : y.kids = y.kids.take i ++ (m : Int) :: y.kids.drop (i + 1) := by
        conv => lhs; rw [← List.take_append_drop i y.kids, List.drop_eq_getElem_cons hil, (List.getElem?_eq_some_iff.1 hr.at_).2]
      rw [List.eraseIdx_eq_take_drop_succ]
      conv => rhs; rw [hsplit]
      rw [hsplit] at hnd
      have h1 := List.nodup_append.1 hnd
      have h2 := List.nodup_cons.1 h1.2.1
      rw [List.filter_append, List.filter_cons_of_neg (by simp)]
      congr 1
      · exact (List.filter_eq_self.2 fun k hk => by
          simp only [ne_eq, decide_eq_true_eq]
          exact h1.2.2 k hk _ (List.mem_cons_self ..)).symm
      · exact (List.filter_eq_self.2 fun k hk => by
          simp only [ne_eq, decide_eq_true_eq]
          intro e
          exact h2.1 (e ▸ hk)).symm
  have ha := hc.all T T'
  refine ⟨by rw [← ha, filter_twice], fun n hn _ => ?_, T.pre_once hm, fun n hn => ?_⟩
  · obtain ⟨k, rfl, hkl⟩ := T.pre_in T.pos n hn
    by_cases e : k = m
    · subst e
      rw [ndG_at hr.hx, ndG_at gm]
      exact words_eq rfl rfl rfl
    · by_cases e2 : k = p
      · subst e2
        rw [ndG_at hr.hy, ndG_at gp]
        exact words_eq rfl rfl rfl
      · obtain ⟨z, hz⟩ := get_some hkl
        rw [ndG_at hz, ndG_at ((other k e e2).trans hz)]
  · obtain ⟨k, e, hk⟩ := T.pre_in hm n hn
    exact ⟨k, e, hk, by omega⟩
theorem ed_kept {l : List Nd} (G : Good l) {e : Edt} (he : edErr l e = 0) : KeptE l (edDo l e) (touP l e) := by
  have T := tree_of (check_of G)
  have T' := tree_of (check_of (good_ed G he))
  have hd := edErr_do he
  unfold touP
  unfold edDo at T' ⊢
  unfold edErr at he
  rcases hd with hd | hd | hd | hd | hd | hd
  · rw [if_pos hd] at he T' ⊢
    rw [if_pos (.inl hd)]
    unfold attrErr at he
    unfold attrDo at T' ⊢
    cases hx : nodeAt l e.at_ with
    | none => rw [hx] at he; simp at he
    | some x =>
      obtain ⟨m, em, hm⟩ := nodeAt_some hx
      rw [em] at T' ⊢
      rw [setAt_nat hm] at T' ⊢
      exact kept_set T hm T' rfl _ (.inr rfl)
  · rw [if_neg (by omega), if_pos hd] at he T' ⊢
    rw [if_pos (.inr hd)]
    unfold dropErr at he
    unfold dropDo at T' ⊢
    cases hx : nodeAt l e.at_ with
    | none => rw [hx] at he; simp at he
    | some x =>
      obtain ⟨m, em, hm⟩ := nodeAt_some hx
      rw [em] at T' ⊢
      rw [setAt_nat hm] at T' ⊢
      exact kept_set T hm T' rfl _ (.inr rfl)
  · rw [if_neg (by omega), if_neg (by omega), if_pos hd] at he T' ⊢
    rw [if_neg (by omega), if_neg (by omega), if_neg (by omega)]
    unfold textErr at he
    unfold textDo at T' ⊢
    cases hx : nodeAt l e.at_ with
    | none => rw [hx] at he; simp at he
    | some x =>
      obtain ⟨m, em, hm⟩ := nodeAt_some hx
      rw [em] at T' ⊢
      rw [setAt_nat hm] at T' ⊢
      exact kept_set T hm T' rfl _ (.inl ⟨rfl, words_eq rfl rfl rfl⟩)
  · rw [if_neg (by omega), if_neg (by omega), if_neg (by omega), if_pos hd] at he T' ⊢
    rw [if_neg (by omega), if_neg (by omega), if_neg (by omega)]
    exact kept_make T _ T'
  · rw [if_neg (by omega), if_neg (by omega), if_neg (by omega), if_neg (by omega), if_pos hd] at he T' ⊢
    rw [if_neg (by omega), if_pos hd]
    exact kept_ins G he
  · rw [if_neg (by omega), if_neg (by omega), if_neg (by omega), if_neg (by omega), if_neg (by omega), if_pos hd] at he T' ⊢
    rw [if_neg (by omega), if_neg (by omega), if_pos hd]
    exact kept_rem G he

/-! ### ranks -/
theorem rk_at {xs : List Int} (hn : xs.Nodup) {i : Nat} {x : Int} (hi : xs[i]? = some x) : ∀ k, i < k → k ≤ xs.length → rkF xs k x = (i : Int) := by
  intro k
  induction k with
  | zero => intro h; omega
  | succ k ih =>
    intro h hk
    rw [rkF]
    by_cases e : i = k
    · subst e; rw [if_pos hi]
    · rw [if_neg (fun h2 => ?_), ih (by omega) (by omega)]
      have h3 := (List.getElem?_eq_some_iff.1 hi)
      have h4 := (List.getElem?_eq_some_iff.1 h2)
      exact List.pairwise_iff_getElem.1 hn i k h3.1 h4.1 (by omega) (h3.2.trans h4.2.symm)
abbrev rkA (xs : List Int) : Int → Int := rkF xs xs.length
theorem rk_inj {xs : List Int} (hn : xs.Nodup) {a b : Int} (ha : a ∈ xs) (hb : b ∈ xs) (h : rkA xs a = rkA xs b) : a = b := by
  obtain ⟨i, hi⟩ := List.mem_iff_getElem?.1 ha
  obtain ⟨j, hj⟩ := List.mem_iff_getElem?.1 hb
  have hil := (List.getElem?_eq_some_iff.1 hi).1
  have hjl := (List.getElem?_eq_some_iff.1 hj).1
  unfold rkA at h
  rw [rk_at hn hi _ hil (Nat.le_refl _), rk_at hn hj _ hjl (Nat.le_refl _)] at h
  have : i = j := by omega
  subst this
  rw [hi] at hj
  exact Option.some.inj hj
theorem rk_up {xs : List Int} (hn : xs.Nodup) : xs.Pairwise fun a b => rkA xs a < rkA xs b :=
  List.pairwise_iff_getElem.2 fun i j hi hj hij => by
    show rkF xs xs.length xs[i] < rkF xs xs.length xs[j]
    rw [rk_at hn (List.getElem?_eq_getElem hi) _ hi (Nat.le_refl _), rk_at hn (List.getElem?_eq_getElem hj) _ hj (Nat.le_refl _)]
    omega
theorem rk_keep {xs ys : List Int} {p : Int → Bool} (hx : xs.Nodup) (hy : ys.Nodup) (h : ys.filter p = xs.filter p) {a b : Int} (ha : a ∈ xs) (hb : b ∈ xs) (pa : p a = true) (pb : p b = true) (hab : rkA xs a < rkA xs b) : rkA ys a < rkA ys b := by
  have h1 := (rk_up hx).filter p
  have h2 := (rk_up hy).filter p
  rw [h] at h2
  obtain ⟨i, hi⟩ := List.mem_iff_getElem?.1 (List.mem_filter.2 ⟨ha, pa⟩)
  obtain ⟨j, hj⟩ := List.mem_iff_getElem?.1 (List.mem_filter.2 ⟨hb, pb⟩)
  have hil := List.getElem?_eq_some_iff.1 hi
  have hjl := List.getElem?_eq_some_iff.1 hj
  rcases Nat.lt_trichotomy i j with e | e | e
  · have := List.pairwise_iff_getElem.1 h2 i j hil.1 hjl.1 e
    rw [hil.2, hjl.2] at this
    exact this
  · subst e
    rw [hi] at hj
    obtain rfl := Option.some.inj hj
    omega
  · have := List.pairwise_iff_getElem.1 h1 j i hjl.1 hil.1 e
    rw [hil.2, hjl.2] at this
    omega

/-! ### words -/
def wN (l : List Nd) (i : Nat) (n : Int) : List ByteArray := (wordsP (ndG l n))[i]?.getD []
theorem ded_once : ∀ (r acc : List ByteArray), acc.Nodup → (dedL acc r).Nodup
  | [], acc, h => h
  | x :: r, acc, h => by
    rw [dedL]
    by_cases hc : Lib.containsS acc x = true
    · rw [if_pos hc]; exact ded_once r acc h
    · rw [if_neg hc]
      refine ded_once r _ (List.nodup_append.2 ⟨h, by simp, fun a ha b hb => ?_⟩)
      obtain rfl : b = x := by simpa using hb
      rintro rfl
      exact hc ((Lib.containsS_iff _ _).2 ha)
theorem one_once (s : ByteArray) : (oneW s).Nodup := by unfold oneW; split <;> simp
theorem words_once (x : Nd) (i : Nat) : ((wordsP x)[i]?.getD []).Nodup := by
  unfold wordsP
  split
  · rcases i with _ | _ | _ | _ | i
    · exact one_once _
    · exact ded_once _ _ List.nodup_nil
    · show [x.name].Nodup; simp
    · exact one_once _
    · exact List.nodup_nil
  · rcases i with _ | _ | _ | _ | i <;> exact List.nodup_nil
theorem Can.words {rk : Int → Int} {n : Int} : ∀ {ws : List ByteArray} {Q : ByteArray → Int → Prop} {l : List Ref}, Can rk Q l → ws.Nodup → (∀ w m, w ∈ ws → Q w m → rk m ≠ rk n) → Can rk (fun w' n' => Q w' n' ∨ (n' = n ∧ w' ∈ ws)) (stepW rk n l ws)
  | [], Q, l, h, _, _ => h.congr fun w' n' => by simp
  | x :: r, Q, l, h, hn, hq => by
    obtain ⟨h1, h2⟩ := List.nodup_cons.1 hn
    have h3 := Can.words (ws := r) (h.put (w := x) (n := n) fun m hm => hq x m (List.mem_cons_self ..) hm) h2 fun w m hw hm => by
      rcases hm with hm | ⟨rfl, _⟩
      · exact hq w m (List.mem_cons_of_mem _ hw) hm
      · exact absurd hw h1
    refine Can.congr (show Can rk _ (stepW rk n (putR rk l x n) r) from h3) fun w' n' => ?_
    rw [List.mem_cons]
    constructor
    · rintro ((h | ⟨rfl, rfl⟩) | ⟨rfl, h⟩)
      · exact .inl h
      · exact .inr ⟨rfl, .inl rfl⟩
      · exact .inr ⟨rfl, .inr h⟩
    · rintro (h | ⟨rfl, rfl | h⟩)
      · exact .inl (.inl h)
      · exact .inl (.inr ⟨rfl, rfl⟩)
      · exact .inr ⟨rfl, h⟩
/-- A node away from some words. -/
def dropW (n : Int) (l : List Ref) (ws : List ByteArray) : List Ref := ws.foldl (fun a x => dropR a x n) l
def dropL (L : Nat → List Ref) (ws : List (List ByteArray)) (n : Int) : Nat → List Ref := fun i => dropW n (L i) (ws[i]?.getD [])
theorem Can.drops {rk : Int → Int} {n : Int} : ∀ {ws : List ByteArray} {Q : ByteArray → Int → Prop} {l : List Ref}, Can rk Q l → Can rk (fun w' n' => Q w' n' ∧ ¬ (n' = n ∧ w' ∈ ws)) (dropW n l ws)
  | [], Q, l, h => h.congr fun w' n' => by simp
  | x :: r, Q, l, h => by
    refine Can.congr (show Can rk _ (dropW n (dropR l x n) r) from Can.drops (ws := r) (h.drop x n)) fun w' n' => ?_
    rw [List.mem_cons]
    constructor
    · rintro ⟨⟨h1, h2⟩, h3⟩
      refine ⟨h1, ?_⟩
      rintro ⟨rfl, rfl | h⟩
      · exact h2 ⟨rfl, rfl⟩
      · exact h3 ⟨rfl, h⟩
    · rintro ⟨h1, h2⟩
      exact ⟨⟨h1, fun ⟨a, b⟩ => h2 ⟨b, .inl a⟩⟩, fun ⟨a, b⟩ => h2 ⟨a, .inr b⟩⟩
theorem an_can {l : List Nd} {xs : List Int} (hn : xs.Nodup) (i : Nat) : ∀ k, k ≤ xs.length → Can (rkA xs) (fun w n => n ∈ xs.take k ∧ w ∈ wN l i n) (anTo (rkA xs) l xs k i) := by
  intro k
  induction k with
  | zero => intro _; exact (Can.nil _).congr fun w n => by simp
  | succ k ih =>
    intro hk
    obtain ⟨x, hx⟩ : ∃ x, xs[k]? = some x := get_some (by omega)
    rw [an_next hx]
    unfold turnL
    refine ((ih (by omega)).words (words_once _ i) fun w m _ hm e => ?_).congr fun w n => ?_
    · have hxm := List.mem_of_getElem? hx
      have := rk_inj hn (List.mem_of_mem_take hm.1) hxm e
      subst this
      obtain ⟨j, hj⟩ := List.mem_iff_getElem?.1 hm.1
      have hjl := (List.getElem?_eq_some_iff.1 hj).1
      rw [List.length_take] at hjl
      rw [List.getElem?_take_of_lt (by omega)] at hj
      have h3 := (List.getElem?_eq_some_iff.1 hj)
      have h4 := (List.getElem?_eq_some_iff.1 hx)
      exact List.pairwise_iff_getElem.1 hn j k h3.1 h4.1 (by omega) (h3.2.trans h4.2.symm)
    · rw [take_snoc hx, List.mem_append, List.mem_singleton]
      constructor
      · rintro (⟨h1, h2⟩ | ⟨rfl, h⟩)
        · exact ⟨.inl h1, h2⟩
        · exact ⟨.inr rfl, h⟩
      · rintro ⟨h1 | rfl, h2⟩
        · exact .inl ⟨h1, h2⟩
        · exact .inr ⟨rfl, h2⟩

/-! ### what After does -/
def dnTo (l : List Nd) (T : List Int) (L : Nat → List Ref) : Nat → Nat → List Ref
  | 0 => L
  | k + 1 => match T[k]? with
    | some n => dropL (dnTo l T L k) (wordsP (ndG l n)) n
    | none => dnTo l T L k
def upTo (rk : Int → Int) (l : List Nd) (T xs : List Int) (L : Nat → List Ref) : Nat → Nat → List Ref
  | 0 => L
  | k + 1 => match T[k]? with
    | some n => if n ∈ xs then turnL rk (upTo rk l T xs L k) (wordsP (ndG l n)) n else upTo rk l T xs L k
    | none => upTo rk l T xs L k
theorem dn_next {l : List Nd} {T : List Int} {L : Nat → List Ref} {k : Nat} {n : Int} (h : T[k]? = some n) : dnTo l T L (k + 1) = dropL (dnTo l T L k) (wordsP (ndG l n)) n := by rw [dnTo, h]
theorem up_next {rk : Int → Int} {l : List Nd} {T xs : List Int} {L : Nat → List Ref} {k : Nat} {n : Int} (h : T[k]? = some n) : upTo rk l T xs L (k + 1) = if n ∈ xs then turnL rk (upTo rk l T xs L k) (wordsP (ndG l n)) n else upTo rk l T xs L k := by rw [upTo, h]
theorem dn_can {l : List Nd} {T : List Int} {L : Nat → List Ref} {rk : Int → Int} {i : Nat} {Q : ByteArray → Int → Prop} (h : Can rk Q (L i)) : ∀ k, k ≤ T.length → Can rk (fun w n => Q w n ∧ ¬ (n ∈ T.take k ∧ w ∈ wN l i n)) (dnTo l T L k i) := by
  intro k
  induction k with
  | zero => intro _; exact h.congr fun w n => by simp
  | succ k ih =>
    intro hk
    obtain ⟨x, hx⟩ : ∃ x, T[k]? = some x := get_some (by omega)
    rw [dn_next hx]
    refine Can.congr (show Can rk _ (dropW x (dnTo l T L k i) (wN l i x)) from (ih (by omega)).drops) fun w n => ?_
    rw [take_snoc hx, List.mem_append, List.mem_singleton]
    constructor
    · rintro ⟨⟨h1, h2⟩, h3⟩
      refine ⟨h1, ?_⟩
      rintro ⟨h4 | rfl, h5⟩
      · exact h2 ⟨h4, h5⟩
      · exact h3 ⟨rfl, h5⟩
    · rintro ⟨h1, h2⟩
      refine ⟨⟨h1, fun ⟨a, b⟩ => h2 ⟨.inl a, b⟩⟩, ?_⟩
      rintro ⟨rfl, b⟩
      exact h2 ⟨.inr rfl, b⟩
theorem up_can {l : List Nd} {T xs : List Int} {L : Nat → List Ref} {i : Nat} {Q : ByteArray → Int → Prop} (hT : T.Nodup) (hx : xs.Nodup) (h : Can (rkA xs) Q (L i)) (hQ : ∀ w n, Q w n → n ∈ xs ∧ n ∉ T) : ∀ k, k ≤ T.length → Can (rkA xs) (fun w n => Q w n ∨ (n ∈ T.take k ∧ n ∈ xs ∧ w ∈ wN l i n)) (upTo (rkA xs) l T xs L k i) := by
  intro k
  induction k with
  | zero => intro _; exact h.congr fun w n => by simp
  | succ k ih =>
    intro hk
    obtain ⟨x, hxk⟩ : ∃ x, T[k]? = some x := get_some (by omega)
    rw [up_next hxk]
    have hnt : x ∉ T.take k := fun hm => by
      obtain ⟨j, hj⟩ := List.mem_iff_getElem?.1 hm
      have hjl := (List.getElem?_eq_some_iff.1 hj).1
      rw [List.length_take] at hjl
      rw [List.getElem?_take_of_lt (by omega)] at hj
      have h3 := (List.getElem?_eq_some_iff.1 hj)
      have h4 := (List.getElem?_eq_some_iff.1 hxk)
      exact List.pairwise_iff_getElem.1 hT j k h3.1 h4.1 (by omega) (h3.2.trans h4.2.symm)
    by_cases hin : x ∈ xs
    · rw [if_pos hin]
      refine Can.congr (show Can (rkA xs) _ (stepW (rkA xs) x (upTo (rkA xs) l T xs L k i) (wN l i x)) from (ih (by omega)).words (words_once _ i) fun w m _ hm e => ?_) fun w n => ?_
      · rcases hm with hm | ⟨h1, h2, _⟩
        · have := rk_inj hx (hQ w m hm).1 hin e
          subst this
          exact (hQ w _ hm).2 (List.mem_of_getElem? hxk)
        · have := rk_inj hx h2 hin e
          subst this
          exact hnt h1
      · rw [take_snoc hxk, List.mem_append, List.mem_singleton]
        constructor
        · rintro ((h | ⟨h1, h2, h3⟩) | ⟨rfl, h3⟩)
          · exact .inl h
          · exact .inr ⟨.inl h1, h2, h3⟩
          · exact .inr ⟨.inr rfl, hin, h3⟩
        · rintro (h | ⟨h1 | rfl, h2, h3⟩)
          · exact .inl (.inl h)
          · exact .inl (.inr ⟨h1, h2, h3⟩)
          · exact .inr ⟨rfl, h3⟩
    · rw [if_neg hin]
      refine (ih (by omega)).congr fun w n => ?_
      rw [take_snoc hxk, List.mem_append, List.mem_singleton]
      constructor
      · rintro (h | ⟨h1, h2, h3⟩)
        · exact .inl h
        · exact .inr ⟨.inl h1, h2, h3⟩
      · rintro (h | ⟨h1 | rfl, h2, h3⟩)
        · exact .inl h
        · exact .inr ⟨h1, h2, h3⟩
        · exact absurd h2 hin
/-- The lists behind a document. -/
def anD (l : List Nd) : Nat → List Ref := anTo (rkA (preR l 0)) l (preR l 0) (preR l 0).length
theorem kept_law {l : List Nd} (G : Good l) {e : Edt} (he : edErr l e = 0) (i : Nat) :
    upTo (rkA (preR (edDo l e) 0)) (edDo l e) (touP l e) (preR (edDo l e) 0) (dnTo l (touP l e) (anD l) (touP l e).length) (touP l e).length i = anD (edDo l e) i := by
  have T := tree_of (check_of G)
  have T' := tree_of (check_of (good_ed G he))
  have K := ed_kept G he
  have hx := T.pre_once T.pos
  have hy := T'.pre_once T'.pos
  rw [show ((0 : Nat) : Int) = 0 from rfl] at hx hy
  generalize edDo l e = l' at *
  generalize touP l e = Z at *
  have hmem : ∀ n, n ∉ Z → (n ∈ preR l 0 ↔ n ∈ preR l' 0) := fun n hn => by
    have h1 : n ∈ (preR l 0).filter (fun x => decide (x ∉ Z)) ↔ n ∈ preR l 0 := by rw [List.mem_filter]; simp [hn]
    have h2 : n ∈ (preR l' 0).filter (fun x => decide (x ∉ Z)) ↔ n ∈ preR l' 0 := by rw [List.mem_filter]; simp [hn]
    rw [← h1, ← h2, K.ord]
  have c0 : Can (rkA (preR l 0)) (fun w n => n ∈ preR l 0 ∧ w ∈ wN l i n) (anD l i) := (an_can hx i _ (Nat.le_refl _)).congr fun w n => by rw [List.take_length]
  have c1 : Can (rkA (preR l 0)) (fun w n => n ∈ preR l 0 ∧ n ∉ Z ∧ w ∈ wN l i n) (dnTo l Z (anD l) Z.length i) := (dn_can (T := Z) (l := l) (L := anD l) c0 _ (Nat.le_refl _)).congr fun w n => by
    rw [List.take_length]
    exact ⟨fun ⟨⟨h1, h2⟩, h3⟩ => ⟨h1, fun h => h3 ⟨h, h2⟩, h2⟩, fun ⟨h1, h2, h3⟩ => ⟨⟨h1, h3⟩, fun h => h2 h.1⟩⟩
  have c2 : Can (rkA (preR l' 0)) (fun w n => n ∈ preR l 0 ∧ n ∉ Z ∧ w ∈ wN l i n) (dnTo l Z (anD l) Z.length i) := c1.turn fun w w' a b h1 h2 h3 => rk_keep (p := fun x => decide (x ∉ Z)) hx hy K.ord h1.1 h2.1 (by simpa using h1.2.1) (by simpa using h2.2.1) h3
  have c3 := up_can (l := l') (L := dnTo l Z (anD l) Z.length) K.once hy c2 (fun w n h => ⟨(hmem n h.2.1).1 h.1, h.2.1⟩) _ (Nat.le_refl _)
  refine Can.uniq c3 (((an_can (l := l') hy i _ (Nat.le_refl _)).congr fun w n => ?_))
  rw [List.take_length, List.take_length]
  constructor
  · rintro ⟨h1, h2⟩
    by_cases hz : n ∈ Z
    · exact .inr ⟨hz, h1, h2⟩
    · have h3 := (hmem n hz).2 h1
      refine .inl ⟨h3, hz, ?_⟩
      unfold wN at h2 ⊢
      rw [← K.words n h3 hz]
      exact h2
  · rintro (⟨h1, h2, h3⟩ | ⟨h1, h2, h3⟩)
    · refine ⟨(hmem n h2).1 h1, ?_⟩
      unfold wN at h3 ⊢
      rw [K.words n h1 h2]
      exact h3
    · exact ⟨h2, h3⟩
end Go.Proofs.YtomleengbnfikaaGreatDoor
