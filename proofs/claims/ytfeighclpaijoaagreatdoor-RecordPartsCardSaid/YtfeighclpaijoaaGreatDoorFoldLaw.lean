/-
Two edits as one, or none: what they do together. No program in sight.
-/
import Derived.Test.YtfeighclpaijoaaGreatDoorApartLaw2
import Derived.Test.YtfeighclpaijoaaGreatDoorEdWalksB
namespace Go.Proofs.YtfeighclpaijoaaGreatDoor
open Go.RowKit Go.Cl

/-- Two edits, one behind the other, as one, or none. -/
def joinD (a b : Edt) : Option (List Edt) :=
  if a.do_ = 3 ∧ b.do_ = 3 ∧ a.at_ = b.at_ then some [b] else if a.do_ = 1 ∧ b.do_ = 1 ∧ a.at_ = b.at_ ∧ a.name = b.name then some [b]
  else if a.do_ = 5 ∧ b.do_ = 6 ∧ a.to_ = b.at_ then some [] else none
theorem idx_first {ks : List Int} {t : Int} {i : Nat} (h : ks[i]? = some t) (hne : ∀ j, j < i → ks[j]? ≠ some t) : Lib.idxOf ks t = (i : Int) := by
  obtain ⟨k, e, hk, hf⟩ := idx_of_mem (List.mem_of_getElem? h)
  rcases Nat.lt_trichotomy k i with h1 | h1 | h1
  · exact absurd hk (hne k h1)
  · rw [e, h1]
  · exact absurd h (hf i h1)
theorem setAt_twice {l : List Nd} {n : Int} {f g : Nd → Nd} : setAt (setAt l n f) n g = setAt l n fun x => g (f x) := by
  cases hx : nodeAt l n with
  | none => rw [setAt_none hx, setAt_none hx, setAt_none hx]
  | some x =>
    obtain ⟨a, rfl, ha⟩ := nodeAt_some hx
    rw [setAt_nat ha, setAt_nat (x := f x) (List.getElem?_set_self (List.getElem?_eq_some_iff.1 ha).1), setAt_nat ha, List.set_set]
/-- A text that is set twice. -/
theorem join_text {l : List Nd} {a b : Edt} (ha : a.do_ = 3) (hb : b.do_ = 3) (hn : a.at_ = b.at_) (h1 : edErr l a = 0) (h2 : edErr (edDo l a) b = 0) : edErr l b = 0 ∧ edDo (edDo l a) b = edDo l b := by
  have d3 : ∀ (g : Edt) (k : List Nd), g.do_ = 3 → edErr k g = textErr k g.at_ g.value ∧ edDo k g = textDo k g.at_ g.value := fun g k h => by
    unfold edErr edDo
    rw [if_neg (by omega), if_neg (by omega), if_pos h, if_neg (by omega), if_neg (by omega), if_pos h]
    exact ⟨rfl, rfl⟩
  rw [(d3 b _ hb).1] at h2
  rw [(d3 a _ ha).1] at h1
  rw [(d3 b _ hb).1, (d3 b _ hb).2, (d3 b _ hb).2, (d3 a _ ha).2]
  rw [(d3 a _ ha).2] at h2
  rw [hn] at h1 h2 ⊢
  unfold textErr at h1 h2 ⊢
  unfold textDo at h2 ⊢
  cases hx : nodeAt l b.at_ with
  | none => rw [hx] at h1; cases h1
  | some x =>
    rw [nodeAt_self hx] at h2
    exact ⟨h2, setAt_twice⟩
/-- What is inserted and removed. -/
theorem join_none {l : List Nd} (G : Good l) {a b : Edt} (ha : a.do_ = 5) (hb : b.do_ = 6) (hn : a.to_ = b.at_) (h1 : edErr l a = 0) : edDo (edDo l a) b = l := by
  have T := tree_of (check_of G)
  have e5 : edDo l a = insDo l a.at_ a.to_ a.before := by unfold edDo; rw [if_neg (by omega), if_neg (by omega), if_neg (by omega), if_neg (by omega), if_pos ha]
  have e6 : ∀ k : List Nd, edDo k b = remDo k b.at_ := fun k => by unfold edDo; rw [if_neg (by omega), if_neg (by omega), if_neg (by omega), if_neg (by omega), if_neg (by omega), if_pos hb]
  unfold edErr at h1
  rw [if_neg (by omega), if_neg (by omega), if_neg (by omega), if_neg (by omega), if_pos ha] at h1
  unfold insErr at h1
  rw [e6, e5, ← hn]
  cases hx : nodeAt l a.at_ with
  | none => rw [hx] at h1; cases h1
  | some x =>
    cases hy : nodeAt l a.to_ with
    | none => rw [hx, hy] at h1; cases h1
    | some y =>
      rw [hx, hy] at h1
      obtain ⟨m, em, hm⟩ := nodeAt_some hx
      obtain ⟨t, et, ht⟩ := nodeAt_some hy
      have h1 : (if parentB x.kind = false ∨ y.kind = 1 ∨ (x.kind = 1 ∧ y.kind = 3) then (7 : Int) else if 0 ≤ y.parent then 9 else if insAt x.kids a.before < 0 then 5 else if belowB l a.at_ a.to_ = true then 8 else if 40 < upN l a.at_ + 1 + deepR l a.to_ then 2 else 0) = 0 := h1
      by_cases c1 : parentB x.kind = false ∨ y.kind = 1 ∨ (x.kind = 1 ∧ y.kind = 3)
      · rw [if_pos c1] at h1; cases h1
      rw [if_neg c1] at h1
      by_cases c2 : 0 ≤ y.parent
      · rw [if_pos c2] at h1; cases h1
      rw [if_neg c2] at h1
      by_cases c3 : insAt x.kids a.before < 0
      · rw [if_pos c3] at h1; cases h1
      rw [if_neg c3] at h1
      by_cases c4 : belowB l a.at_ a.to_ = true
      · rw [if_pos c4] at h1; cases h1
      have hmt : m ≠ t := fun e => c4 (by rw [em, et, e]; exact below_self _)
      have hyp : y.parent = -1 := by
        have := T.par_low t (by rw [parD_at ht]; omega)
        rw [parD_at ht] at this
        exact this
      have hnk : (t : Int) ∉ x.kids := fun h => by
        obtain ⟨k, z, e, hz, hp, _⟩ := (T.kr.kids m x hm).2 _ h
        have : t = k := by omega
        subst this
        rw [ht] at hz
        obtain rfl := Option.some.inj hz
        omega
      have hml := (List.getElem?_eq_some_iff.1 hm).1
      have htl := (List.getElem?_eq_some_iff.1 ht).1
      obtain ⟨i, hi⟩ : ∃ i : Nat, (insAt x.kids a.before).toNat = i := ⟨_, rfl⟩
      have hi2 : i ≤ x.kids.length := by rw [← hi]; have := insAt_le x.kids a.before; omega
      have hins : insDo l a.at_ a.to_ a.before = (l.set m { x with kids := x.kids.take i ++ (t : Int) :: x.kids.drop i }).set t { y with parent := (m : Int) } := by
        unfold insDo
        rw [em, et, setAt_nat hm, hi, setAt_nat (x := y) (by rw [List.getElem?_set_ne hmt]; exact ht)]
      rw [hins, et]
      unfold remDo
      rw [nodeAt_nat, List.getElem?_set_self (by rw [List.length_set]; exact htl)]
      show setAt (setAt _ (m : Int) _) (t : Int) _ = l
      have hpos : Lib.idxOf (x.kids.take i ++ (t : Int) :: x.kids.drop i) (t : Int) = (i : Int) := idx_first (by rw [List.getElem?_append_right (by rw [List.length_take]; omega), List.length_take, Nat.min_eq_left hi2, Nat.sub_self]; rfl) (fun j hj e => by
        rw [List.getElem?_append_left (by rw [List.length_take]; omega), List.getElem?_take, if_pos hj] at e
        exact hnk (List.mem_of_getElem? e))
      rw [setAt_nat (m := m) (x := { x with kids := x.kids.take i ++ (t : Int) :: x.kids.drop i }) (by rw [List.getElem?_set_ne (Ne.symm hmt), List.getElem?_set_self hml])]
      rw [setAt_nat (m := t) (x := { y with parent := (m : Int) }) (by rw [List.getElem?_set_ne hmt, List.getElem?_set_self (by rw [List.length_set]; exact htl)])]
      rw [hpos, Int.toNat_natCast]
      have hk : (x.kids.take i ++ (t : Int) :: x.kids.drop i).eraseIdx i = x.kids := by
        rw [List.eraseIdx_append_of_length_le (by rw [List.length_take]; omega), List.length_take, Nat.min_eq_left hi2, Nat.sub_self, List.eraseIdx_cons_zero, List.take_append_drop]
      apply List.ext_getElem?
      intro j
      by_cases j1 : t = j
      · subst j1
        rw [List.getElem?_set_self (by simp; exact htl), ht, ← hyp]
      · rw [List.getElem?_set_ne j1]
        by_cases j2 : m = j
        · subst j2
          rw [List.getElem?_set_self (by simp; exact hml), hm]
          show some { x with kids := _ } = some x
          rw [hk]
        · rw [List.getElem?_set_ne j2, List.getElem?_set_ne j1, List.getElem?_set_ne j2]
theorem findA_map (ats : List DAttr) (nm : ByteArray) : (ats.findIdx? fun a => a.1.toList == nm.toList) = (ats.map fun a => a.1.toList).findIdx? fun b => b == nm.toList := by
  rw [List.findIdx?_map]
  rfl
theorem findA_names {a b : List DAttr} {nm : ByteArray} (h : (a.map fun x => x.1.toList) = b.map fun x => x.1.toList) : findA a nm = findA b nm := by
  unfold findA
  rw [findA_map, findA_map, h]
/-- An attribute that is set twice. -/
theorem attrPut_twice (ats : List DAttr) (nm v u : ByteArray) : attrPut (attrPut ats nm v) nm u = attrPut ats nm u := by
  rcases findA_cases ats nm with ⟨e, hne⟩ | ⟨i, a, e, ha, hn⟩
  · have p1 : ∀ x, attrPut ats nm x = ats ++ [(nm, x)] := fun x => by unfold attrPut; rw [if_pos (by omega)]
    rw [p1, p1]
    rcases findA_cases (ats ++ [(nm, v)]) nm with ⟨_, h⟩ | ⟨i, a, e2, ha, hn⟩
    · exact absurd rfl (h (nm, v) (by simp))
    · have hi : i = ats.length := by
        have hl := (List.getElem?_eq_some_iff.1 ha).1
        rw [List.length_append, List.length_singleton] at hl
        by_cases h : i < ats.length
        · rw [List.getElem?_append_left h] at ha
          exact absurd hn (hne a (List.mem_of_getElem? ha))
        · omega
      subst hi
      unfold attrPut
      rw [if_neg (by omega), e2, Int.toNat_natCast, ha, Option.getD_some]
      rw [List.getElem?_append_right (Nat.le_refl _), Nat.sub_self] at ha
      obtain rfl := Option.some.inj ha
      rw [List.set_append_right _ _ (Nat.le_refl _), Nat.sub_self]
      rfl
  · have p1 : ∀ x, attrPut ats nm x = ats.set i (a.1, x) := fun x => by unfold attrPut; rw [if_neg (by omega), e, Int.toNat_natCast, ha, Option.getD_some]
    rw [p1, p1]
    have hl := (List.getElem?_eq_some_iff.1 ha).1
    have e2 : findA (ats.set i (a.1, v)) nm = (i : Int) := (findA_names (set_map_id ha v)).trans e
    unfold attrPut
    rw [if_neg (by omega), e2, Int.toNat_natCast, List.getElem?_set_self hl, Option.getD_some, List.set_set]
theorem join_attr {l : List Nd} {a b : Edt} (ha : a.do_ = 1) (hb : b.do_ = 1) (hn : a.at_ = b.at_) (hm : a.name = b.name) (h1 : edErr l a = 0) (h2 : edErr (edDo l a) b = 0) : edErr l b = 0 ∧ edDo (edDo l a) b = edDo l b := by
  have d1 : ∀ (g : Edt) (k : List Nd), g.do_ = 1 → edErr k g = attrErr k g.at_ g.name g.value ∧ edDo k g = attrDo k g.at_ g.name g.value := fun g k h => by
    unfold edErr edDo
    rw [if_pos h, if_pos h]
    exact ⟨rfl, rfl⟩
  rw [(d1 b _ hb).1] at h2
  rw [(d1 a _ ha).1] at h1
  rw [(d1 b _ hb).1, (d1 b _ hb).2, (d1 b _ hb).2, (d1 a _ ha).2]
  rw [(d1 a _ ha).2] at h2
  rw [hn, hm] at h1 h2 ⊢
  unfold attrErr at h1 h2 ⊢
  unfold attrDo at h2 ⊢
  cases hx : nodeAt l b.at_ with
  | none => rw [hx] at h1; cases h1
  | some x =>
    rw [nodeAt_self hx] at h2
    rw [hx] at h1
    have h1' : (if x.kind ≠ 2 then (7 : Int) else if namedR b.name attrB = false then 3 else if 400 < a.value.size ∨ (findA x.attrs b.name < 0 ∧ x.attrs.length = 12) then 2 else 0) = 0 := h1
    have h2' : (if x.kind ≠ 2 then (7 : Int) else if namedR b.name attrB = false then 3 else if 400 < b.value.size ∨ (findA (attrPut x.attrs b.name a.value) b.name < 0 ∧ (attrPut x.attrs b.name a.value).length = 12) then 2 else 0) = 0 := h2
    refine ⟨?_, ?_⟩
    · show (if x.kind ≠ 2 then (7 : Int) else if namedR b.name attrB = false then 3 else if 400 < b.value.size ∨ (findA x.attrs b.name < 0 ∧ x.attrs.length = 12) then 2 else 0) = 0
      by_cases c1 : x.kind ≠ 2
      · rw [if_pos c1] at h1'; cases h1'
      rw [if_neg c1] at h1' h2' ⊢
      by_cases c2 : namedR b.name attrB = false
      · rw [if_pos c2] at h1'; cases h1'
      rw [if_neg c2] at h1' h2' ⊢
      by_cases c3 : 400 < a.value.size ∨ (findA x.attrs b.name < 0 ∧ x.attrs.length = 12)
      · rw [if_pos c3] at h1'; cases h1'
      by_cases c4 : 400 < b.value.size ∨ (findA (attrPut x.attrs b.name a.value) b.name < 0 ∧ (attrPut x.attrs b.name a.value).length = 12)
      · rw [if_pos c4] at h2'; cases h2'
      rw [if_neg]
      rintro (h | h)
      · exact c4 (Or.inl h)
      · exact c3 (Or.inr h)
    · rw [setAt_twice]
      unfold setAt
      rw [hx]
      show l.set _ { x with attrs := attrPut (attrPut x.attrs b.name a.value) b.name b.value } = l.set _ { x with attrs := attrPut x.attrs b.name b.value }
      rw [attrPut_twice]

/-! ### folding: the edits lie from the last one to the first -/
def settle : List Edt → List Edt
  | b :: a :: r => match joinD a b with
    | none => b :: a :: r
    | some [] => settle r
    | some (x :: _) => settle (x :: r)
  | st => st
termination_by st => st.length
def foldR (es : List Edt) : List Edt := es.foldl (fun st e => settle (e :: st)) []
def runE (l : List Nd) : List Edt → Option (List Nd)
  | [] => some l
  | e :: r => if edErr l e = 0 then runE (edDo l e) r else none
theorem runE_app : ∀ (us bs : List Edt) (l : List Nd), runE l (us ++ bs) = (runE l us).bind fun k => runE k bs := by
  intro us
  induction us with
  | nil => intro bs l; rfl
  | cons e r ih =>
    intro bs l
    show (if edErr l e = 0 then runE (edDo l e) (r ++ bs) else none) = _
    rw [runE]
    by_cases h : edErr l e = 0
    · rw [if_pos h, if_pos h, ih]
    · rw [if_neg h, if_neg h]; rfl
theorem runE_good : ∀ (es : List Edt) (l k : List Nd), Good l → runE l es = some k → Good k := by
  intro es
  induction es with
  | nil => intro l k G h; obtain rfl := Option.some.inj h; exact G
  | cons e r ih =>
    intro l k G h
    rw [runE] at h
    by_cases he : edErr l e = 0
    · rw [if_pos he] at h; exact ih _ _ (good_ed G he) h
    · rw [if_neg he] at h; cases h
theorem join_run {l d : List Nd} (G : Good l) {a b : Edt} {js : List Edt} (hj : joinD a b = some js) (h : runE l [a, b] = some d) : runE l js = some d := by
  have h1 : edErr l a = 0 := by
    by_cases h1 : edErr l a = 0
    · exact h1
    · rw [runE, if_neg h1] at h; cases h
  have h2 : edErr (edDo l a) b = 0 := by
    by_cases h2 : edErr (edDo l a) b = 0
    · exact h2
    · rw [runE, if_pos h1, runE, if_neg h2] at h; cases h
  rw [runE, if_pos h1, runE, if_pos h2, runE] at h
  obtain rfl := Option.some.inj h
  unfold joinD at hj
  by_cases c1 : a.do_ = 3 ∧ b.do_ = 3 ∧ a.at_ = b.at_
  · rw [if_pos c1] at hj
    obtain rfl := Option.some.inj hj
    obtain ⟨e1, e2⟩ := join_text c1.1 c1.2.1 c1.2.2 h1 h2
    rw [runE, if_pos e1, runE, e2]
  rw [if_neg c1] at hj
  by_cases c2 : a.do_ = 1 ∧ b.do_ = 1 ∧ a.at_ = b.at_ ∧ a.name = b.name
  · rw [if_pos c2] at hj
    obtain rfl := Option.some.inj hj
    obtain ⟨e1, e2⟩ := join_attr c2.1 c2.2.1 c2.2.2.1 c2.2.2.2 h1 h2
    rw [runE, if_pos e1, runE, e2]
  rw [if_neg c2] at hj
  by_cases c3 : a.do_ = 5 ∧ b.do_ = 6 ∧ a.to_ = b.at_
  · rw [if_pos c3] at hj
    obtain rfl := Option.some.inj hj
    rw [runE, join_none G c3.1 c3.2.1 c3.2.2 h1]
  · rw [if_neg c3] at hj; cases hj
/-- What is settled does what it did. -/
theorem settle_run {l : List Nd} (G : Good l) : ∀ (n : Nat) (st : List Edt) (d : List Nd), st.length ≤ n → runE l st.reverse = some d → runE l (settle st).reverse = some d := by
  intro n
  induction n with
  | zero =>
    intro st d hn h
    have : st = [] := List.eq_nil_of_length_eq_zero (by omega)
    subst this
    rw [settle]; exact h
    all_goals simp
  | succ n ih =>
    intro st d hn h
    match st, hn, h with
    | [], _, h => rw [settle]; exact h; simp
    | [e], _, h => rw [settle]; exact h; simp
    | b :: a :: r, hn, h =>
      rw [settle]
      have e : (b :: a :: r).reverse = r.reverse ++ [a, b] := by simp
      cases hj : joinD a b with
      | none => exact h
      | some js =>
        rw [e, runE_app] at h
        cases hk : runE l r.reverse with
        | none => rw [hk] at h; cases h
        | some k =>
          rw [hk] at h
          have hr := join_run (runE_good _ _ _ G hk) hj h
          have hl : r.length + 2 ≤ n + 1 := hn
          cases js with
          | nil =>
            refine ih r d (by omega) ?_
            rw [hk]; exact hr
          | cons x xs =>
            have hx : xs = [] := by
              unfold joinD at hj
              by_cases c1 : a.do_ = 3 ∧ b.do_ = 3 ∧ a.at_ = b.at_
              · rw [if_pos c1] at hj; injection hj with hj; injection hj with _ hj; exact hj.symm
              rw [if_neg c1] at hj
              by_cases c2 : a.do_ = 1 ∧ b.do_ = 1 ∧ a.at_ = b.at_ ∧ a.name = b.name
              · rw [if_pos c2] at hj; injection hj with hj; injection hj with _ hj; exact hj.symm
              rw [if_neg c2] at hj
              by_cases c3 : a.do_ = 5 ∧ b.do_ = 6 ∧ a.to_ = b.at_
              · rw [if_pos c3] at hj; cases hj
              · rw [if_neg c3] at hj; cases hj
            subst hx
            refine ih (x :: r) d (by show r.length + 1 ≤ n; omega) ?_
            rw [List.reverse_cons, runE_app, hk]
            exact hr
theorem fold_run {l d : List Nd} (G : Good l) : ∀ (es st : List Edt), runE l (st.reverse ++ es) = some d → runE l (es.foldl (fun st e => settle (e :: st)) st).reverse = some d := by
  intro es
  induction es with
  | nil => intro st h; rw [List.append_nil] at h; exact h
  | cons e r ih =>
    intro st h
    have e1 : st.reverse ++ e :: r = (e :: st).reverse ++ r := by simp
    rw [e1, runE_app] at h
    cases hk : runE l (e :: st).reverse with
    | none => rw [hk] at h; cases h
    | some k =>
      rw [hk] at h
      refine ih (settle (e :: st)) ?_
      rw [runE_app, settle_run G _ _ k (Nat.le_refl _) hk]
      exact h
/-- What Fold leaves does what the edits do. -/
theorem foldR_run {l d : List Nd} (G : Good l) {es : List Edt} (h : runE l es = some d) : runE l (foldR es).reverse = some d := fold_run G es [] h
/-- No two neighbours can be joined. -/
def Stable : List Edt → Prop
  | b :: a :: r => joinD a b = none ∧ Stable (a :: r)
  | _ => True
theorem stable_tail {e : Edt} {st : List Edt} (h : Stable (e :: st)) : Stable st := by
  cases st with
  | nil => trivial
  | cons a r => exact h.2
theorem settle_stable : ∀ (n : Nat) (st : List Edt), st.length ≤ n → Stable st.tail → Stable (settle st) := by
  intro n
  induction n with
  | zero =>
    intro st hn h
    have : st = [] := List.eq_nil_of_length_eq_zero (by omega)
    subst this
    rw [settle]; trivial
    all_goals simp
  | succ n ih =>
    intro st hn h
    match st, hn, h with
    | [], _, h => rw [settle]; trivial; simp
    | [e], _, h => rw [settle]; trivial; simp
    | b :: a :: r, hn, h =>
      rw [settle]
      have hl : r.length + 2 ≤ n + 1 := hn
      have hr : Stable r := stable_tail h
      cases hj : joinD a b with
      | none => exact ⟨hj, h⟩
      | some js =>
        cases js with
        | nil =>
          refine ih r (by omega) ?_
          cases r with
          | nil => trivial
          | cons c q => exact stable_tail hr
        | cons x xs => exact ih (x :: r) (by show r.length + 1 ≤ n; omega) hr
theorem settle_id {st : List Edt} (h : Stable st) : settle st = st := by
  match st, h with
  | [], _ => rw [settle]; simp
  | [e], _ => rw [settle]; simp
  | b :: a :: r, h => rw [settle, h.1]
theorem fold_stable : ∀ (es st : List Edt), Stable st → Stable (es.foldl (fun st e => settle (e :: st)) st) := by
  intro es
  induction es with
  | nil => intro st h; exact h
  | cons e r ih => intro st h; exact ih _ (settle_stable _ _ (Nat.le_refl _) h)
theorem fold_id : ∀ st : List Edt, Stable st → foldR st.reverse = st := by
  intro st
  induction st with
  | nil => intro _; rfl
  | cons e r ih =>
    intro h
    have h2 := ih (stable_tail h)
    unfold foldR at h2 ⊢
    rw [List.reverse_cons, List.foldl_append, h2]
    exact settle_id h
/-- What is folded is folded no more. -/
theorem foldR_twice (es : List Edt) : foldR (foldR es).reverse = foldR es := fold_id _ (fold_stable es [] trivial)
end Go.Proofs.YtfeighclpaijoaaGreatDoor
