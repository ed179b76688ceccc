/-
Plain laws on lists of formatting elements: never four alike; what stands ahead of the last marker stays.
-/
import Derived.Test.YtabilpahmmkjkaaActiveWalks3
namespace Go.Proofs.Ytabilpahmmkjkaa
open Go.RowKit Go.Cl

def mk (x : Item) : Bool := x.node == -1
/-- How many have a name. -/
def cn (nm : ByteArray) (l : List Item) : Nat := (l.filter fun y => y.name.toList == nm.toList).length
theorem cn_append (nm : ByteArray) (a b : List Item) : cn nm (a ++ b) = cn nm a + cn nm b := by simp [cn]
theorem cn_cons (nm : ByteArray) (x : Item) (b : List Item) : cn nm (x :: b) = (if x.name.toList == nm.toList then 1 else 0) + cn nm b := by
  unfold cn
  rw [List.filter_cons]
  split <;> simp <;> omega

/-- The current items. -/
def cur (l : List Item) : List Item := l.drop (lastN l)
theorem cur_eq (l : List Item) : cur l = (l.reverse.takeWhile fun x => !(mk x)).reverse := by
  have h := List.takeWhile_prefix (p := fun x : Item => !(mk x)) (l := l.reverse)
  obtain ⟨r, hr⟩ := h
  have h2 : l = r.reverse ++ (l.reverse.takeWhile fun x => !(mk x)).reverse := by
    have := congrArg List.reverse hr
    rw [List.reverse_reverse, List.reverse_append] at this
    exact this.symm
  have hl : lastN l = r.reverse.length := by
    have h3 := congrArg List.length h2
    simp only [List.length_append, List.length_reverse] at h3
    rw [List.length_reverse]
    unfold lastN
    show l.length - (l.reverse.takeWhile fun x => !(mk x)).length = _
    omega
  unfold cur
  rw [hl]
  generalize (l.reverse.takeWhile fun x => !(mk x)).reverse = z at *
  rw [h2, List.drop_left]
theorem takeWhile_all {l : List Item} {y : Item} (h : y ∈ l.takeWhile fun x => !(mk x)) : mk y = false := by
  induction l with
  | nil => simp at h
  | cons z l ih =>
    rw [List.takeWhile_cons] at h
    cases hz : mk z with
    | true => rw [hz] at h; simp at h
    | false =>
      rw [hz] at h
      rcases List.mem_cons.1 (by simpa using h) with rfl | h
      · exact hz
      · exact ih h
theorem cur_free (l : List Item) : ∀ y ∈ cur l, mk y = false := by
  intro y hy
  rw [cur_eq, List.mem_reverse] at hy
  exact takeWhile_all hy
theorem pre_cur (l : List Item) : l = l.take (lastN l) ++ cur l := (List.take_append_drop _ _).symm
/-- Whatever is at the end and holds no marker is of the current items. -/
theorem suffix_cur {l p s : List Item} (h : l = p ++ s) (hs : ∀ y ∈ s, mk y = false) : ∃ t, cur l = t ++ s := by
  rw [cur_eq, h, List.reverse_append, List.takeWhile_append_of_pos (by intro y hy; rw [hs y (List.mem_reverse.1 hy)]; rfl), List.reverse_append, List.reverse_reverse]
  exact ⟨_, rfl⟩
theorem lastN_eq (l : List Item) : (l.take (lastN l)).length = lastN l := by rw [List.length_take]; exact Nat.min_eq_left (lastN_le l)

theorem same_len (l : List Item) (x : Item) : ∀ k, k ≤ (cur l).length → (sameTo l x (lastN l + k)).length = (((cur l).take k).filter fun y => alikeB y x).length
  | 0, _ => by simp [sameTo_first]
  | k + 1, hk => by
    obtain ⟨y, hy⟩ := get_some (l := cur l) (k := k) (by omega)
    have hly : l[lastN l + k]? = some y := by
      unfold cur at hy
      rw [List.getElem?_drop] at hy
      exact hy
    rw [← Nat.add_assoc, sameTo_succ l x y _ hly (Nat.le_add_right _ _), List.length_append, same_len l x k (by omega), take_snoc hy, List.filter_append, List.length_append]
    congr 1
    cases hq : alikeB y x <;> simp [hq]
theorem same_all (l : List Item) (x : Item) : (sameTo l x l.length).length = ((cur l).filter fun y => alikeB y x).length := by
  have h := same_len l x (cur l).length (Nat.le_refl _)
  have h2 : lastN l + (cur l).length = l.length := by
    have := lastN_le l
    unfold cur
    rw [List.length_drop]
    omega
  rw [h2, List.take_length] at h
  exact h
theorem same_head (l : List Item) (x : Item) (h : 0 < (sameTo l x l.length).length) : ∃ y, l[(sameTo l x l.length).headD 0]? = some y ∧ lastN l ≤ (sameTo l x l.length).headD 0 ∧ alikeB y x = true := by
  have hm : (sameTo l x l.length).headD 0 ∈ sameTo l x l.length := by
    cases hq : sameTo l x l.length with
    | nil => rw [hq] at h; cases h
    | cons a r => simp
  generalize (sameTo l x l.length).headD 0 = j at *
  rw [sameTo, List.mem_filter] at hm
  obtain ⟨h1, h2⟩ := hm
  obtain ⟨y, hy⟩ := get_some (List.mem_range.1 h1)
  rw [hy] at h2
  simp only [Bool.and_eq_true, decide_eq_true_eq] at h2
  exact ⟨y, hy, h2.1, h2.2⟩

/-- The two ways of a push. -/
theorem pushed_ways (l : List Item) (x : Item) :
    (pushedL l x = l ++ [x] ∧ (mk x = true ∨ ((cur l).filter fun y => alikeB y x).length < 3)) ∨
    ∃ a y b, l = a ++ y :: b ∧ lastN l ≤ a.length ∧ alikeB y x = true ∧ pushedL l x = a ++ b ++ [x] ∧ mk x = false ∧ 3 ≤ ((cur l).filter fun y => alikeB y x).length := by
  unfold pushedL
  rw [same_all]
  cases hx : mk x with
  | true => exact .inl ⟨by rw [show (x.node == -1) = true from hx]; rfl, .inl rfl⟩
  | false =>
    rw [show (x.node == -1) = false from hx]
    by_cases h3 : 3 ≤ ((cur l).filter fun y => alikeB y x).length
    · right
      obtain ⟨y, hy, hle, hal⟩ := same_head l x (by rw [same_all]; omega)
      generalize (sameTo l x l.length).headD 0 = j at *
      have hj := (List.getElem?_eq_some_iff.1 hy).1
      refine ⟨l.take j, y, l.drop (j + 1), ?_, by rw [List.length_take]; omega, hal, ?_, rfl, h3⟩
      · have := List.getElem?_eq_some_iff.1 hy
        obtain ⟨_, he⟩ := this
        rw [← he, List.getElem_cons_drop, List.take_append_drop]
      · rw [decide_eq_true h3, ← List.take_drop_erase]; rfl
    · exact .inl ⟨by rw [decide_eq_false h3]; rfl, .inr (by omega)⟩

/-- NEVER FOUR ALIKE: of each name at most three in a row without a marker. -/
def Ark (l : List Item) : Prop := ∀ p s q nm, l = p ++ s ++ q → (∀ y ∈ s, mk y = false) → cn nm s ≤ 3

theorem bare_alike {x y : Item} (hx : x.attrs = []) (hy : y.attrs = []) : alikeB y x = (y.name.toList == x.name.toList) := by
  unfold alikeB withinB
  rw [hx, hy]
  simp
theorem filter_alike {l : List Item} {x : Item} (hl : ∀ y ∈ l, y.attrs = []) (hx : x.attrs = []) : (l.filter fun y => alikeB y x).length = cn x.name l := by
  unfold cn
  congr 1
  exact List.filter_congr fun y hy => bare_alike hx (hl y hy)

theorem ark_nil : Ark [] := by
  intro p s q nm h _
  have : s = [] := by
    have := congrArg List.length h
    simp at this
    exact List.eq_nil_of_length_eq_zero (by omega)
  subst this
  simp [cn]

/-- What is left when one that is no marker goes. -/
theorem ark_less {a b : List Item} {y : Item} (h : Ark (a ++ y :: b)) (hy : mk y = false) : Ark (a ++ b) := by
  intro p s q nm he hs
  rw [List.append_assoc] at he
  rcases List.append_eq_append_iff.1 he.symm with ⟨t, h1, h2⟩ | ⟨t, h1, h2⟩
  · -- a = p ++ t, s ++ q = t ++ b
    rcases List.append_eq_append_iff.1 h2 with ⟨u, h3, h4⟩ | ⟨u, h3, h4⟩
    · exact h p s (u ++ y :: b) nm (by rw [h1, h3]; simp) hs
    · have h5 := h p (t ++ y :: u) q nm (by rw [h1, h4]; simp) (by
        intro z hz
        rcases List.mem_append.1 hz with hz | hz
        · exact hs z (by rw [h3]; simp [hz])
        · rcases List.mem_cons.1 hz with rfl | hz
          · exact hy
          · exact hs z (by rw [h3]; simp [hz]))
      rw [h3, cn_append]
      rw [cn_append, cn_cons] at h5
      omega
  · -- p = a ++ t, b = t ++ (s ++ q)
    exact h (a ++ y :: t) s q nm (by rw [h2]; simp) hs

theorem ark_push {l : List Item} {x : Item} (h : Ark l) (hl : ∀ y ∈ l, y.attrs = []) (hx : x.attrs = []) : Ark (pushedL l x) := by
  -- one more at the end of a list of which that is known
  have hend : ∀ l' : List Item, Ark l' → (mk x = true ∨ ∀ t s, l' = t ++ s → (∀ y ∈ s, mk y = false) → cn x.name s ≤ 2) → Ark (l' ++ [x]) := by
    intro l' h' hc p s q nm he hs
    rcases List.eq_nil_or_concat q with rfl | ⟨q', z, rfl⟩
    · rcases List.eq_nil_or_concat s with rfl | ⟨s', z, rfl⟩
      · simp [cn]
      · have he2 : l' ++ [x] = (p ++ s') ++ [z] := by rw [he]; simp
        obtain ⟨h1, h2⟩ := List.append_inj' he2 rfl
        obtain rfl : x = z := by simpa using h2
        rw [List.concat_eq_append] at hs ⊢
        have hxm : mk x = false := hs x (by simp)
        have hs' : ∀ y ∈ s', mk y = false := fun y hy => hs y (by simp [hy])
        rw [cn_append, cn_cons]
        have h3 := h' p s' [] nm (by rw [h1]; simp) hs'
        cases hn : (x.name.toList == nm.toList) with
        | false => simp [cn]; exact h3
        | true =>
          rcases hc with hc | hc
          · rw [hxm] at hc; cases hc
          · have h4 := hc p s' h1 hs'
            have h5 : cn nm s' = cn x.name s' := by unfold cn; rw [beq_iff_eq.1 hn]
            simp [cn] at *
            omega
    · have he2 : l' ++ [x] = (p ++ s ++ q') ++ [z] := by rw [he]; simp
      obtain ⟨h1, _⟩ := List.append_inj' he2 rfl
      exact h' p s q' nm h1 hs
  have hcl : ∀ y ∈ cur l, y.attrs = [] := fun y hy => hl y (List.mem_of_mem_drop hy)
  rcases pushed_ways l x with ⟨e, hw⟩ | ⟨a, y, b, e1, e2, e3, e4, e5, e6⟩
  · rw [e]
    refine hend l h (hw.imp_right fun hw t s he hs => ?_)
    obtain ⟨u, hu⟩ := suffix_cur he hs
    rw [filter_alike hcl hx, hu, cn_append] at hw
    omega
  · rw [e4]
    have hay : y ∈ l := by rw [e1]; simp
    -- the current items with and without that one
    have hcur : cur l = a.drop (lastN l) ++ y :: b := by
      have h1 : (a ++ y :: b).drop (lastN l) = a.drop (lastN l) ++ y :: b := List.drop_append_of_le_length e2
      rw [← e1] at h1
      exact h1
    have hym : mk y = false := cur_free l y (by rw [hcur]; simp)
    have hyn : (y.name.toList == x.name.toList) = true := by rw [← bare_alike hx (hl y hay)]; exact e3
    have hc3 : cn x.name (cur l) ≤ 3 := h (l.take (lastN l)) (cur l) [] x.name (by rw [List.append_nil]; exact pre_cur l) (cur_free l)
    have hc2 : cn x.name (a.drop (lastN l)) + cn x.name b ≤ 2 := by
      rw [hcur, cn_append, cn_cons, hyn] at hc3
      simp at hc3
      omega
    refine hend (a ++ b) (ark_less (y := y) (by rw [← e1]; exact h) hym) (.inr fun t s he hs => ?_)
    -- a marker-free end of a ++ b
    rcases List.append_eq_append_iff.1 he with ⟨u, h1, h2⟩ | ⟨u, h1, h2⟩
    · -- t = a ++ u, b = u ++ s
      have : cn x.name b = cn x.name u + cn x.name s := by rw [h2, cn_append]
      omega
    · -- a = t ++ u, s = u ++ b
      have hfree : ∀ z ∈ u ++ y :: b, mk z = false := by
        intro z hz
        rcases List.mem_append.1 hz with hz | hz
        · exact hs z (by rw [h2]; simp [hz])
        · rcases List.mem_cons.1 hz with rfl | hz
          · exact hym
          · exact hs z (by rw [h2]; simp [hz])
      obtain ⟨v, hv⟩ := suffix_cur (l := l) (p := t) (s := u ++ y :: b) (by rw [e1, h1]; simp) hfree
      have h5 : cn x.name (cur l) = cn x.name v + (cn x.name u + (1 + cn x.name b)) := by
        rw [hv, cn_append, cn_append, cn_cons, hyn]; simp
      rw [h2, cn_append]
      omega

theorem pushed_mem {l : List Item} {x y : Item} (h : y ∈ pushedL l x) : y ∈ l ∨ y = x := by
  unfold pushedL at h
  rcases List.mem_append.1 h with h | h
  · split at h
    · exact .inl (List.mem_of_mem_eraseIdx h)
    · exact .inl h
  · exact .inr (by simpa using h)
theorem pushed_len (l : List Item) (x : Item) : (pushedL l x).length ≤ l.length + 1 := by
  unfold pushedL
  rw [List.length_append]
  split
  · have := List.length_eraseIdx_le l ((sameTo l x l.length).headD 0)
    simp only [List.length_cons, List.length_nil]; omega
  · simp
theorem pushed_last (l : List Item) (x : Item) : ∃ m, pushedL l x = m ++ [x] := ⟨_, rfl⟩
theorem found_last {m : List Item} {x : Item} (hx : mk x = false) : foundRev x.name (m ++ [x]).reverse = m.length := by
  rw [List.reverse_append]
  show foundRev x.name (x :: m.reverse) = _
  rw [foundRev, show (x.node == -1) = false from hx]
  simp

/-- The lists of the first law: markers, and items without attributes, numbered. -/
def Fine (k : Nat) (l : List Item) : Prop := l.length ≤ k ∧ (∀ y ∈ l, y.attrs = [] ∧ ((y.node = -1 ∧ y.name = ⟨#[]⟩) ∨ (0 ≤ y.node ∧ y.node < k))) ∧ Ark l
def arkItem (f : ByteArray) (mark : Int) (k : Nat) : Item := if (k : Int) = mark then ⟨-1, ⟨#[]⟩, []⟩ else ⟨k, f, []⟩
theorem arkItem_ok (f : ByteArray) (mark : Int) (k : Nat) : (arkItem f mark k).attrs = [] ∧ (((arkItem f mark k).node = -1 ∧ (arkItem f mark k).name = ⟨#[]⟩) ∨ (0 ≤ (arkItem f mark k).node ∧ (arkItem f mark k).node < (k + 1 : Nat))) := by
  unfold arkItem
  split
  · exact ⟨rfl, .inl ⟨rfl, rfl⟩⟩
  · exact ⟨rfl, .inr ⟨by show (0 : Int) ≤ (k : Int); omega, by show (k : Int) < _; omega⟩⟩
theorem fine_nil : Fine 0 [] := ⟨Nat.le_refl _, by simp, ark_nil⟩
theorem fine_push {k : Nat} {l : List Item} (h : Fine k l) (f : ByteArray) (mark : Int) : Fine (k + 1) (pushedL l (arkItem f mark k)) := by
  obtain ⟨h1, h2, h3⟩ := h
  obtain ⟨ha, hb⟩ := arkItem_ok f mark k
  refine ⟨Nat.le_trans (pushed_len _ _) (by omega), fun y hy => ?_, ark_push h3 (fun y hy => (h2 y hy).1) ha⟩
  rcases pushed_mem hy with hy | rfl
  · refine ⟨(h2 y hy).1, (h2 y hy).2.imp_right fun h => ⟨h.1, by omega⟩⟩
  · exact ⟨ha, hb⟩
theorem fine_check {k : Nat} {l : List Item} (h : Fine k l) (hk : k ≤ 60) : checkE l = 0 := by
  unfold checkE
  rw [if_neg (by have := h.1; omega), if_neg]
  simp only [List.any_eq_true, not_exists, not_and, Bool.not_eq_true]
  intro y hy
  obtain ⟨h1, h2⟩ := h.2.1 y hy
  unfold badB
  rw [h1]
  rcases h2 with ⟨h2, h3⟩ | ⟨h2, h3⟩
  · rw [h2, h3]; decide +kernel
  · rw [decide_eq_false (by omega), show (y.node == -1) = false from by rw [beq_eq_false_iff_ne]; omega]; rfl
theorem fine_check1 {k : Nat} {l : List Item} (h : Fine k l) (f : ByteArray) (mark : Int) (hk : k < 60) : checkE (l ++ [arkItem f mark k]) = 0 := by
  unfold checkE
  rw [if_neg (by have := h.1; simp; omega), if_neg]
  simp only [List.any_eq_true, not_exists, not_and, Bool.not_eq_true]
  intro y hy
  obtain ⟨h1, h2⟩ : y.attrs = [] ∧ ((y.node = -1 ∧ y.name = ⟨#[]⟩) ∨ (0 ≤ y.node ∧ y.node < (k + 1 : Nat))) := by
    rcases List.mem_append.1 hy with hy | hy
    · exact ⟨(h.2.1 y hy).1, (h.2.1 y hy).2.imp_right fun h => ⟨h.1, by omega⟩⟩
    · obtain rfl : y = arkItem f mark k := by simpa using hy
      exact arkItem_ok f mark k
  unfold badB
  rw [h1]
  rcases h2 with ⟨h2, h3⟩ | ⟨h2, h3⟩
  · rw [h2, h3]; decide +kernel
  · rw [decide_eq_false (by omega), show (y.node == -1) = false from by rw [beq_eq_false_iff_ne]; omega]; rfl

end Go.Proofs.Ytabilpahmmkjkaa
