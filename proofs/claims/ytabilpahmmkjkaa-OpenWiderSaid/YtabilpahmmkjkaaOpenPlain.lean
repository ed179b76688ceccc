/-
Plain laws on the lists of names of package open: what is one of a list's words.
-/
import Derived.Test.YtabilpahmmkjkaaOpenWalks
import Derived.Lib.IndexAny
namespace Go.Proofs.Ytabilpahmmkjkaa
open Go.RowKit Go.Cl

def wordAt (list : List UInt8) (i : Nat) : List UInt8 := (list.drop (i + 1)).takeWhile (· != 32)

theorem takeWhile_no {l r : List UInt8} (h : ∀ x ∈ l, x ≠ 32) : (l ++ 32 :: r).takeWhile (· != 32) = l := by
  induction l with
  | nil => simp
  | cons x l ih =>
    have h1 : (x != 32) = true := by simpa using h x (by simp)
    rw [List.cons_append, List.takeWhile_cons, h1, if_pos rfl, ih fun y hy => h y (by simp [hy])]

theorem one_word {name list : ByteArray} (h : oneB name list = true) : ∃ i, i < list.data.toList.length ∧ list.data.toList.getD i 0 = 32 ∧ name.data.toList = wordAt list.data.toList i ∧ name.data.toList ≠ [] := by
  simp only [oneB, Bool.and_eq_true, Bool.not_eq_true'] at h
  obtain ⟨⟨h1, h2⟩, h3⟩ := h
  have hne : name.data.toList ≠ [] := by
    intro e
    rw [ByteArray.toList_eq, e] at h1
    cases h1
  have hno : ∀ x ∈ name.data.toList, x ≠ 32 := by
    rintro x hx rfl
    rw [← Lib.contains_iff_indexByte] at h2
    have : name.data.toList.contains 32 = true := by simpa using hx
    rw [this] at h2
    cases h2
  have hb : (⟨#[32]⟩ ++ name ++ ⟨#[32]⟩ : ByteArray).data.toList = 32 :: (name.data.toList ++ [32]) := by simp
  rw [hb] at h3
  have h4 : 0 ≤ Lib.index list.data.toList (32 :: (name.data.toList ++ [32])) := by simpa [Lib.contains] using h3
  rcases Lib.index_spec list.data.toList (32 :: (name.data.toList ++ [32])) with ⟨e, _⟩ | ⟨i, e, hi, ho, _⟩
  · omega
  · unfold Lib.occAt at ho
    obtain ⟨r, hr⟩ := List.isPrefixOf_iff_prefix.1 ho
    have hlt : i < list.data.toList.length := by
      rcases Nat.lt_or_ge i list.data.toList.length with h | h
      · exact h
      · rw [List.drop_of_length_le h] at hr
        cases hr
    have hd : list.data.toList.drop i = list.data.toList[i] :: list.data.toList.drop (i + 1) := List.drop_eq_getElem_cons hlt
    rw [hd] at hr
    simp only [List.cons_append, List.cons.injEq] at hr
    refine ⟨i, hlt, ?_, ?_, hne⟩
    · rw [List.getD_eq_getElem?_getD, List.getElem?_eq_getElem hlt, ← hr.1]; rfl
    · unfold wordAt
      rw [← hr.2, List.append_assoc]
      exact (takeWhile_no hno).symm

/-- What holds of each word of a list holds of whatever is one of it. -/
theorem one_all {name list : ByteArray} (p : ByteArray → Bool)
    (h : ((List.range list.data.toList.length).all fun i => list.data.toList.getD i 0 != 32 || (wordAt list.data.toList i).isEmpty || p ⟨(wordAt list.data.toList i).toArray⟩) = true) (h1 : oneB name list = true) : p name = true := by
  obtain ⟨i, hi, h32, hw, hne⟩ := one_word h1
  have := List.all_eq_true.1 h i (List.mem_range.2 hi)
  rw [h32, ← hw] at this
  have e : (⟨name.data.toList.toArray⟩ : ByteArray) = name := by simp
  rw [e, show name.data.toList.isEmpty = false from by simpa using hne] at this
  simpa using this

theorem bar_list {x : ByteArray} (h : barB x 1 = true) : barB x 2 = true := one_all (fun x => barB x 2) (by decide +kernel) h
theorem bar_button {x : ByteArray} (h : barB x 1 = true) : barB x 3 = true := one_all (fun x => barB x 3) (by decide +kernel) h
theorem bar_table {x : ByteArray} (h : barB x 4 = true) : barB x 1 = true := one_all (fun x => barB x 1) (by decide +kernel) h
theorem implied_formatting {x : ByteArray} (h : oneB x (⟨#[32, 100, 100, 32, 100, 116, 32, 108, 105, 32, 111, 112, 116, 103, 114, 111, 117, 112, 32, 111, 112, 116, 105, 111, 110, 32, 112, 32]⟩ : ByteArray) = true) : formattingB x = false := by
  have := one_all (fun x => !formattingB x) (by decide +kernel) h
  simpa using this
theorem implied_heading {x : ByteArray} (h : oneB x (⟨#[32, 100, 100, 32, 100, 116, 32, 108, 105, 32, 111, 112, 116, 103, 114, 111, 117, 112, 32, 111, 112, 116, 105, 111, 110, 32, 112, 32]⟩ : ByteArray) = true) : headingB x = false := by
  have := one_all (fun x => !headingB x) (by decide +kernel) h
  simpa using this

theorem has_mono {name : ByteArray} {s s' : Int} (h : ∀ x, barB x s' = true → barB x s = true) (l : List ByteArray) (h1 : hasB name s l = true) : hasB name s' l = true := by
  induction l with
  | nil => exact h1
  | cons x l ih =>
    unfold hasB at h1 ⊢
    split
    · rfl
    · rename_i e
      rw [if_neg e] at h1
      split at h1
      · cases h1
      · rename_i e2
        rw [if_neg (fun e3 => e2 (h x e3))]
        exact ih h1

theorem endsN_le (but : ByteArray) (l : List ByteArray) : endsN but l ≤ l.length := by
  induction l with
  | nil => simp [endsN]
  | cons x l ih => unfold endsN; split <;> (try split) <;> simp <;> omega
theorem endsN_drop (but : ByteArray) (l : List ByteArray) : endsN but (l.drop (endsN but l)) = 0 := by
  induction l with
  | nil => simp [endsN]
  | cons x l ih =>
    rw [endsN]
    split
    · simp [endsN, *]
    · split
      · simpa using ih
      · simp [endsN, *]
theorem endsN_again {but : ByteArray} {l : List ByteArray} {j k : Nat} (hk : l.length = k) (h : endsN but l.reverse = j) : endsN but (l.take (k - j)).reverse = 0 := by
  have : (l.take (k - j)).reverse = l.reverse.drop j := by rw [List.drop_reverse, hk]
  rw [this, ← h]
  exact endsN_drop but _
theorem endsN_get {but : ByteArray} {l : List ByteArray} {i : Nat} {x : ByteArray} (hi : i < endsN but l) (hx : l[i]? = some x) : (x.toList == but.toList) = false ∧ oneB x (⟨#[32, 100, 100, 32, 100, 116, 32, 108, 105, 32, 111, 112, 116, 103, 114, 111, 117, 112, 32, 111, 112, 116, 105, 111, 110, 32, 112, 32]⟩ : ByteArray) = true := by
  induction l generalizing i with
  | nil => simp at hx
  | cons y l ih =>
    rw [endsN] at hi
    split at hi
    · omega
    · rename_i e
      split at hi
      · rename_i e2
        match i with
        | 0 =>
          have : y = x := by simpa using hx
          subst this
          exact ⟨by simpa using e, e2⟩
        | i + 1 => exact ih (i := i) (by omega) (by simpa using hx)
      · omega

end Go.Proofs.Ytabilpahmmkjkaa
