/-
Patches, where one node has turned: the plain law. No program in sight.
-/
import Derived.Test.YtpbngckplbnahaaGreatDoorEdLaws
namespace Go.Proofs.YtpbngckplbnahaaGreatDoor
open Go.RowKit Go.Cl

/-! ### the table -/
def dpF (W : Nat → Nat → Int) (L M : Nat) (i k : Nat) : Int :=
  if i < L ∧ k < M then
    if 0 < W i k then max (max (dpF W L M (i + 1) k) (dpF W L M i (k + 1))) (W i k + dpF W L M (i + 1) (k + 1)) else max (dpF W L M (i + 1) k) (dpF W L M i (k + 1))
  else 0
termination_by (L - i) + (M - k)
theorem dp_out {W : Nat → Nat → Int} {L M i k : Nat} (h : ¬ (i < L ∧ k < M)) : dpF W L M i k = 0 := by rw [dpF, if_neg h]
theorem dp_in {W : Nat → Nat → Int} {L M i k : Nat} (h1 : i < L) (h2 : k < M) : dpF W L M i k = if 0 < W i k then max (max (dpF W L M (i + 1) k) (dpF W L M i (k + 1))) (W i k + dpF W L M (i + 1) (k + 1)) else max (dpF W L M (i + 1) k) (dpF W L M i (k + 1)) := by rw [dpF, if_pos ⟨h1, h2⟩]
theorem dp_le {W : Nat → Nat → Int} {L M : Nat} (hW : ∀ i k, W i k ≤ 2) (f : Nat) : ∀ i k, (L - i) + (M - k) ≤ f → 0 ≤ dpF W L M i k ∧ dpF W L M i k ≤ 2 * ((L - i : Nat) : Int) ∧ dpF W L M i k ≤ 2 * ((M - k : Nat) : Int) := by
  induction f with
  | zero =>
    intro i k h
    rw [dp_out (by omega)]
    omega
  | succ f ih =>
    intro i k h
    by_cases hin : i < L ∧ k < M
    · rw [dp_in hin.1 hin.2]
      have h1 := ih (i + 1) k (by omega)
      have h2 := ih i (k + 1) (by omega)
      have h3 := ih (i + 1) (k + 1) (by omega)
      have h4 := hW i k
      split <;> omega
    · rw [dp_out hin]
      omega
theorem dp_bound {W : Nat → Nat → Int} {L M : Nat} (hW : ∀ i k, W i k ≤ 2) (i k : Nat) : 0 ≤ dpF W L M i k ∧ dpF W L M i k ≤ 2 * ((L - i : Nat) : Int) ∧ dpF W L M i k ≤ 2 * ((M - k : Nat) : Int) := dp_le hW _ i k (Nat.le_refl _)
theorem dp_diag {W : Nat → Nat → Int} {L s : Nat} (hd : ∀ j, j < L → W j j = 2 ∨ (j = s ∧ W j j = 1)) (f : Nat) : ∀ k, L - k = f → k ≤ L → 2 * ((L - k : Nat) : Int) - (if k ≤ s then 1 else 0) ≤ dpF W L L k k := by
  induction f with
  | zero =>
    intro k h hk
    rw [dp_out (by omega)]
    split <;> omega
  | succ f ih =>
    intro k h hk
    have h1 := ih (k + 1) (by omega) (by omega)
    rw [dp_in (by omega) (by omega)]
    rcases hd k (by omega) with h2 | ⟨h3, h2⟩
    · rw [if_pos (show 0 < W k k by omega)]
      split at h1 <;> split <;> omega
    · rw [if_pos (show 0 < W k k by omega)]
      split at h1 <;> split <;> omega
/-- By the table each goes with its like. -/
structure Diag (W F : Nat → Nat → Int) (k : Nat) : Prop where
  ne : F k k ≠ F k (k + 1)
  pos : 0 < W k k
  eq : F k k = W k k + F (k + 1) (k + 1)
theorem dp_same {W : Nat → Nat → Int} {L s : Nat} (hW : ∀ i k, W i k ≤ 2) (hd : ∀ j, j < L → W j j = 2 ∨ (j = s ∧ W j j = 1)) {k : Nat} (hk : k < L) : Diag W (dpF W L L) k := by
  have h1 := dp_diag hd _ k rfl (by omega)
  have h2 := dp_diag hd _ (k + 1) rfl (by omega)
  have h3 := dp_bound (L := L) (M := L) hW k (k + 1)
  have h4 := dp_bound (L := L) (M := L) hW (k + 1) k
  have h5 := dp_bound (L := L) (M := L) hW (k + 1) (k + 1)
  have h6 : 0 < W k k := by rcases hd k hk with h | ⟨_, h⟩ <;> omega
  have h7 := hd k hk
  have h8 := dp_in (W := W) hk hk
  rw [if_pos h6] at h8
  refine ⟨?_, h6, ?_⟩
  · split at h1 <;> omega
  · rw [h8]
    rcases h7 with h7 | ⟨h9, h7⟩
    · split at h2 <;> omega
    · split at h2 <;> omega

/-! ### attributes that become others -/
theorem ba_eq {a b : ByteArray} (h : a.toList = b.toList) : a = b := by
  rw [ByteArray.toList_eq, ByteArray.toList_eq] at h
  exact ByteArray.ext (Array.toList_inj.1 h)
def hasA (l : List DAttr) (nm : ByteArray) : Bool := decide (0 ≤ findA l nm)
theorem has_iff {l : List DAttr} {nm : ByteArray} : hasA l nm = true ↔ ∃ a ∈ l, a.1 = nm := by
  unfold hasA
  rw [decide_eq_true_eq]
  rcases findA_cases l nm with ⟨e, h⟩ | ⟨i, a, e, h1, h2⟩
  · rw [e]
    exact ⟨fun h => by omega, fun ⟨a, ha, he⟩ => absurd (by rw [he]) (h a ha)⟩
  · rw [e]
    exact ⟨fun _ => ⟨a, List.mem_of_getElem? h1, ba_eq h2⟩, fun _ => by omega⟩
/-- Is it in the list? -/
def inA (l : List DAttr) (a : DAttr) : Bool := l.any fun b => b.1.toList == a.1.toList && b.2.toList == a.2.toList
theorem in_iff {l : List DAttr} {a : DAttr} : inA l a = true ↔ a ∈ l := by
  unfold inA
  rw [List.any_eq_true]
  constructor
  · rintro ⟨b, hb, h⟩
    rw [Bool.and_eq_true, beq_iff_eq, beq_iff_eq] at h
    have : b = a := Prod.ext (ba_eq h.1) (ba_eq h.2)
    exact this ▸ hb
  · intro h
    exact ⟨a, h, by simp⟩
/-- What stays of a list, by another. -/
def keepA (l m : List DAttr) : List DAttr := l.filter fun a => hasA m a.1
theorem keep_all {l m : List DAttr} (h : ∀ a ∈ l, ∃ b ∈ m, b.1 = a.1) : keepA l m = l := List.filter_eq_self.2 fun a ha => has_iff.2 (h a ha)
def namesA (l : List DAttr) : List ByteArray := l.map fun a => a.1
/-- What stays in both, in both orders. -/
def stayA (was will : List DAttr) : List DAttr := if namesA (keepA was will) = namesA (keepA will was) ∧ namesA (keepA will was) = namesA (will.take (keepA will was).length) then keepA was will else []
def dropE (n : Int) (a : DAttr) : Edt := ⟨2, n, 0, 0, a.1, ⟨#[]⟩, ⟨0, ⟨#[]⟩, [], ⟨#[]⟩, 0, []⟩⟩
def attrE (n : Int) (a : DAttr) : Edt := ⟨1, n, 0, 0, a.1, a.2, ⟨0, ⟨#[]⟩, [], ⟨#[]⟩, 0, []⟩⟩
def textE (n : Int) (v : ByteArray) : Edt := ⟨3, n, 0, 0, ⟨#[]⟩, v, ⟨0, ⟨#[]⟩, [], ⟨#[]⟩, 0, []⟩⟩
def attrsE2 (n : Int) (was will : List DAttr) : List Edt :=
  ((was.filter fun a => !hasA (stayA was will) a.1).map (dropE n)) ++ ((will.filter fun a => !inA (stayA was will) a).map (attrE n))
/-- At most the last one goes. -/
def LastA (l m : List DAttr) : Prop := ∀ (i : Nat) a, l[i]? = some a → i + 1 < l.length → hasA m a.1 = true
theorem last_all2 {l m : List DAttr} (h : ∀ a ∈ l, ∃ b ∈ m, b.1 = a.1) : LastA l m := fun _ a ha _ => has_iff.2 (h a (List.mem_of_getElem? ha))
theorem stay_of {was will : List DAttr} (h1 : keepA was will = was) (h2 : keepA will was = will) (h3 : namesA was = namesA will) : stayA was will = was := by
  unfold stayA
  rw [h1, h2, List.take_length]
  exact if_pos ⟨h3, rfl⟩
theorem drop_none {was : List DAttr} : was.filter (fun a => !hasA was a.1) = [] := List.filter_eq_nil_iff.2 fun a ha => by
  have : hasA was a.1 = true := has_iff.2 ⟨a, ha, rfl⟩
  simp [this]
theorem attr_none {was : List DAttr} : was.filter (fun a => !inA was a) = [] := List.filter_eq_nil_iff.2 fun a ha => by simp [in_iff.2 ha]
theorem attrs_same (n : Int) (was : List DAttr) : attrsE2 n was was = [] := by
  have h : keepA was was = was := keep_all fun a ha => ⟨a, ha, rfl⟩
  unfold attrsE2
  rw [stay_of h h rfl, drop_none, attr_none]
  rfl
theorem attrs_new (n : Int) {was : List DAttr} {a : DAttr} (h : ∀ b ∈ was, b.1 ≠ a.1) : attrsE2 n was (was ++ [a]) = [attrE n a] ∧ LastA was (was ++ [a]) ∧ LastA (was ++ [a]) was := by
  have h1 : ∀ b ∈ was, ∃ c ∈ was ++ [a], c.1 = b.1 := fun b hb => ⟨b, List.mem_append_left _ hb, rfl⟩
  have h2 : keepA (was ++ [a]) was = was := by
    unfold keepA
    rw [List.filter_append]
    rw [show was.filter (fun a => hasA was a.1) = was from keep_all fun a ha => ⟨a, ha, rfl⟩]
    have : hasA was a.1 = false := by
      rw [← Bool.not_eq_true, has_iff]
      rintro ⟨b, hb, e⟩
      exact h b hb e
    simp [this]
  have hs : stayA was (was ++ [a]) = was := by
    unfold stayA
    rw [keep_all h1, h2, List.take_left']
    · exact if_pos ⟨rfl, rfl⟩
    · rfl
  have hna : inA was a = false := by rw [← Bool.not_eq_true, in_iff]; exact fun hm => h a hm rfl
  refine ⟨?_, last_all2 h1, fun i b hb hi => ?_⟩
  · unfold attrsE2
    rw [hs, drop_none, List.filter_append, attr_none]
    simp [hna]
  · rw [List.length_append, List.length_singleton] at hi
    rw [List.getElem?_append_left (by omega)] at hb
    exact has_iff.2 ⟨b, List.mem_of_getElem? hb, rfl⟩
theorem attrs_last (n : Int) {will : List DAttr} {a : DAttr} (h : ∀ b ∈ will, b.1 ≠ a.1) : attrsE2 n (will ++ [a]) will = [dropE n a] ∧ LastA (will ++ [a]) will ∧ LastA will (will ++ [a]) := by
  have h1 : ∀ b ∈ will, ∃ c ∈ will ++ [a], c.1 = b.1 := fun b hb => ⟨b, List.mem_append_left _ hb, rfl⟩
  have hn : hasA will a.1 = false := by
    rw [← Bool.not_eq_true, has_iff]
    rintro ⟨b, hb, e⟩
    exact h b hb e
  have h2 : keepA (will ++ [a]) will = will := by
    unfold keepA
    rw [List.filter_append]
    rw [show will.filter (fun a => hasA will a.1) = will from keep_all fun a ha => ⟨a, ha, rfl⟩]
    simp [hn]
  have hs : stayA (will ++ [a]) will = will := by
    unfold stayA
    rw [h2, keep_all h1, List.take_length]
    exact if_pos ⟨rfl, rfl⟩
  refine ⟨?_, fun i b hb hi => ?_, last_all2 h1⟩
  · unfold attrsE2
    rw [hs, attr_none, List.filter_append, drop_none]
    simp [hn]
  · rw [List.length_append, List.length_singleton] at hi
    rw [List.getElem?_append_left (by omega)] at hb
    exact has_iff.2 ⟨b, List.mem_of_getElem? hb, rfl⟩
theorem attrs_set (n : Int) {was : List DAttr} (hu : (was.map fun a => a.1.toList).Nodup) {i : Nat} {u v nm : ByteArray} (hi : was[i]? = some (nm, u)) :
    (attrsE2 n was (was.set i (nm, v)) = if u = v then [] else [attrE n (nm, v)]) ∧ LastA was (was.set i (nm, v)) ∧ LastA (was.set i (nm, v)) was := by
  have hl := (List.getElem?_eq_some_iff.1 hi).1
  have hnames : namesA (was.set i (nm, v)) = namesA was := by
    unfold namesA
    rw [List.map_set]
    refine List.ext_getElem? fun j => ?_
    rw [List.getElem?_set]
    split
    · rename_i e
      subst e
      rw [List.length_map, if_pos hl, List.getElem?_map, hi]
      rfl
    · rfl
  have hto : ∀ {l m : List DAttr}, namesA l = namesA m → ∀ a ∈ l, ∃ b ∈ m, b.1 = a.1 := fun {l m} e a ha => by
    have : a.1 ∈ namesA m := by rw [← e]; exact List.mem_map.2 ⟨a, ha, rfl⟩
    exact List.mem_map.1 this
  have h1 := hto hnames.symm
  have h2 := hto hnames
  have hs : stayA was (was.set i (nm, v)) = was := stay_of (keep_all h1) (keep_all h2) hnames.symm
  refine ⟨?_, last_all2 h1, last_all2 h2⟩
  unfold attrsE2
  rw [hs, drop_none]
  by_cases e : u = v
  · subst e
    rw [if_pos rfl]
    have : was.set i (nm, u) = was := by
      refine List.ext_getElem? fun j => ?_
      rw [List.getElem?_set]
      split
      · rename_i e; subst e; simp [hl]; exact (List.getElem?_eq_some_iff.1 hi).2.symm
      · rfl
    rw [this, attr_none]
    rfl
  · rw [if_neg e]
    have hna : inA was (nm, v) = false := by
      rw [← Bool.not_eq_true, in_iff]
      intro hm
      obtain ⟨j, hj⟩ := List.mem_iff_getElem?.1 hm
      have hjl := (List.getElem?_eq_some_iff.1 hj).1
      have e1 : (was.map fun a => a.1.toList)[i]? = some nm.toList := by rw [List.getElem?_map, hi]; rfl
      have e2 : (was.map fun a => a.1.toList)[j]? = some nm.toList := by rw [List.getElem?_map, hj]; rfl
      have hij : i = j := (List.getElem?_inj (by rw [List.length_map]; exact hl) hu).1 (e1.trans e2.symm)
      subst hij
      rw [hi] at hj
      injection hj with hj
      injection hj with _ hj
      exact e hj
    have hset : was.set i (nm, v) = was.take i ++ (nm, v) :: was.drop (i + 1) := by rw [List.set_eq_take_append_cons_drop, if_pos hl]
    rw [hset, List.filter_append, List.filter_cons]
    have f1 : (was.take i).filter (fun a => !inA was a) = [] := List.filter_eq_nil_iff.2 fun a ha => by simp [in_iff.2 (List.mem_of_mem_take ha)]
    have f2 : (was.drop (i + 1)).filter (fun a => !inA was a) = [] := List.filter_eq_nil_iff.2 fun a ha => by simp [in_iff.2 (List.mem_of_mem_drop ha)]
    rw [f1, f2]
    simp [hna]
end Go.Proofs.YtpbngckplbnahaaGreatDoor
