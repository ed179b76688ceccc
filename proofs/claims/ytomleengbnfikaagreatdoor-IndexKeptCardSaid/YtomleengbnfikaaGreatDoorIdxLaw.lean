/-
Lists of words, each with nodes: what the index does to them (plain).
-/
import Derived.Test.YtomleengbnfikaaGreatDoorTreeB
import Derived.Sort.Walk0
namespace Go.Proofs.YtomleengbnfikaaGreatDoor
open Go.RowKit Go.Cl

/-- An entry of an index: a word, and nodes. -/
abbrev Ref := ByteArray × List Int
/-- The order of words. -/
def sL (a b : ByteArray) : Bool := Op.bytesLess a.toList b.toList
def cmpS (a b : ByteArray) : Int := if sL a b = true then -1 else if sL b a = true then 1 else 0
theorem bl_irr : ∀ a : List UInt8, Op.bytesLess a a = false
  | [] => rfl
  | x :: r => by rw [Op.bytesLess, bl_irr r]; simp
theorem bl_trans : ∀ a b c : List UInt8, Op.bytesLess a b = true → Op.bytesLess b c = true → Op.bytesLess a c = true := by
  intro a b c
  rw [bytesLess_eq, bytesLess_eq, bytesLess_eq]
  simp only [decide_eq_true_eq]
  exact fun h1 h2 => List.lt_trans h1 h2
theorem bl_tri : ∀ a b : List UInt8, Op.bytesLess a b = false → Op.bytesLess b a = false → a = b
  | [], [] => fun _ _ => rfl
  | [], _ :: _ => fun h _ => by simp [Op.bytesLess] at h
  | _ :: _, [] => fun _ h => by simp [Op.bytesLess] at h
  | x :: r, y :: s => fun h1 h2 => by
    rw [bytesLess_eq] at h1 h2
    simp only [List.cons_lt_cons_iff, decide_eq_false_iff_not, not_or, not_and] at h1 h2
    have e : x = y := by
      rcases Nat.lt_trichotomy x.toNat y.toNat with h | h | h
      · exact absurd (UInt8.lt_iff_toNat_lt.2 h) h1.1
      · exact UInt8.toNat_inj.1 h
      · exact absurd (UInt8.lt_iff_toNat_lt.2 h) h2.1
    subst e
    rw [bl_tri r s (by rw [bytesLess_eq]; simpa using h1.2 rfl) (by rw [bytesLess_eq]; simpa using h2.2 rfl)]
theorem sL_irr (a : ByteArray) : sL a a = false := bl_irr _
theorem sL_trans {a b c : ByteArray} (h1 : sL a b = true) (h2 : sL b c = true) : sL a c = true := bl_trans _ _ _ h1 h2
theorem ba_ext {a b : ByteArray} (h : a.toList = b.toList) : a = b := by
  rw [Lib.toList_data, Lib.toList_data] at h
  exact ByteArray.ext (Array.ext' h)
theorem sL_tri {a b : ByteArray} (h1 : sL a b = false) (h2 : sL b a = false) : a = b := ba_ext (bl_tri _ _ h1 h2)
theorem sL_asym {a b : ByteArray} (h : sL a b = true) : sL b a = false := by
  cases e : sL b a with
  | false => rfl
  | true => exact absurd (sL_trans h e) (by rw [sL_irr]; decide)
theorem cmpS_lt {a b : ByteArray} : cmpS a b < 0 ↔ sL a b = true := by
  unfold cmpS
  split
  · exact ⟨fun _ => by assumption, fun _ => by decide⟩
  · split
    · exact ⟨fun h => absurd h (by decide), fun h => absurd h (by assumption)⟩
    · exact ⟨fun h => absurd h (by decide), fun h => absurd h (by assumption)⟩
theorem cmpS_eq {a b : ByteArray} : cmpS a b = 0 ↔ a = b := by
  unfold cmpS
  constructor
  · intro h
    split at h
    · cases h
    · split at h
      · cases h
      · exact sL_tri (Bool.eq_false_iff.2 (by assumption)) (Bool.eq_false_iff.2 (by assumption))
  · rintro rfl
    rw [sL_irr]
    rfl

/-! ### the place in a list that rises -/
/-- How many of a list are ahead: where a search comes to. -/
def cntP {α : Type} (p : α → Bool) (l : List α) : Nat := l.countP p
/-- Those for which it holds stand ahead of the others. -/
def Mono {α : Type} (p : α → Bool) (l : List α) : Prop := ∀ (i j : Nat) (x y : α), i < j → l[i]? = some x → l[j]? = some y → p y = true → p x = true
theorem mono_cons {α : Type} {p : α → Bool} {x : α} {l : List α} (h : Mono p (x :: l)) : Mono p l ∧ (p x = false → ∀ y ∈ l, p y = false) := by
  refine ⟨fun i j a b hij ha hb => h (i + 1) (j + 1) a b (by omega) (by simpa using ha) (by simpa using hb), fun hx y hy => ?_⟩
  obtain ⟨k, hk⟩ := List.mem_iff_getElem?.1 hy
  cases e : p y with
  | false => rfl
  | true => exact absurd (h 0 (k + 1) x y (by omega) rfl (by simpa using hk) e) (by rw [hx]; decide)
theorem cnt_iff {α : Type} {p : α → Bool} : ∀ {l : List α}, Mono p l → ∀ (i : Nat) (x : α), l[i]? = some x → (p x = true ↔ i < l.countP p)
  | [], _, i, x, hx => by simp at hx
  | a :: l, h, i, x, hx => by
    obtain ⟨h1, h2⟩ := mono_cons h
    cases ea : p a with
    | false =>
      have hz : l.countP p = 0 := List.countP_eq_zero.2 fun y hy => by rw [h2 ea y hy]; decide
      rw [List.countP_cons, hz, ea]
      have : p x = false := by
        cases i with
        | zero => simp at hx; rw [← hx]; exact ea
        | succ i => exact h2 ea x (List.mem_of_getElem? (by simpa using hx))
      simp [this]
    | true =>
      rw [List.countP_cons, ea]
      cases i with
      | zero => simp at hx; subst hx; simp [ea]
      | succ i =>
        have := cnt_iff h1 i x (by simpa using hx)
        rw [this]
        simp
/-- A number that parts a list is the count. -/
theorem cnt_uniq {α : Type} {p : α → Bool} {l : List α} (h : Mono p l) {k : Nat} (hk : k ≤ l.length) (h1 : ∀ (i : Nat) x, i < k → l[i]? = some x → p x = true) (h2 : ∀ (i : Nat) x, k ≤ i → l[i]? = some x → p x = false) : l.countP p = k := by
  rcases Nat.lt_trichotomy (l.countP p) k with hl | hl | hl
  · obtain ⟨x, hx⟩ : ∃ x, l[l.countP p]? = some x := ⟨l[l.countP p]'(by omega), List.getElem?_eq_getElem _⟩
    exact absurd ((cnt_iff h _ x hx).1 (h1 _ x hl hx)) (by omega)
  · exact hl
  · have hle := List.countP_le_length (p := p) (l := l)
    obtain ⟨x, hx⟩ : ∃ x, l[k]? = some x := ⟨l[k]'(by omega), List.getElem?_eq_getElem _⟩
    have := (cnt_iff h _ x hx).2 hl
    rw [h2 _ x (Nat.le_refl _) hx] at this
    cases this

/-! ### words rise -/
def RSort (l : List Ref) : Prop := l.Pairwise fun x y => sL x.1 y.1 = true
def atR (l : List Ref) (w : ByteArray) : Nat := l.countP fun r => sL r.1 w
theorem rs_mono {l : List Ref} (h : RSort l) (w : ByteArray) : Mono (fun r : Ref => sL r.1 w) l := fun i j x y hij hx hy hp => by
  have hj : j < l.length := (List.getElem?_eq_some_iff.1 hy).1
  have := List.pairwise_iff_getElem.1 h i j (by omega) hj hij
  rw [List.getElem?_eq_getElem (by omega)] at hx
  rw [List.getElem?_eq_getElem hj] at hy
  obtain rfl := Option.some.inj hx
  obtain rfl := Option.some.inj hy
  exact sL_trans this hp
/-- Is the word there: then just at its place. -/
def hasR (l : List Ref) (w : ByteArray) : Bool := match l[atR l w]? with
  | some r => cmpS r.1 w == 0
  | none => false
theorem has_at {l : List Ref} {w : ByteArray} (h : hasR l w = true) : ∃ r, l[atR l w]? = some r ∧ r.1 = w := by
  unfold hasR at h
  cases e : l[atR l w]? with
  | none => rw [e] at h; cases h
  | some r => rw [e] at h; exact ⟨r, rfl, cmpS_eq.1 (by simpa using h)⟩
theorem has_not {l : List Ref} (hs : RSort l) {w : ByteArray} (h : hasR l w = false) {r : Ref} (hr : r ∈ l) : r.1 ≠ w := by
  rintro rfl
  obtain ⟨i, hi⟩ := List.mem_iff_getElem?.1 hr
  have h1 := cnt_iff (rs_mono hs r.1) i r hi
  rw [sL_irr] at h1
  have hge : ¬ i < atR l r.1 := fun hl => absurd (h1.2 hl) (by decide)
  have hil := (List.getElem?_eq_some_iff.1 hi).1
  obtain ⟨x, hx⟩ : ∃ x, l[atR l r.1]? = some x := ⟨l[atR l r.1]'(by omega), List.getElem?_eq_getElem _⟩
  by_cases he : atR l r.1 = i
  · rw [he, hi] at hx
    obtain rfl := Option.some.inj hx
    unfold hasR at h
    rw [he, hi] at h
    simp [cmpS, sL_irr] at h
  · have h2 := cnt_iff (rs_mono hs r.1) _ x hx
    have h3 : sL x.1 r.1 = false := by
      cases e : sL x.1 r.1 with
      | false => rfl
      | true => exact absurd (h2.1 e) (Nat.lt_irrefl _)
    have hal := (List.getElem?_eq_some_iff.1 hx).1
    have h4 := List.pairwise_iff_getElem.1 hs (atR l r.1) i hal hil (by omega)
    rw [(List.getElem?_eq_some_iff.1 hx).2, (List.getElem?_eq_some_iff.1 hi).2, h3] at h4
    cases h4
/-- Something put into a list at a place. -/
def ins {α : Type} (i : Nat) (x : α) (l : List α) : List α := l.take i ++ x :: l.drop i
theorem mem_ins {α : Type} {i : Nat} {x y : α} {l : List α} : y ∈ ins i x l ↔ y = x ∨ y ∈ l := by
  unfold ins
  rw [List.mem_append, List.mem_cons]
  constructor
  · rintro (h | h | h)
    · exact Or.inr (List.mem_of_mem_take h)
    · exact Or.inl h
    · exact Or.inr (List.mem_of_mem_drop h)
  · rintro (h | h)
    · exact Or.inr (Or.inl h)
    · rw [← List.take_append_drop i l, List.mem_append] at h
      rcases h with h | h
      · exact Or.inl h
      · exact Or.inr (Or.inr h)
theorem ins_len {α : Type} {i : Nat} {x : α} {l : List α} : (ins i x l).length = l.length + 1 := by
  unfold ins
  rw [List.length_append, List.length_cons, ← Nat.add_assoc, ← List.length_append, List.take_append_drop]
theorem ins_pair {α : Type} {R : α → α → Prop} {i : Nat} {x : α} {l : List α} (h : l.Pairwise R) (h1 : ∀ y ∈ l.take i, R y x) (h2 : ∀ y ∈ l.drop i, R x y) : (ins i x l).Pairwise R := by
  unfold ins
  rw [List.pairwise_append, List.pairwise_cons]
  refine ⟨h.sublist (List.take_sublist _ _), ⟨h2, h.sublist (List.drop_sublist _ _)⟩, fun a ha b hb => ?_⟩
  rcases List.mem_cons.1 hb with rfl | hb
  · exact h1 a ha
  · have := h
    rw [← List.take_append_drop i l, List.pairwise_append] at this
    exact this.2.2 a ha b hb
/-- Nodes by their rank. -/
def rkAt (rk : Int → Int) (ns : List Int) (n : Int) : Nat := ns.countP fun m => decide (rk m < rk n)
def NSort (rk : Int → Int) (ns : List Int) : Prop := ns.Pairwise fun a b => rk a ≤ rk b
theorem ns_mono {rk : Int → Int} {ns : List Int} (h : NSort rk ns) (n : Int) : Mono (fun m => decide (rk m < rk n)) ns := fun i j x y hij hx hy hp => by
  have hj : j < ns.length := (List.getElem?_eq_some_iff.1 hy).1
  have := List.pairwise_iff_getElem.1 h i j (by omega) hj hij
  rw [List.getElem?_eq_getElem (by omega)] at hx
  rw [List.getElem?_eq_getElem hj] at hy
  obtain rfl := Option.some.inj hx
  obtain rfl := Option.some.inj hy
  simp only [decide_eq_true_eq] at hp ⊢
  omega
theorem ns_ins {rk : Int → Int} {ns : List Int} (h : NSort rk ns) (n : Int) : NSort rk (ins (rkAt rk ns n) n ns) := by
  refine ins_pair h (fun y hy => ?_) fun y hy => ?_
  · obtain ⟨i, hi⟩ := List.mem_iff_getElem?.1 hy
    have hil := (List.getElem?_eq_some_iff.1 hi).1
    rw [List.length_take] at hil
    rw [List.getElem?_take_of_lt (by omega)] at hi
    have := (cnt_iff (ns_mono h n) i y hi).2 (by unfold rkAt at hil; omega)
    simp at this
    omega
  · obtain ⟨i, hi⟩ := List.mem_iff_getElem?.1 hy
    rw [List.getElem?_drop] at hi
    have := mt (cnt_iff (ns_mono h n) _ y hi).1 (by unfold rkAt; omega)
    simp at this
    omega
/-- Put a node by a word. -/
def putR (rk : Int → Int) (l : List Ref) (w : ByteArray) (n : Int) : List Ref :=
  if hasR l w = true then l.set (atR l w) (w, ins (rkAt rk (l[atR l w]?.getD (w, [])).2 n) n (l[atR l w]?.getD (w, [])).2)
  else ins (atR l w) (w, [n]) l
/-- What always holds of a list. -/
structure ROk (rk : Int → Int) (l : List Ref) : Prop where
  up : RSort l
  ns : ∀ r ∈ l, NSort rk r.2
theorem ROk.nil (rk : Int → Int) : ROk rk [] := ⟨List.Pairwise.nil, fun r h => by simp at h⟩
theorem set_pair {α : Type} {R : α → α → Prop} {i : Nat} {x y : α} {l : List α} (h : l.Pairwise R) (hx : l[i]? = some x) (h1 : ∀ z, R z x → R z y) (h2 : ∀ z, R x z → R y z) : (l.set i y).Pairwise R := by
  rw [List.pairwise_iff_getElem] at h ⊢
  intro a b ha hb hab
  rw [List.length_set] at ha hb
  have hil := (List.getElem?_eq_some_iff.1 hx).1
  rw [List.getElem?_eq_getElem hil] at hx
  obtain rfl := Option.some.inj hx
  rw [List.getElem_set, List.getElem_set]
  split <;> split
  · omega
  · rename_i e1 e2; subst e1; exact h2 _ (h _ b hil hb hab)
  · rename_i e1 e2; subst e2; exact h1 _ (h a _ ha hil hab)
  · exact h a b ha hb hab
theorem ROk.put {rk : Int → Int} {l : List Ref} (h : ROk rk l) (w : ByteArray) (n : Int) : ROk rk (putR rk l w n) := by
  unfold putR
  split
  · rename_i hh
    obtain ⟨r, hr, he⟩ := has_at hh
    rw [hr]
    refine ⟨set_pair h.up hr (fun z hz => ?_) (fun z hz => ?_), fun x hx => ?_⟩
    · show sL z.1 w = true; rw [← he]; exact hz
    · show sL w z.1 = true; rw [← he]; exact hz
    · rcases List.mem_or_eq_of_mem_set hx with hx | rfl
      · exact h.ns x hx
      · exact ns_ins (h.ns r (List.mem_of_getElem? hr)) n
  · rename_i hh
    have hh := Bool.eq_false_iff.2 hh
    refine ⟨ins_pair h.up (fun y hy => ?_) fun y hy => ?_, fun x hx => ?_⟩
    · obtain ⟨i, hi⟩ := List.mem_iff_getElem?.1 hy
      have hil := (List.getElem?_eq_some_iff.1 hi).1
      rw [List.length_take] at hil
      rw [List.getElem?_take_of_lt (by omega)] at hi
      exact (cnt_iff (rs_mono h.up w) i y hi).2 (by unfold atR at hil; omega)
    · obtain ⟨i, hi⟩ := List.mem_iff_getElem?.1 hy
      rw [List.getElem?_drop] at hi
      have h1 := mt (cnt_iff (rs_mono h.up w) _ y hi).1 (by unfold atR; omega)
      have h2 := has_not h.up hh (List.mem_of_getElem? hi)
      cases e : sL w y.1 with
      | true => rfl
      | false => exact absurd (sL_tri (Bool.eq_false_iff.2 h1) e) h2
    · rcases mem_ins.1 hx with rfl | hx
      · exact List.pairwise_singleton _ _
      · exact h.ns x hx
/-- All nodes, entry by entry. -/
def allN (l : List Ref) : Nat := (l.map fun r => r.2.length).sum
theorem sum_set {l : List Nat} {i a b : Nat} (h : l[i]? = some a) : (l.set i b).sum + a = l.sum + b := by
  induction l generalizing i with
  | nil => simp at h
  | cons x r ih =>
    cases i with
    | zero => simp at h; subst h; simp; omega
    | succ i => simp at h ⊢; have := ih h; omega
theorem put_all {rk : Int → Int} {l : List Ref} {w : ByteArray} {n : Int} : allN (putR rk l w n) = allN l + 1 := by
  unfold putR allN
  split
  · rename_i hh
    obtain ⟨r, hr, he⟩ := has_at hh
    rw [hr, List.map_set]
    have h2 : (l.map fun r => r.2.length)[atR l w]? = some r.2.length := by rw [List.getElem?_map, hr]; rfl
    have := sum_set (b := (ins (rkAt rk r.2 n) n r.2).length) h2
    rw [ins_len] at this
    show ((l.map fun r => r.2.length).set (atR l w) (ins (rkAt rk r.2 n) n r.2).length).sum = _
    rw [ins_len]
    omega
  · unfold ins
    conv => rhs; rw [← List.take_append_drop (atR l w) l]
    simp only [List.map_append, List.map_cons, List.sum_append, List.sum_cons, List.length_cons, List.length_nil]
    omega
/-- Which word stands by which node. -/
def Has (l : List Ref) (w : ByteArray) (n : Int) : Prop := ∃ r ∈ l, r.1 = w ∧ n ∈ r.2
theorem put_has {rk : Int → Int} {l : List Ref} {w : ByteArray} {n : Int} (w' : ByteArray) (n' : Int) : Has (putR rk l w n) w' n' ↔ Has l w' n' ∨ (w' = w ∧ n' = n) := by
  unfold putR Has
  split
  · rename_i hh
    obtain ⟨r, hr, he⟩ := has_at hh
    rw [hr]
    show (∃ x ∈ l.set (atR l w) (w, ins (rkAt rk r.2 n) n r.2), _) ↔ _
    have hil := (List.getElem?_eq_some_iff.1 hr).1
    constructor
    · rintro ⟨x, hx, h1, h2⟩
      rcases List.mem_or_eq_of_mem_set hx with hx | rfl
      · exact Or.inl ⟨x, hx, h1, h2⟩
      · rcases mem_ins.1 h2 with rfl | h2
        · exact Or.inr ⟨h1.symm, rfl⟩
        · exact Or.inl ⟨r, List.mem_of_getElem? hr, he.trans h1, h2⟩
    · rintro (⟨x, hx, h1, h2⟩ | ⟨rfl, rfl⟩)
      · obtain ⟨i, hi⟩ := List.mem_iff_getElem?.1 hx
        by_cases e : i = atR l w
        · subst e
          rw [hr] at hi
          obtain rfl := Option.some.inj hi
          exact ⟨(w, ins (rkAt rk _ n) n _), List.mem_set hil _, he.symm.trans h1, mem_ins.2 (Or.inr h2)⟩
        · exact ⟨x, List.mem_of_getElem? (i := i) (by rw [List.getElem?_set_ne (Ne.symm e)]; exact hi), h1, h2⟩
      · exact ⟨_, List.mem_set hil _, rfl, mem_ins.2 (Or.inl rfl)⟩
  · constructor
    · rintro ⟨x, hx, h1, h2⟩
      rcases mem_ins.1 hx with rfl | hx
      · exact Or.inr ⟨h1.symm, by simpa using h2⟩
      · exact Or.inl ⟨x, hx, h1, h2⟩
    · rintro (⟨x, hx, h1, h2⟩ | ⟨rfl, rfl⟩)
      · exact ⟨x, mem_ins.2 (Or.inr hx), h1, h2⟩
      · exact ⟨_, mem_ins.2 (Or.inl rfl), rfl, by simp⟩
end Go.Proofs.YtomleengbnfikaaGreatDoor
