/-
An index is what its pairs of a word and a node are: canonical lists (plain).
-/
import Derived.Test.YtomleengbnfikaaGreatDoorIdxTurn
namespace Go.Proofs.YtomleengbnfikaaGreatDoor
open Go.RowKit Go.Cl

/-- Two lists that rise, with the same members, are one. -/
theorem rise_ext {α : Type} {R : α → α → Prop} (irr : ∀ a, ¬ R a a) (asy : ∀ a b, R a b → ¬ R b a) : ∀ (l l' : List α), l.Pairwise R → l'.Pairwise R → (∀ x, x ∈ l ↔ x ∈ l') → l = l'
  | [], [], _, _, _ => rfl
  | [], y :: s, _, _, h => by have := (h y).2 (List.mem_cons_self ..); simp at this
  | x :: r, [], _, _, h => by have := (h x).1 (List.mem_cons_self ..); simp at this
  | x :: r, y :: s, h1, h2, h => by
    obtain ⟨p1, q1⟩ := List.pairwise_cons.1 h1
    obtain ⟨p2, q2⟩ := List.pairwise_cons.1 h2
    have e : x = y := by
      rcases List.mem_cons.1 ((h x).1 (List.mem_cons_self ..)) with e | e
      · exact e
      · rcases List.mem_cons.1 ((h y).2 (List.mem_cons_self ..)) with e2 | e2
        · exact e2.symm
        · exact absurd (p1 y e2) (asy _ _ (p2 x e))
    subst e
    congr 1
    refine rise_ext irr asy r s q1 q2 fun z => ⟨fun hz => ?_, fun hz => ?_⟩
    · rcases List.mem_cons.1 ((h z).1 (List.mem_cons_of_mem _ hz)) with e | e
      · subst e; exact absurd (p1 _ hz) (irr _)
      · exact e
    · rcases List.mem_cons.1 ((h z).2 (List.mem_cons_of_mem _ hz)) with e | e
      · subst e; exact absurd (p2 _ hz) (irr _)
      · exact e
/-- A list that is just what its pairs are. -/
structure Can (rk : Int → Int) (Q : ByteArray → Int → Prop) (l : List Ref) : Prop where
  up : RSort l
  ns : ∀ r ∈ l, r.2.Pairwise fun a b => rk a < rk b
  ne : ∀ r ∈ l, 0 < r.2.length
  has : ∀ w n, Has l w n ↔ Q w n
theorem Can.ok {rk : Int → Int} {Q : ByteArray → Int → Prop} {l : List Ref} (h : Can rk Q l) : ROk rk l := ⟨h.up, fun r hr => (h.ns r hr).imp fun h => Int.le_of_lt h⟩
theorem Can.nil (rk : Int → Int) : Can rk (fun _ _ => False) [] := ⟨List.Pairwise.nil, fun r h => by simp at h, fun r h => by simp at h, fun w n => ⟨fun ⟨r, h, _⟩ => by simp at h, fun h => h.elim⟩⟩
theorem Can.congr {rk : Int → Int} {Q Q' : ByteArray → Int → Prop} {l : List Ref} (h : Can rk Q l) (he : ∀ w n, Q w n ↔ Q' w n) : Can rk Q' l := ⟨h.up, h.ns, h.ne, fun w n => (h.has w n).trans (he w n)⟩
/-- Other ranks, in the same order. -/
theorem Can.turn {rk rk' : Int → Int} {Q : ByteArray → Int → Prop} {l : List Ref} (h : Can rk Q l) (hr : ∀ w w' a b, Q w a → Q w' b → rk a < rk b → rk' a < rk' b) : Can rk' Q l :=
  ⟨h.up, fun r hm => by
    have hh : ∀ a ∈ r.2, Q r.1 a := fun a ha => (h.has r.1 a).1 ⟨r, hm, rfl, ha⟩
    exact (h.ns r hm).imp_of_mem fun ha hb hab => hr _ _ _ _ (hh _ ha) (hh _ hb) hab, h.ne, h.has⟩
theorem rs_word {l : List Ref} (h : RSort l) {x y : Ref} (hx : x ∈ l) (hy : y ∈ l) (e : x.1 = y.1) : x = y := by
  obtain ⟨i, hi⟩ := List.mem_iff_getElem?.1 hx
  obtain ⟨j, hj⟩ := List.mem_iff_getElem?.1 hy
  have hi2 := (List.getElem?_eq_some_iff.1 hi).1
  have hj2 := (List.getElem?_eq_some_iff.1 hj).1
  have key : ∀ i j : Nat, ∀ x y : Ref, l[i]? = some x → l[j]? = some y → x.1 = y.1 → ¬ i < j := fun i j x y hi hj e hij => by
    have hi2 := (List.getElem?_eq_some_iff.1 hi).1
    have hj2 := (List.getElem?_eq_some_iff.1 hj).1
    have := List.pairwise_iff_getElem.1 h i j hi2 hj2 hij
    rw [(List.getElem?_eq_some_iff.1 hi).2, (List.getElem?_eq_some_iff.1 hj).2, e, sL_irr] at this
    cases this
  have e2 : i = j := by
    rcases Nat.lt_trichotomy i j with h1 | h1 | h1
    · exact absurd h1 (key i j x y hi hj e)
    · exact h1
    · exact absurd h1 (key j i y x hj hi e.symm)
  subst e2
  rw [hi] at hj
  exact Option.some.inj hj
theorem Can.uniq {rk : Int → Int} {Q : ByteArray → Int → Prop} {l l' : List Ref} (h : Can rk Q l) (h' : Can rk Q l') : l = l' := by
  have entry : ∀ {l l' : List Ref}, Can rk Q l → Can rk Q l' → ∀ r ∈ l, r ∈ l' := fun {l l'} h h' r hr => by
    obtain ⟨a, ha⟩ := List.exists_mem_of_length_pos (h.ne r hr)
    obtain ⟨r', hr', e, _⟩ := (h'.has r.1 a).2 ((h.has r.1 a).1 ⟨r, hr, rfl, ha⟩)
    have hn : r.2 = r'.2 := by
      refine rise_ext (R := fun a b : Int => rk a < rk b) (fun a => Int.lt_irrefl _) (fun a b h1 h2 => by omega) _ _ (h.ns r hr) (h'.ns r' hr') fun z => ⟨fun hz => ?_, fun hz => ?_⟩
      · obtain ⟨r2, hr2, e2, hz2⟩ := (h'.has r.1 z).2 ((h.has r.1 z).1 ⟨r, hr, rfl, hz⟩)
        rw [rs_word h'.up hr' hr2 (e.trans e2.symm)]
        exact hz2
      · obtain ⟨r2, hr2, e2, hz2⟩ := (h.has r'.1 z).2 ((h'.has r'.1 z).1 ⟨r', hr', rfl, hz⟩)
        rw [rs_word h.up hr hr2 (e.symm.trans e2.symm)]
        exact hz2
    have : r = r' := Prod.ext e.symm hn
    rw [this]; exact hr'
  refine rise_ext (R := fun x y : Ref => sL x.1 y.1 = true) (fun a ha => by rw [sL_irr] at ha; cases ha) (fun a b h1 h2 => by rw [sL_asym h1] at h2; cases h2) l l' h.up h'.up fun r => ⟨entry h h' r, entry h' h r⟩
theorem put_mem {rk : Int → Int} {l : List Ref} {w : ByteArray} {n : Int} {r : Ref} (h : r ∈ putR rk l w n) : r ∈ l ∨ r = (w, [n]) ∨ ∃ r0 ∈ l, r0.1 = w ∧ r = (w, ins (rkAt rk r0.2 n) n r0.2) := by
  unfold putR at h
  split at h
  · rename_i hh
    obtain ⟨r0, hr0, he⟩ := has_at hh
    rw [hr0] at h
    rcases List.mem_or_eq_of_mem_set h with h | h
    · exact .inl h
    · exact .inr (.inr ⟨r0, List.mem_of_getElem? hr0, he, h⟩)
  · rcases mem_ins.1 h with h | h
    · exact .inr (.inl h)
    · exact .inl h
theorem ns_ins2 {rk : Int → Int} {ns : List Int} (h : ns.Pairwise fun a b => rk a < rk b) {n : Int} (hne : ∀ m ∈ ns, rk m ≠ rk n) : (ins (rkAt rk ns n) n ns).Pairwise fun a b => rk a < rk b := by
  have h0 : NSort rk ns := h.imp fun h => Int.le_of_lt h
  refine ins_pair h (fun y hy => ?_) fun y hy => ?_
  · obtain ⟨i, hi⟩ := List.mem_iff_getElem?.1 hy
    have hil := (List.getElem?_eq_some_iff.1 hi).1
    rw [List.length_take] at hil
    rw [List.getElem?_take_of_lt (by omega)] at hi
    have := (cnt_iff (ns_mono h0 n) i y hi).2 (by unfold rkAt at hil; omega)
    simpa using this
  · have hy0 := List.mem_of_mem_drop hy
    obtain ⟨i, hi⟩ := List.mem_iff_getElem?.1 hy
    rw [List.getElem?_drop] at hi
    have := mt (cnt_iff (ns_mono h0 n) _ y hi).1 (by unfold rkAt; omega)
    have h2 := hne y hy0
    simp at this
    omega
theorem Can.put {rk : Int → Int} {Q : ByteArray → Int → Prop} {l : List Ref} (h : Can rk Q l) {w : ByteArray} {n : Int} (hne : ∀ m, Q w m → rk m ≠ rk n) : Can rk (fun w' n' => Q w' n' ∨ (w' = w ∧ n' = n)) (putR rk l w n) := by
  refine ⟨(h.ok.put w n).up, fun r hr => ?_, put_ne h.ne, fun w' n' => ?_⟩
  · rcases put_mem hr with hr | rfl | ⟨r0, hr0, he, rfl⟩
    · exact h.ns r hr
    · exact List.pairwise_singleton _ _
    · exact ns_ins2 (h.ns r0 hr0) fun m hm => hne m ((h.has w m).1 ⟨r0, hr0, he, hm⟩)
  · rw [put_has, h.has]
/-- A node away from a word. -/
def dropR (l : List Ref) (w : ByteArray) (n : Int) : List Ref :=
  if hasR l w = true then
    if ((l[atR l w]?.getD (w, [])).2.filter fun m => decide (m ≠ n)).length = 0 then l.eraseIdx (atR l w) else l.set (atR l w) (w, (l[atR l w]?.getD (w, [])).2.filter fun m => decide (m ≠ n))
  else l
theorem erase_mem {α : Type} {l : List α} {i : Nat} {x : α} (h : x ∈ l.eraseIdx i) : ∃ j, j ≠ i ∧ l[j]? = some x := by
  obtain ⟨k, hk⟩ := List.mem_iff_getElem?.1 h
  rw [List.getElem?_eraseIdx] at hk
  split at hk
  · exact ⟨k, by omega, hk⟩
  · exact ⟨k + 1, by omega, hk⟩
theorem mem_erase_of {α : Type} {l : List α} {i j : Nat} {x : α} (hj : l[j]? = some x) (hne : j ≠ i) : x ∈ l.eraseIdx i := by
  rcases Nat.lt_or_ge j i with h | h
  · exact List.mem_of_getElem? (i := j) (by rw [List.getElem?_eraseIdx, if_pos h]; exact hj)
  · refine List.mem_of_getElem? (i := j - 1) ?_
    rw [List.getElem?_eraseIdx, if_neg (by omega), show j - 1 + 1 = j from by omega]
    exact hj
theorem Can.drop {rk : Int → Int} {Q : ByteArray → Int → Prop} {l : List Ref} (h : Can rk Q l) (w : ByteArray) (n : Int) : Can rk (fun w' n' => Q w' n' ∧ ¬ (w' = w ∧ n' = n)) (dropR l w n) := by
  unfold dropR
  by_cases hh : hasR l w = true
  · rw [if_pos hh]
    obtain ⟨r, hr, he⟩ := has_at hh
    rw [hr]
    show Can rk _ (if (r.2.filter fun m => decide (m ≠ n)).length = 0 then l.eraseIdx (atR l w) else l.set (atR l w) (w, r.2.filter fun m => decide (m ≠ n)))
    have hmem := List.mem_of_getElem? hr
    have hil := (List.getElem?_eq_some_iff.1 hr).1
    have other : ∀ (j : Nat) x, l[j]? = some x → j ≠ atR l w → x.1 ≠ w := fun j x hj hne e => by
      have e2 := rs_word h.up (List.mem_of_getElem? hj) hmem (e.trans he.symm)
      subst e2
      have key : ∀ i k : Nat, i < k → l[i]? = some x → l[k]? = some x → False := fun i k hik h1 h2 => by
        have := List.pairwise_iff_getElem.1 h.up i k (List.getElem?_eq_some_iff.1 h1).1 (List.getElem?_eq_some_iff.1 h2).1 hik
        rw [(List.getElem?_eq_some_iff.1 h1).2, (List.getElem?_eq_some_iff.1 h2).2, sL_irr] at this
        cases this
      rcases Nat.lt_trichotomy j (atR l w) with h1 | h1 | h1
      · exact key _ _ h1 hj hr
      · exact hne h1
      · exact key _ _ h1 hr hj
    split
    · rename_i h0
      have hall : ∀ m ∈ r.2, m = n := fun m hm => by
        have h1 := List.eq_nil_of_length_eq_zero h0
        rw [List.filter_eq_nil_iff] at h1
        simpa using h1 m hm
      refine ⟨h.up.sublist (List.eraseIdx_sublist _ _), fun x hx => h.ns x (List.mem_of_mem_eraseIdx hx), fun x hx => h.ne x (List.mem_of_mem_eraseIdx hx), fun w' n' => ?_⟩
      rw [← h.has]
      constructor
      · rintro ⟨x, hx, h1, h2⟩
        obtain ⟨j, hj, hjx⟩ := erase_mem hx
        exact ⟨⟨x, List.mem_of_getElem? hjx, h1, h2⟩, fun e => other j x hjx hj (h1.trans e.1)⟩
      · rintro ⟨⟨x, hx, h1, h2⟩, hne⟩
        obtain ⟨j, hj⟩ := List.mem_iff_getElem?.1 hx
        refine ⟨x, mem_erase_of hj (fun e => ?_), h1, h2⟩
        rw [e, hr] at hj
        obtain rfl := Option.some.inj hj
        exact hne ⟨h1.symm.trans he, hall _ h2⟩
    · rename_i h0
      refine ⟨set_pair h.up hr (fun z hz => by show sL z.1 w = true; rw [← he]; exact hz) (fun z hz => by show sL w z.1 = true; rw [← he]; exact hz), fun x hx => ?_, fun x hx => ?_, fun w' n' => ?_⟩
      · rcases List.mem_or_eq_of_mem_set hx with hx | rfl
        · exact h.ns x hx
        · exact (h.ns r hmem).filter _
      · rcases List.mem_or_eq_of_mem_set hx with hx | rfl
        · exact h.ne x hx
        · exact Nat.pos_of_ne_zero h0
      · rw [← h.has]
        constructor
        · rintro ⟨x, hx, h1, h2⟩
          obtain ⟨j, hj⟩ := List.mem_iff_getElem?.1 hx
          by_cases e : j = atR l w
          · subst e
            rw [List.getElem?_set_self hil] at hj
            obtain rfl := Option.some.inj hj
            have h3 := List.mem_filter.1 h2
            exact ⟨⟨r, hmem, he.trans h1, h3.1⟩, fun e => by have := h3.2; simp at this; exact this e.2⟩
          · rw [List.getElem?_set_ne (Ne.symm e)] at hj
            exact ⟨⟨x, List.mem_of_getElem? hj, h1, h2⟩, fun e2 => other j x hj e (h1.trans e2.1)⟩
        · rintro ⟨⟨x, hx, h1, h2⟩, hne⟩
          obtain ⟨j, hj⟩ := List.mem_iff_getElem?.1 hx
          by_cases e : j = atR l w
          · rw [e, hr] at hj
            obtain rfl := Option.some.inj hj
            refine ⟨_, List.mem_set hil _, he.symm.trans h1, List.mem_filter.2 ⟨h2, ?_⟩⟩
            simp only [decide_eq_true_eq]
            exact fun e2 => hne ⟨h1.symm.trans he, e2⟩
          · exact ⟨x, List.mem_of_getElem? (i := j) (by rw [List.getElem?_set_ne (Ne.symm e)]; exact hj), h1, h2⟩
  · rw [if_neg hh]
    refine h.congr fun w' n' => ⟨fun hq => ⟨hq, fun e => ?_⟩, fun hq => hq.1⟩
    obtain ⟨r, hr, h1, _⟩ := (h.has w' n').2 hq
    exact has_not h.up (Bool.eq_false_iff.2 hh) hr (h1.trans e.1)
theorem filter_sum {l : List Ref} {w : ByteArray} {n : Int} : allN (dropR l w n) ≤ allN l := by
  unfold dropR
  split
  · rename_i hh
    obtain ⟨r, hr, he⟩ := has_at hh
    rw [hr]
    show allN (if (r.2.filter fun m => decide (m ≠ n)).length = 0 then l.eraseIdx (atR l w) else l.set (atR l w) (w, r.2.filter fun m => decide (m ≠ n))) ≤ _
    have h2 : (l.map fun r => r.2.length)[atR l w]? = some r.2.length := by rw [List.getElem?_map, hr]; rfl
    split
    · have hil := (List.getElem?_eq_some_iff.1 hr).1
      rw [List.eraseIdx_eq_take_drop_succ]
      conv => rhs; rw [← List.take_append_drop (atR l w) l, List.drop_eq_getElem_cons hil]
      unfold allN
      simp only [List.map_append, List.map_cons, List.sum_append, List.sum_cons]
      omega
    · unfold allN
      have := sum_set (b := (r.2.filter fun m => decide (m ≠ n)).length) h2
      rw [List.map_set]
      have h3 := List.length_filter_le (fun m => decide (m ≠ n)) r.2
      show ((l.map fun r => r.2.length).set (atR l w) (r.2.filter fun m => decide (m ≠ n)).length).sum ≤ _
      omega
  · exact Nat.le_refl _
end Go.Proofs.YtomleengbnfikaaGreatDoor
