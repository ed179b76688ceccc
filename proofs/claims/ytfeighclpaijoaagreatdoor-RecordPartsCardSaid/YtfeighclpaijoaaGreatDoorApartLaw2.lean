/-
An insert behind an edit that it does not meet. No program in sight.
-/
import Derived.Test.YtfeighclpaijoaaGreatDoorApartLaw
namespace Go.Proofs.YtfeighclpaijoaaGreatDoor
open Go.RowKit Go.Cl

theorem parD_none {l : List Nd} {z : Int} (h : nodeAt l z = none) : parD l z = -1 := by
  refine parD_out ?_
  unfold nodeAt at h
  by_cases h1 : z < 0
  · exact Or.inl h1
  · rw [if_neg h1] at h
    have := List.getElem?_eq_none_iff.1 h
    exact Or.inr (by omega)
theorem parD_same {l l' : List Nd} {z : Int} (h : nodeAt l' z = nodeAt l z) : parD l' z = parD l z := by
  cases hx : nodeAt l z with
  | none => rw [parD_none hx, parD_none (h.trans hx)]
  | some x => rw [parD_node hx, parD_node (h.trans hx)]
theorem nodeAt_self {l : List Nd} {n : Int} {x : Nd} (h : nodeAt l n = some x) (f : Nd → Nd) : nodeAt (setAt l n f) n = some (f x) := by
  obtain ⟨a, rfl, ha⟩ := nodeAt_some h
  rw [setAt_nat ha, nodeAt_nat, List.getElem?_set_self (List.getElem?_eq_some_iff.1 ha).1]
theorem setAt_par {l : List Nd} {n z : Int} {f : Nd → Nd} (h : ∀ x, (f x).parent = x.parent) : parD (setAt l n f) z = parD l z := by
  by_cases e : z = n
  · subst e
    cases hx : nodeAt l z with
    | none => rw [setAt_none hx]
    | some x => rw [parD_node hx, parD_node (nodeAt_self hx f), h]
  · exact parD_same (nodeAt_set e)
/-- Whose parent an edit turns. -/
def ParEd (l l' : List Nd) (f : Edt) : Prop := ∀ z : Int, parD l' z = parD l z ∨ parD l' z = -1 ∨ (f.do_ = 5 ∧ z = f.to_ ∧ parD l' z = f.at_ ∧ parD l z < 0)
theorem par_edit {l : List Nd} {f : Edt} (hf : edErr l f = 0) : ParEd l (edDo l f) f := by
  intro z
  by_cases h4 : f.do_ = 4
  · rw [make_eq h4]
    by_cases e : z = l.length
    · right; left
      have : nodeAt (l ++ [{ f.node with parent := -1, kids := [] }]) z = some { f.node with parent := -1, kids := [] } := by
        rw [e, nodeAt_nat, List.getElem?_append_right (Nat.le_refl _), Nat.sub_self]
        rfl
      exact parD_node this
    · exact Or.inl (parD_same (nodeAt_app e))
  · unfold edDo
    unfold edErr at hf
    by_cases h1 : f.do_ = 1
    · rw [if_pos h1]; exact Or.inl (setAt_par fun _ => rfl)
    rw [if_neg h1] at hf ⊢
    by_cases h2 : f.do_ = 2
    · rw [if_pos h2]; exact Or.inl (setAt_par fun _ => rfl)
    rw [if_neg h2] at hf ⊢
    by_cases h3 : f.do_ = 3
    · rw [if_pos h3]; exact Or.inl (setAt_par fun _ => rfl)
    rw [if_neg h3, if_neg h4] at hf ⊢
    by_cases h5 : f.do_ = 5
    · rw [if_pos h5] at hf ⊢
      unfold insErr at hf
      unfold insDo
      cases hx : nodeAt l f.at_ with
      | none => rw [hx] at hf; cases hf
      | some x =>
        cases hy : nodeAt l f.to_ with
        | none => rw [hx, hy] at hf; cases hf
        | some y =>
          rw [hx, hy] at hf
          by_cases e : z = f.to_
          · right; right
            refine ⟨h5, e, ?_, ?_⟩
            · rw [e]
              by_cases e2 : f.to_ = f.at_
              · have := nodeAt_self hx (fun x => { x with kids := x.kids.take (insAt x.kids f.before).toNat ++ f.to_ :: x.kids.drop (insAt x.kids f.before).toNat })
                rw [← e2] at this ⊢
                exact parD_node (nodeAt_self this (fun y => { y with parent := f.to_ }))
              · exact parD_node (nodeAt_self ((nodeAt_set e2).trans hy) (fun y => { y with parent := f.at_ }))
            · rw [e, parD_node hy]
              by_cases h7 : 0 ≤ y.parent
              · exfalso
                simp only [if_pos h7] at hf
                by_cases h8 : parentB x.kind = false ∨ y.kind = 1 ∨ (x.kind = 1 ∧ y.kind = 3)
                · rw [if_pos h8] at hf; cases hf
                · rw [if_neg h8] at hf; cases hf
              · omega
          · left
            exact (parD_same (nodeAt_set e)).trans (setAt_par fun _ => rfl)
    rw [if_neg h5] at hf ⊢
    by_cases h6 : f.do_ = 6
    · rw [if_pos h6]
      unfold remDo
      cases hx : nodeAt l f.at_ with
      | none => exact Or.inl rfl
      | some x =>
        show parD (setAt (setAt l x.parent _) f.at_ _) z = _ ∨ parD (setAt (setAt l x.parent _) f.at_ _) z = _ ∨ _
        by_cases e : z = f.at_
        · right; left
          rw [e]
          by_cases e2 : f.at_ = x.parent
          · have := nodeAt_self hx (fun p => { p with kids := p.kids.eraseIdx (Lib.idxOf p.kids f.at_).toNat })
            rw [← e2]
            exact parD_node (nodeAt_self this (fun x => { x with parent := -1 }))
          · exact parD_node (nodeAt_self ((nodeAt_set e2).trans hx) (fun x => { x with parent := -1 }))
        · left
          exact (parD_same (nodeAt_set e)).trans (setAt_par fun _ => rfl)
    · rw [if_neg h6]; exact Or.inl rfl
section
variable {l l' : List Nd} {f : Edt}
theorem up_rest (HP : ParEd l l' f) {z : Int} {d : Nat} (h : Up l z d) : ∀ F, d < F → (f.do_ = 5 → topF l F z ≠ f.to_) → ∃ d', d' ≤ d ∧ Up l' z d' := by
  induction h with
  | @top z h0 =>
    intro F hF hne
    obtain ⟨F, rfl⟩ : ∃ q, F = q + 1 := ⟨F - 1, by omega⟩
    refine ⟨0, Nat.le_refl _, Up.top ?_⟩
    rcases HP z with e | e | ⟨h5, e, _, _⟩
    · omega
    · omega
    · exfalso
      refine hne h5 ?_
      rw [topF, if_neg (by omega), e]
  | @step z d h0 _ ih =>
    intro F hF hne
    obtain ⟨F, rfl⟩ : ∃ q, F = q + 1 := ⟨F - 1, by omega⟩
    rw [topF, if_pos h0] at hne
    obtain ⟨d', hd, hu⟩ := ih F (by omega) hne
    rcases HP z with e | e | ⟨_, _, _, e⟩
    · exact ⟨d' + 1, by omega, Up.step (by omega) (by rw [e]; exact hu)⟩
    · exact ⟨0, by omega, Up.top (by omega)⟩
    · omega
theorem bel_top {t z : Int} {r : Nat} (h : Bel l t z r) (ht : parD l t < 0) : ∀ F d, Up l z d → d < F → topF l F z = t := by
  induction h with
  | self =>
    intro F d _ hF
    obtain ⟨F, rfl⟩ : ∃ q, F = q + 1 := ⟨F - 1, by omega⟩
    rw [topF, if_neg (by omega)]
  | @step z r h0 _ ih =>
    intro F d hu hF
    obtain ⟨F, rfl⟩ : ∃ q, F = q + 1 := ⟨F - 1, by omega⟩
    rw [topF, if_pos h0]
    cases hu with
    | top h1 => omega
    | @step _ d _ hu => exact ih F d hu (by omega)
theorem bel_rest (HP : ParEd l l' f) {t : Int} (hno : f.do_ = 5 → ∀ r, ¬ Bel l t f.at_ r) {z : Int} {r : Nat} (h : Bel l' t z r) : Bel l t z r := by
  induction h with
  | self => exact Bel.self
  | @step z r h0 _ ih =>
    rcases HP z with e | e | ⟨h5, _, e, _⟩
    · rw [e] at h0 ih; exact Bel.step h0 ih
    · omega
    · rw [e] at ih; exact absurd ih (hno h5 r)
theorem bel_trans {t n z : Int} {r : Nat} (h : Bel l n z r) (hn : 0 ≤ parD l n) (ht : parD l n = t) : Bel l t z (r + 1) := by
  induction h with
  | self => exact Bel.step hn (by rw [ht]; exact Bel.self)
  | step h0 _ ih => exact Bel.step h0 ih
theorem foldl_max_mem : ∀ (xs : List Nat) (a : Nat), xs.foldl max a = a ∨ xs.foldl max a ∈ xs := by
  intro xs
  induction xs with
  | nil => intro a; exact Or.inl rfl
  | cons y r ih =>
    intro a
    rw [List.foldl_cons]
    rcases ih (max a y) with h | h
    · rw [h]
      rcases Nat.le_total a y with h1 | h1
      · right; rw [Nat.max_eq_right h1]; simp
      · left; exact Nat.max_eq_left h1
    · exact Or.inr (List.mem_cons_of_mem _ h)
theorem Tree.deep_bel (T : Tree l) (g : Nat) : ∀ m : Nat, m < l.length → upN l m + g = 41 → ∃ z, Bel l m z (deepR l m) := by
  induction g with
  | zero => intro m hm h; have := (T.deep m hm).1; omega
  | succ g ih =>
    intro m hm h
    rw [T.deep_step hm]
    rcases foldl_max_mem ((kidsD l m).map fun k => deepR l k + 1) 0 with e | e
    · rw [e]; exact ⟨m, Bel.self⟩
    · obtain ⟨k, hk, e2⟩ := List.mem_map.1 e
      obtain ⟨n, rfl, hn, hp⟩ := T.kid hm hk
      have hu := (T.up_par hn hp).2
      obtain ⟨z, hz⟩ := ih n hn (by omega)
      rw [← e2]
      exact ⟨z, bel_trans hz (by omega) hp⟩
end
theorem Tree.up_is {l : List Nd} (T : Tree l) {m : Nat} (hm : m < l.length) : Up l m (upN l m) := by
  have h := (T.deep m hm).2
  unfold upN at h ⊢
  exact upF_up _ _ (by omega) (by omega)
theorem Tree.par_low {l : List Nd} (T : Tree l) (z : Int) (h : parD l z < 0) : parD l z = -1 := by
  by_cases h1 : z < 0 ∨ (l.length : Int) ≤ z
  · exact parD_out h1
  · obtain ⟨m, rfl⟩ : ∃ m : Nat, z = (m : Int) := ⟨z.toNat, by omega⟩
    rcases T.par (m := m) (by omega) with e | ⟨p, e, _⟩
    · exact e
    · omega
/-- An insert behind an edit that it does not meet. -/
theorem ins_rest {l : List Nd} (G : Good l) {e f : Edt} (he : edErr l e = 0) (hf : edErr l f = 0) (hd : ∀ n ∈ touchD l e, n ∉ touchD l f) (h5 : e.do_ = 5) : edErr (edDo l f) e = 0 := by
  have T := tree_of (check_of G)
  have T' := tree_of (check_of (good_ed G hf))
  have HP := par_edit hf
  have ha : e.at_ ∈ touchD l e := at_touch (by omega)
  have ht : e.to_ ∈ touchD l e := by unfold touchD; rw [if_neg (by omega), if_pos h5]; simp
  have na := node_rest hf (hd _ ha)
  have nt := node_rest hf (hd _ ht)
  have up5 : ∀ {g : Edt}, g.do_ = 5 → edErr l g = insErr l g.at_ g.to_ g.before := fun {g} h => by
    unfold edErr
    rw [if_neg (by omega), if_neg (by omega), if_neg (by omega), if_neg (by omega), if_pos h]
  have big : ∀ {g : Edt}, g.do_ = 5 → edErr l g = 0 → ∃ (a t : Nat) (x y : Nd), g.at_ = (a : Int) ∧ l[a]? = some x ∧ g.to_ = (t : Int) ∧ l[t]? = some y ∧ 0 < t ∧ y.parent < 0 := fun {g} h hg => by
    rw [up5 h] at hg
    unfold insErr at hg
    cases hx : nodeAt l g.at_ with
    | none => rw [hx] at hg; cases hg
    | some x =>
      cases hy : nodeAt l g.to_ with
      | none => rw [hx, hy] at hg; cases hg
      | some y =>
        rw [hx, hy] at hg
        obtain ⟨a, ea, hax⟩ := nodeAt_some hx
        obtain ⟨t, et, hty⟩ := nodeAt_some hy
        by_cases h8 : parentB x.kind = false ∨ y.kind = 1 ∨ (x.kind = 1 ∧ y.kind = 3)
        · simp only [if_pos h8] at hg; cases hg
        · simp only [if_neg h8] at hg
          by_cases h7 : 0 ≤ y.parent
          · rw [if_pos h7] at hg; cases hg
          · refine ⟨a, t, x, y, ea, hax, et, hty, Nat.pos_of_ne_zero fun h0 => h8 (Or.inr (Or.inl ((G.root t y hty).2 h0))), by omega⟩
  obtain ⟨a, t, x, y, ea, hax, et, hty, ht0, hyp⟩ := big h5 he
  have hal := (List.getElem?_eq_some_iff.1 hax).1
  have htl := (List.getElem?_eq_some_iff.1 hty).1
  have hpt : parD l t < 0 := by rw [parD_at hty]; exact hyp
  have hua := T.up_is hal
  have hua40 := (T.deep a hal).1
  have hno : f.do_ = 5 → ∀ r, ¬ Bel l (t : Int) f.at_ r := fun hf5 r hb => by
    obtain ⟨b, _, _, _, eb, hbx, _, _, _, _⟩ := big hf5 hf
    have hbl := (List.getElem?_eq_some_iff.1 hbx).1
    rw [eb] at hb
    have h1 := bel_top hb hpt 41 _ (T.up_is hbl) (by have := (T.deep b hbl).1; omega)
    refine hd _ ht ?_
    unfold touchD
    rw [if_neg (by omega), if_pos hf5]
    have h2 : topD l f.at_ = (t : Int) := by unfold topD; rw [eb]; exact h1
    rw [h2, if_pos (by omega), et]
    simp
  have hup : upN (edDo l f) a ≤ upN l a := by
    obtain ⟨d', hd', hu'⟩ := up_rest HP hua 41 (by omega) (fun hf5 h => by
      obtain ⟨_, s, _, _, _, _, es, _, hs0, _⟩ := big hf5 hf
      have h2 : topD l e.at_ = f.to_ := by unfold topD; rw [ea]; exact h
      refine hd f.to_ ?_ ?_
      · unfold touchD
        rw [if_neg (by omega), if_pos h5, h2, if_pos (by omega)]
        simp
      · unfold touchD
        rw [if_neg (by omega), if_pos hf5]
        simp)
    have hal' : a < (edDo l f).length := by
      rw [ea, nodeAt_nat, nodeAt_nat, hax] at na
      exact (List.getElem?_eq_some_iff.1 na).1
    have := (T'.up_is hal').fn hu'
    omega
  have htl' : t < (edDo l f).length := by
    rw [et, nodeAt_nat, nodeAt_nat, hty] at nt
    exact (List.getElem?_eq_some_iff.1 nt).1
  have hdp : deepR (edDo l f) t ≤ deepR l t := by
    obtain ⟨z, hz⟩ := T'.deep_bel (41 - upN (edDo l f) t) t htl' (by have := (T'.deep t htl').1; omega)
    obtain ⟨_, _, _, h⟩ := T.bel_deep htl (bel_rest HP hno hz)
    omega
  have hbl : belowB (edDo l f) a t = true → belowB l a t = true := fun h => by
    unfold belowB at h
    obtain ⟨r, hr⟩ := belowF_to _ _ h T'.par_low (by omega)
    unfold belowB depZ
    rw [if_neg (by omega)]
    exact belowF_of (bel_rest HP hno hr) _ _ hua (Nat.lt_succ_self _) (by omega)
  have he' := he
  rw [up5 h5] at he'
  unfold edErr
  rw [if_neg (by omega), if_neg (by omega), if_neg (by omega), if_neg (by omega), if_pos h5]
  unfold insErr at he' ⊢
  rw [na, nt]
  rw [ea, et] at he' ⊢
  rw [nodeAt_nat, nodeAt_nat, hax, hty] at he' ⊢
  show (if parentB x.kind = false ∨ y.kind = 1 ∨ (x.kind = 1 ∧ y.kind = 3) then (7 : Int) else if 0 ≤ y.parent then 9 else if insAt x.kids e.before < 0 then 5 else if belowB (edDo l f) a t = true then 8 else if 40 < upN (edDo l f) a + 1 + deepR (edDo l f) t then 2 else 0) = 0
  have he2 : (if parentB x.kind = false ∨ y.kind = 1 ∨ (x.kind = 1 ∧ y.kind = 3) then (7 : Int) else if 0 ≤ y.parent then 9 else if insAt x.kids e.before < 0 then 5 else if belowB l a t = true then 8 else if 40 < upN l a + 1 + deepR l t then 2 else 0) = 0 := he'
  by_cases c1 : parentB x.kind = false ∨ y.kind = 1 ∨ (x.kind = 1 ∧ y.kind = 3)
  · rw [if_pos c1] at he2; cases he2
  rw [if_neg c1] at he2 ⊢
  by_cases c2 : 0 ≤ y.parent
  · rw [if_pos c2] at he2; cases he2
  rw [if_neg c2] at he2 ⊢
  by_cases c3 : insAt x.kids e.before < 0
  · rw [if_pos c3] at he2; cases he2
  rw [if_neg c3] at he2 ⊢
  by_cases c4 : belowB l a t = true
  · rw [if_pos c4] at he2; cases he2
  rw [if_neg c4] at he2
  rw [if_neg fun h => c4 (hbl h)]
  by_cases c5 : 40 < upN l a + 1 + deepR l t
  · rw [if_pos c5] at he2; cases he2
  · rw [if_neg (by omega)]
/-- What may be done may be done behind an edit that it does not meet. -/
theorem err_any {l : List Nd} (G : Good l) {e f : Edt} (he : edErr l e = 0) (hf : edErr l f = 0) (hd : ∀ n ∈ touchD l e, n ∉ touchD l f) : edErr (edDo l f) e = 0 := by
  by_cases h5 : e.do_ = 5
  · exact ins_rest G he hf hd h5
  · exact err_rest he hf hd h5
/-- ApartOrder's law. -/
theorem apart_order {l : List Nd} (G : Good l) {e f : Edt} (he : edErr l e = 0) (hf : edErr l f = 0) (hd : ∀ n ∈ touchD l e, n ∉ touchD l f) : edErr (edDo l f) e = 0 ∧ edErr (edDo l e) f = 0 ∧ edDo (edDo l e) f = edDo (edDo l f) e := by
  have h1 := err_any G he hf hd
  have h2 := err_any G hf he fun n h1 h2 => hd n h2 h1
  exact ⟨h1, h2, ed_comm he hf hd h1 h2⟩
end Go.Proofs.YtfeighclpaijoaaGreatDoor
