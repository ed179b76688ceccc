/-
Steps that were done, and how each is undone. No program in sight.
-/
import Derived.Test.YtfeighclpaijoaaGreatDoorFoldLaw
namespace Go.Proofs.YtfeighclpaijoaaGreatDoor
open Go.RowKit Go.Cl

/-- A step. -/
structure Stp where
  edit : Edt
  had : Bool
  was : ByteArray
  parent : Int
  place : Int
def atNote (e : Edt) (ats : List DAttr) : Stp :=
  if 0 ≤ findA ats e.name then ⟨e, true, (ats[(findA ats e.name).toNat]?.getD (e.name, ⟨#[]⟩)).2, 0, findA ats e.name⟩ else ⟨e, false, ⟨#[]⟩, 0, 0⟩
def nodeD (l : List Nd) (n : Int) : Nd := (nodeAt l n).getD ⟨0, ⟨#[]⟩, [], ⟨#[]⟩, 0, []⟩
/-- What is noted of an edit that was done. -/
def noteD (l k : List Nd) (e : Edt) : Stp :=
  if e.do_ = 1 ∨ e.do_ = 2 then atNote e (nodeD l e.at_).attrs
  else if e.do_ = 3 then ⟨e, false, (nodeD l e.at_).text, 0, 0⟩
  else if e.do_ = 4 then ⟨e, false, ⟨#[]⟩, 0, l.length⟩
  else if e.do_ = 5 then ⟨e, false, ⟨#[]⟩, -1, Lib.idxOf (nodeD k e.at_).kids e.to_⟩
  else if e.do_ = 6 then ⟨e, false, ⟨#[]⟩, parD l e.at_, Lib.idxOf (nodeD l (parD l e.at_)).kids e.at_⟩
  else ⟨e, false, ⟨#[]⟩, 0, 0⟩
def stepsD (l : List Nd) : List Edt → List Stp
  | [] => []
  | e :: r => noteD l (edDo l e) e :: stepsD (edDo l e) r
/-! ### a step undone -/
def unAttr (l : List Nd) (s : Stp) : Option (List Nd) := match nodeAt l s.edit.at_ with
  | none => none
  | some x => if 0 ≤ findA x.attrs s.edit.name ∧ s.had = true then some (setAt l s.edit.at_ fun x => { x with attrs := x.attrs.set (findA x.attrs s.edit.name).toNat ((x.attrs[(findA x.attrs s.edit.name).toNat]?.getD (s.edit.name, ⟨#[]⟩)).1, s.was) })
    else if 0 ≤ findA x.attrs s.edit.name ∧ findA x.attrs s.edit.name = (x.attrs.length : Int) - 1 then some (setAt l s.edit.at_ fun x => { x with attrs := x.attrs.take (findA x.attrs s.edit.name).toNat })
    else none
def unDrop (l : List Nd) (s : Stp) : Option (List Nd) := match nodeAt l s.edit.at_ with
  | none => none
  | some x => if x.kind ≠ 2 ∨ s.place < 0 ∨ (x.attrs.length : Int) < s.place ∨ 0 ≤ findA x.attrs s.edit.name then none
    else some (setAt l s.edit.at_ fun x => { x with attrs := x.attrs.take s.place.toNat ++ (s.edit.name, s.was) :: x.attrs.drop s.place.toNat })
def unText (l : List Nd) (s : Stp) : Option (List Nd) := match nodeAt l s.edit.at_ with
  | none => none
  | some x => if x.kind ≠ 3 ∧ x.kind ≠ 4 then none else some (setAt l s.edit.at_ fun x => { x with text := s.was })
def unMake (l : List Nd) (s : Stp) : Option (List Nd) :=
  if s.place ≠ (l.length : Int) - 1 ∨ (l.length : Int) - 1 < 1 ∨ (nodeD l ((l.length : Int) - 1)).parent ≠ -1 ∨ (nodeD l ((l.length : Int) - 1)).kids ≠ [] then none else some (l.take (l.length - 1))
def unIns (l : List Nd) (s : Stp) : Option (List Nd) := match nodeAt l s.edit.at_, nodeAt l s.edit.to_ with
  | some p, some _ => if s.place < 0 ∨ (p.kids.length : Int) ≤ s.place ∨ p.kids[s.place.toNat]? ≠ some s.edit.to_ then none
    else some (setAt (setAt l s.edit.at_ fun p => { p with kids := p.kids.eraseIdx s.place.toNat }) s.edit.to_ fun x => { x with parent := -1 })
  | _, _ => none
def unRem (l : List Nd) (s : Stp) : Option (List Nd) := match nodeAt l s.parent, nodeAt l s.edit.at_ with
  | some p, some x => if s.edit.at_ = 0 ∨ x.parent ≠ -1 ∨ s.place < 0 ∨ (p.kids.length : Int) < s.place then none
    else some (setAt (setAt l s.parent fun p => { p with kids := p.kids.take s.place.toNat ++ s.edit.at_ :: p.kids.drop s.place.toNat }) s.edit.at_ fun x => { x with parent := s.parent })
  | _, _ => none
def unD (l : List Nd) (s : Stp) : Option (List Nd) :=
  if s.edit.do_ = 1 then unAttr l s else if s.edit.do_ = 2 then unDrop l s else if s.edit.do_ = 3 then unText l s
  else if s.edit.do_ = 4 then unMake l s else if s.edit.do_ = 5 then unIns l s else if s.edit.do_ = 6 then unRem l s else none
def runU (l : List Nd) : List Stp → Option (List Nd)
  | [] => some l
  | s :: r => (unD l s).bind fun k => runU k r
theorem runU_app : ∀ (us bs : List Stp) (l : List Nd), runU l (us ++ bs) = (runU l us).bind fun k => runU k bs := by
  intro us
  induction us with
  | nil => intro bs l; rfl
  | cons e r ih =>
    intro bs l
    show (unD l e).bind (fun k => runU k (r ++ bs)) = ((unD l e).bind fun k => runU k r).bind _
    cases unD l e with
    | none => rfl
    | some k => exact ih bs k
theorem nodeD_nat {l : List Nd} {m : Nat} {x : Nd} (h : l[m]? = some x) : nodeD l m = x := by unfold nodeD; rw [nodeAt_nat, h]; rfl
theorem name_eq {a b : ByteArray} (h : a.toList = b.toList) : a = b := ByteArray.ext (Array.ext' (by rw [← Lib.toList_data, ← Lib.toList_data]; exact h))
theorem set_get_self {α : Type} {l : List α} {i : Nat} {x y : α} (h : l[i]? = some x) : (l.set i y).set i x = l := by
  rw [List.set_set]
  exact set_same h
theorem setAt_back {l : List Nd} {m : Nat} {x : Nd} (h : l[m]? = some x) {f g : Nd → Nd} (hfg : g (f x) = x) : setAt (setAt l m f) m g = l := by
  have hl := (List.getElem?_eq_some_iff.1 h).1
  rw [setAt_nat h, setAt_nat (List.getElem?_set_self hl), hfg]
  exact set_get_self h
theorem eraseIdx_ins {α : Type} {l : List α} {i : Nat} {x : α} (h : l[i]? = some x) : (l.eraseIdx i).take i ++ x :: (l.eraseIdx i).drop i = l := by
  have hl := (List.getElem?_eq_some_iff.1 h).1
  have he := (List.getElem?_eq_some_iff.1 h).2
  rw [List.eraseIdx_eq_take_drop_succ, List.take_append_of_le_length (by rw [List.length_take]; omega), List.take_take, Nat.min_self, List.drop_append_of_le_length (by rw [List.length_take]; omega), List.drop_take, Nat.sub_self, List.take_zero, List.nil_append]
  have hc : x :: l.drop (i + 1) = l.drop i := by rw [List.drop_eq_getElem_cons hl, he]
  rw [hc, List.take_append_drop]
theorem un_attr {l : List Nd} {e : Edt} (h1 : e.do_ = 1) (he : edErr l e = 0) : unAttr (edDo l e) (atNote e (nodeD l e.at_).attrs) = some l := by
  have hd : edDo l e = attrDo l e.at_ e.name e.value := by unfold edDo; rw [if_pos h1]
  unfold edErr at he
  rw [if_pos h1] at he
  unfold attrErr at he
  rw [hd]
  unfold attrDo
  cases hx : nodeAt l e.at_ with
  | none => rw [hx] at he; cases he
  | some x =>
    obtain ⟨m, em, hm⟩ := nodeAt_some hx
    have hml := (List.getElem?_eq_some_iff.1 hm).1
    have hN : nodeD l e.at_ = x := by rw [em]; exact nodeD_nat hm
    rw [hN]
    unfold unAttr
    have hat : (atNote e x.attrs).edit = e := by unfold atNote; split <;> rfl
    rw [hat, em, nodeAt_nat, setAt_nat hm, List.getElem?_set_self hml]
    show (if _ then _ else _) = _
    have hput : ∀ f : Nd → Nd, setAt (l.set m { x with attrs := attrPut x.attrs e.name e.value }) m f = l.set m (f { x with attrs := attrPut x.attrs e.name e.value }) := fun f => by
      rw [setAt_nat (List.getElem?_set_self hml), List.set_set]
    rcases findA_cases x.attrs e.name with ⟨e1, hne⟩ | ⟨i, a, e1, ha, hn⟩
    · have hp : attrPut x.attrs e.name e.value = x.attrs ++ [(e.name, e.value)] := by unfold attrPut; rw [if_pos (by omega)]
      have hnote : atNote e x.attrs = ⟨e, false, ⟨#[]⟩, 0, 0⟩ := by unfold atNote; rw [if_neg (by omega)]
      have hf : findA (x.attrs ++ [(e.name, e.value)]) e.name = (x.attrs.length : Int) := by
        rcases findA_cases (x.attrs ++ [(e.name, e.value)]) e.name with ⟨_, h⟩ | ⟨i, a, e2, ha, hn⟩
        · exact absurd rfl (h (e.name, e.value) (by simp))
        · have hl := (List.getElem?_eq_some_iff.1 ha).1
          rw [List.length_append, List.length_singleton] at hl
          by_cases h : i < x.attrs.length
          · rw [List.getElem?_append_left h] at ha
            exact absurd hn (hne a (List.mem_of_getElem? ha))
          · rw [e2]; omega
      rw [hput, hput]
      show (if 0 ≤ findA (attrPut x.attrs e.name e.value) e.name ∧ (atNote e x.attrs).had = true then _ else if 0 ≤ findA (attrPut x.attrs e.name e.value) e.name ∧ findA (attrPut x.attrs e.name e.value) e.name = ((attrPut x.attrs e.name e.value).length : Int) - 1 then some (l.set m { x with attrs := (attrPut x.attrs e.name e.value).take (findA (attrPut x.attrs e.name e.value) e.name).toNat }) else none) = some l
      rw [hp, hf, if_neg (by rw [hnote]; simp), if_pos ⟨by omega, by rw [List.length_append, List.length_singleton]; omega⟩, Int.toNat_natCast, List.take_left]
      rw [set_same hm]
    · have hp : attrPut x.attrs e.name e.value = x.attrs.set i (a.1, e.value) := by unfold attrPut; rw [if_neg (by omega), e1, Int.toNat_natCast, ha, Option.getD_some]
      have hnote : atNote e x.attrs = ⟨e, true, a.2, 0, i⟩ := by unfold atNote; rw [if_pos (by omega), e1, Int.toNat_natCast, ha]; rfl
      have hl := (List.getElem?_eq_some_iff.1 ha).1
      have hf : findA (x.attrs.set i (a.1, e.value)) e.name = (i : Int) := (findA_names (set_map_id ha e.value)).trans e1
      rw [hput, hput]
      show (if 0 ≤ findA (attrPut x.attrs e.name e.value) e.name ∧ (atNote e x.attrs).had = true then some (l.set m { x with attrs := (attrPut x.attrs e.name e.value).set (findA (attrPut x.attrs e.name e.value) e.name).toNat (((attrPut x.attrs e.name e.value)[(findA (attrPut x.attrs e.name e.value) e.name).toNat]?.getD (e.name, ⟨#[]⟩)).1, (atNote e x.attrs).was) }) else _) = some l
      rw [hp, hf, if_pos ⟨by omega, by rw [hnote]⟩, Int.toNat_natCast, List.getElem?_set_self hl, Option.getD_some, hnote]
      show some (l.set m { x with attrs := (x.attrs.set i (a.1, e.value)).set i (a.1, a.2) }) = some l
      rw [set_get_self ha, set_same hm]
theorem un_drop {l : List Nd} (G : Good l) {e : Edt} (h2 : e.do_ = 2) (he : edErr l e = 0) : unDrop (edDo l e) (atNote e (nodeD l e.at_).attrs) = some l := by
  have hd : edDo l e = dropDo l e.at_ e.name := by unfold edDo; rw [if_neg (by omega), if_pos h2]
  unfold edErr at he
  rw [if_neg (by omega), if_pos h2] at he
  unfold dropErr at he
  rw [hd]
  unfold dropDo
  cases hx : nodeAt l e.at_ with
  | none => rw [hx] at he; cases he
  | some x =>
    rw [hx] at he
    have he : (if x.kind ≠ 2 then (7 : Int) else if findA x.attrs e.name < 0 then 5 else 0) = 0 := he
    by_cases hk : x.kind ≠ 2
    · rw [if_pos hk] at he; cases he
    rw [if_neg hk] at he
    by_cases hf : findA x.attrs e.name < 0
    · rw [if_pos hf] at he; cases he
    obtain ⟨m, em, hm⟩ := nodeAt_some hx
    have hml := (List.getElem?_eq_some_iff.1 hm).1
    have hN : nodeD l e.at_ = x := by rw [em]; exact nodeD_nat hm
    rw [hN]
    obtain ⟨i, a, e1, ha, hn⟩ := findA_nat (ats := x.attrs) (nm := e.name) (by omega)
    have hal := (List.getElem?_eq_some_iff.1 ha).1
    have hnote : atNote e x.attrs = ⟨e, true, a.2, 0, i⟩ := by unfold atNote; rw [if_pos (by omega), e1, Int.toNat_natCast, ha]; rfl
    rw [hnote]
    unfold unDrop
    show (match nodeAt (setAt l e.at_ _) e.at_ with | none => none | some x => _) = _
    rw [em, nodeAt_nat, setAt_nat hm, List.getElem?_set_self hml]
    have hput : ∀ f : Nd → Nd, setAt (l.set m { x with attrs := x.attrs.eraseIdx (findA x.attrs e.name).toNat }) m f = l.set m (f { x with attrs := x.attrs.eraseIdx (findA x.attrs e.name).toNat }) := fun f => by
      rw [setAt_nat (List.getElem?_set_self hml), List.set_set]
    show (if x.kind ≠ 2 ∨ (i : Int) < 0 ∨ ((x.attrs.eraseIdx (findA x.attrs e.name).toNat).length : Int) < (i : Int) ∨ 0 ≤ findA (x.attrs.eraseIdx (findA x.attrs e.name).toNat) e.name then none
      else some (setAt (l.set m { x with attrs := x.attrs.eraseIdx (findA x.attrs e.name).toNat }) m fun x => { x with attrs := x.attrs.take (i : Int).toNat ++ (e.name, a.2) :: x.attrs.drop (i : Int).toNat })) = some l
    rw [hput, e1, Int.toNat_natCast]
    have hnone : findA (x.attrs.eraseIdx i) e.name = -1 := by
      rcases findA_cases (x.attrs.eraseIdx i) e.name with ⟨h, _⟩ | ⟨j, b, _, hb, hbn⟩
      · exact h
      · exfalso
        have hon := ((attrsE_iff x.attrs).1 (((nodeE_iff x).1 (G.each x (List.mem_of_getElem? hm))).2.2.1 |> fun h => (attrsE_iff x.attrs).2 h)).once
        rw [List.getElem?_eraseIdx] at hb
        have hp := List.pairwise_iff_getElem.1 hon
        have nm : ∀ (j : Nat) (b : DAttr), x.attrs[j]? = some b → ∃ h : j < (x.attrs.map fun a => a.1.toList).length, (x.attrs.map fun a => a.1.toList)[j] = b.1.toList := fun j b hj => by
          refine ⟨by rw [List.length_map]; exact (List.getElem?_eq_some_iff.1 hj).1, ?_⟩
          rw [List.getElem_map, (List.getElem?_eq_some_iff.1 hj).2]
        obtain ⟨hi1, hi2⟩ := nm i a ha
        by_cases hji : j < i
        · rw [if_pos hji] at hb
          obtain ⟨hj1, hj2⟩ := nm j b hb
          exact hp j i hj1 hi1 hji (by rw [hj2, hi2, hbn, hn])
        · rw [if_neg hji] at hb
          obtain ⟨hj1, hj2⟩ := nm (j + 1) b hb
          exact hp i (j + 1) hi1 hj1 (by omega) (by rw [hj2, hi2, hbn, hn])
    rw [if_neg (by
      rintro (h | h | h | h)
      · exact hk h
      · omega
      · rw [List.length_eraseIdx_of_lt hal] at h; omega
      · omega)]
    show some (l.set m { x with attrs := (x.attrs.eraseIdx i).take i ++ (e.name, a.2) :: (x.attrs.eraseIdx i).drop i }) = some l
    have hae : ((e.name, a.2) : DAttr) = a := Prod.ext (name_eq hn).symm rfl
    rw [hae, eraseIdx_ins ha, set_same hm]
theorem un_text {l : List Nd} {e : Edt} (h3 : e.do_ = 3) (he : edErr l e = 0) : unText (edDo l e) ⟨e, false, (nodeD l e.at_).text, 0, 0⟩ = some l := by
  have hd : edDo l e = textDo l e.at_ e.value := by unfold edDo; rw [if_neg (by omega), if_neg (by omega), if_pos h3]
  unfold edErr at he
  rw [if_neg (by omega), if_neg (by omega), if_pos h3] at he
  unfold textErr at he
  rw [hd]
  unfold textDo
  cases hx : nodeAt l e.at_ with
  | none => rw [hx] at he; cases he
  | some x =>
    rw [hx] at he
    have he : (if x.kind ≠ 3 ∧ x.kind ≠ 4 then (7 : Int) else if 400 < e.value.size then 2 else 0) = 0 := he
    by_cases hk : x.kind ≠ 3 ∧ x.kind ≠ 4
    · rw [if_pos hk] at he; cases he
    obtain ⟨m, em, hm⟩ := nodeAt_some hx
    have hml := (List.getElem?_eq_some_iff.1 hm).1
    have hN : nodeD l e.at_ = x := by rw [em]; exact nodeD_nat hm
    rw [hN]
    unfold unText
    show (match nodeAt (setAt l e.at_ _) e.at_ with | none => none | some x => _) = _
    rw [em, nodeAt_nat, setAt_nat hm, List.getElem?_set_self hml]
    show (if x.kind ≠ 3 ∧ x.kind ≠ 4 then none else some (setAt (l.set m { x with text := e.value }) m fun y => { y with text := x.text })) = some l
    rw [if_neg hk, setAt_nat (List.getElem?_set_self hml), List.set_set]
    exact congrArg some (set_same hm)
theorem un_make {l : List Nd} (G : Good l) {e : Edt} (h4 : e.do_ = 4) : unMake (edDo l e) ⟨e, false, ⟨#[]⟩, 0, l.length⟩ = some l := by
  rw [make_eq h4]
  have hp := G.pos
  have hl : (l ++ [{ e.node with parent := -1, kids := [] }]).length = l.length + 1 := by rw [List.length_append]; rfl
  have hN : nodeD (l ++ [{ e.node with parent := -1, kids := [] }]) ((l.length + 1 : Nat) - 1 : Int) = { e.node with parent := -1, kids := [] } := by
    rw [show ((l.length + 1 : Nat) : Int) - 1 = ((l.length : Nat) : Int) from by omega]
    exact nodeD_nat (by rw [List.getElem?_append_right (Nat.le_refl _), Nat.sub_self]; rfl)
  unfold unMake
  rw [hl, hN, if_neg (by
    rintro (h | h | h | h)
    · exact h (by show (l.length : Int) = _; omega)
    · omega
    · exact h rfl
    · exact h rfl), Nat.add_sub_cancel, List.take_left]
theorem un_ins {l : List Nd} (G : Good l) {e : Edt} (h5 : e.do_ = 5) (he : edErr l e = 0) : unIns (edDo l e) ⟨e, false, ⟨#[]⟩, -1, Lib.idxOf (nodeD (edDo l e) e.at_).kids e.to_⟩ = some l := by
  have hd : edDo l e = insDo l e.at_ e.to_ e.before := by unfold edDo; rw [if_neg (by omega), if_neg (by omega), if_neg (by omega), if_neg (by omega), if_pos h5]
  unfold edErr at he
  rw [if_neg (by omega), if_neg (by omega), if_neg (by omega), if_neg (by omega), if_pos h5] at he
  obtain ⟨m, t, x, y, em, et, hi⟩ := insErr_iff he
  have T := tree_of (check_of G)
  have hml := (List.getElem?_eq_some_iff.1 hi.hx).1
  have htl := (List.getElem?_eq_some_iff.1 hi.hy).1
  obtain ⟨i, hii⟩ : ∃ i : Nat, (insAt x.kids e.before).toNat = i := ⟨_, rfl⟩
  have hi2 : i ≤ x.kids.length := by rw [← hii]; have := insAt_le x.kids e.before; omega
  have hyp : y.parent = -1 := by
    have := T.par_low t (by rw [parD_at hi.hy]; exact hi.loose)
    rw [parD_at hi.hy] at this
    exact this
  have hnk : (t : Int) ∉ x.kids := fun h => by
    obtain ⟨k, z, e, hz, hp, _⟩ := (T.kr.kids m x hi.hx).2 _ h
    have : t = k := by omega
    subst this
    rw [hi.hy] at hz
    obtain rfl := Option.some.inj hz
    omega
  have hins : edDo l e = (l.set m { x with kids := x.kids.take i ++ (t : Int) :: x.kids.drop i }).set t { y with parent := (m : Int) } := by
    rw [hd, em, et, hi.do_, hii]
  have g1 : (edDo l e)[m]? = some { x with kids := x.kids.take i ++ (t : Int) :: x.kids.drop i } := by
    rw [hins, List.getElem?_set_ne (Ne.symm hi.ne), List.getElem?_set_self hml]
  have g2 : (edDo l e)[t]? = some { y with parent := (m : Int) } := by
    rw [hins, List.getElem?_set_self (by rw [List.length_set]; exact htl)]
  have hpos : Lib.idxOf (x.kids.take i ++ (t : Int) :: x.kids.drop i) (t : Int) = (i : Int) := idx_first (by rw [List.getElem?_append_right (by rw [List.length_take]; omega), List.length_take, Nat.min_eq_left hi2, Nat.sub_self]; rfl) (fun j hj e => by
    rw [List.getElem?_append_left (by rw [List.length_take]; omega), List.getElem?_take, if_pos hj] at e
    exact hnk (List.mem_of_getElem? e))
  have hk : (x.kids.take i ++ (t : Int) :: x.kids.drop i).eraseIdx i = x.kids := by
    rw [List.eraseIdx_append_of_length_le (by rw [List.length_take]; omega), List.length_take, Nat.min_eq_left hi2, Nat.sub_self, List.eraseIdx_cons_zero, List.take_append_drop]
  have hN : nodeD (edDo l e) e.at_ = { x with kids := x.kids.take i ++ (t : Int) :: x.kids.drop i } := by rw [em]; exact nodeD_nat g1
  rw [hN]
  show unIns (edDo l e) ⟨e, false, ⟨#[]⟩, -1, Lib.idxOf (x.kids.take i ++ (t : Int) :: x.kids.drop i) e.to_⟩ = some l
  rw [et, hpos]
  unfold unIns
  show (match nodeAt (edDo l e) e.at_, nodeAt (edDo l e) e.to_ with | some p, some _ => _ | _, _ => none) = _
  rw [em, et, nodeAt_nat, nodeAt_nat, g1, g2]
  show (if (i : Int) < 0 ∨ ((x.kids.take i ++ (t : Int) :: x.kids.drop i).length : Int) ≤ (i : Int) ∨ (x.kids.take i ++ (t : Int) :: x.kids.drop i)[(i : Int).toNat]? ≠ some (t : Int) then none else some (setAt (setAt (edDo l e) (m : Int) fun p => { p with kids := p.kids.eraseIdx (i : Int).toNat }) (t : Int) fun x => { x with parent := -1 })) = some l
  rw [Int.toNat_natCast, if_neg (by
    rintro (h | h | h)
    · omega
    · rw [List.length_append, List.length_cons, List.length_take, List.length_drop] at h; omega
    · exact h (by rw [List.getElem?_append_right (by rw [List.length_take]; omega), List.length_take, Nat.min_eq_left hi2, Nat.sub_self]; rfl))]
  rw [setAt_nat g1, setAt_nat (m := t) (x := { y with parent := (m : Int) }) (by rw [List.getElem?_set_ne hi.ne]; exact g2)]
  refine congrArg some ?_
  apply List.ext_getElem?
  intro j
  have hlen : (edDo l e).length = l.length := by rw [hins]; simp
  by_cases j1 : t = j
  · subst j1
    rw [List.getElem?_set_self (by rw [List.length_set, hlen]; exact htl), hi.hy, ← hyp]
  · rw [List.getElem?_set_ne j1]
    by_cases j2 : m = j
    · subst j2
      rw [List.getElem?_set_self (by rw [hlen]; exact hml), hi.hx]
      show some { x with kids := _ } = some x
      rw [hk]
    · rw [List.getElem?_set_ne j2, hins, List.getElem?_set_ne j1, List.getElem?_set_ne j2]
theorem un_rem {l : List Nd} (G : Good l) {e : Edt} (h6 : e.do_ = 6) (he : edErr l e = 0) : unRem (edDo l e) ⟨e, false, ⟨#[]⟩, parD l e.at_, Lib.idxOf (nodeD l (parD l e.at_)).kids e.at_⟩ = some l := by
  have hd : edDo l e = remDo l e.at_ := by unfold edDo; rw [if_neg (by omega), if_neg (by omega), if_neg (by omega), if_neg (by omega), if_neg (by omega), if_pos h6]
  unfold edErr at he
  rw [if_neg (by omega), if_neg (by omega), if_neg (by omega), if_neg (by omega), if_neg (by omega), if_pos h6] at he
  obtain ⟨m, p, i, x, y, em, hr⟩ := remErr_iff G he
  have hml := (List.getElem?_eq_some_iff.1 hr.hx).1
  have hpl := (List.getElem?_eq_some_iff.1 hr.hy).1
  have hpar : parD l e.at_ = (p : Int) := by rw [em, parD_at hr.hx, hr.par]
  have hrem : edDo l e = (l.set p { y with kids := y.kids.eraseIdx i }).set m { x with parent := -1 } := by rw [hd, em, hr.do_]
  have g1 : (edDo l e)[p]? = some { y with kids := y.kids.eraseIdx i } := by rw [hrem, List.getElem?_set_ne (Ne.symm hr.ne), List.getElem?_set_self hpl]
  have g2 : (edDo l e)[m]? = some { x with parent := -1 } := by rw [hrem, List.getElem?_set_self (by rw [List.length_set]; exact hml)]
  have hm0 : m ≠ 0 := fun e0 => by
    subst e0
    exact hr.kind ((G.root 0 x hr.hx).2 rfl)
  have hil := (List.getElem?_eq_some_iff.1 hr.at_).1
  rw [hpar, nodeD_nat hr.hy, em, hr.idx]
  unfold unRem
  show (match nodeAt (edDo l e) (p : Int), nodeAt (edDo l e) e.at_ with | some p, some x => _ | _, _ => none) = _
  rw [em, nodeAt_nat, nodeAt_nat, g1, g2]
  show (if (m : Int) = 0 ∨ (-1 : Int) ≠ -1 ∨ (i : Int) < 0 ∨ ((y.kids.eraseIdx i).length : Int) < (i : Int) then none else some (setAt (setAt (edDo l e) (p : Int) fun q => { q with kids := q.kids.take (i : Int).toNat ++ (m : Int) :: q.kids.drop (i : Int).toNat }) (m : Int) fun x => { x with parent := (p : Int) })) = some l
  rw [if_neg (by
    rintro (h | h | h | h)
    · omega
    · exact h rfl
    · omega
    · rw [List.length_eraseIdx_of_lt hil] at h; omega)]
  rw [setAt_nat g1, setAt_nat (m := m) (x := { x with parent := -1 }) (by rw [List.getElem?_set_ne hr.ne]; exact g2), Int.toNat_natCast]
  have hlen : (edDo l e).length = l.length := by rw [hrem]; simp
  refine congrArg some ?_
  apply List.ext_getElem?
  intro j
  by_cases j1 : m = j
  · subst j1
    rw [List.getElem?_set_self (by rw [List.length_set, hlen]; exact hml), hr.hx, ← hr.par]
  · rw [List.getElem?_set_ne j1]
    by_cases j2 : p = j
    · subst j2
      rw [List.getElem?_set_self (by rw [hlen]; exact hpl), hr.hy]
      show some { y with kids := (y.kids.eraseIdx i).take i ++ (m : Int) :: (y.kids.eraseIdx i).drop i } = some y
      rw [eraseIdx_ins hr.at_]
    · rw [List.getElem?_set_ne j2, hrem, List.getElem?_set_ne j1, List.getElem?_set_ne j2]
/-- A step that was done is undone. -/
theorem un_step {l : List Nd} (G : Good l) {e : Edt} (he : edErr l e = 0) : unD (edDo l e) (noteD l (edDo l e) e) = some l := by
  have hed : (noteD l (edDo l e) e).edit = e := by
    unfold noteD atNote
    split
    · split <;> rfl
    · split
      · rfl
      · split
        · rfl
        · split
          · rfl
          · split <;> rfl
  unfold unD
  rw [hed]
  rcases edErr_do he with h | h | h | h | h | h
  · rw [if_pos h]
    have : noteD l (edDo l e) e = atNote e (nodeD l e.at_).attrs := by unfold noteD; rw [if_pos (Or.inl h)]
    rw [this]; exact un_attr h he
  · rw [if_neg (by omega), if_pos h]
    have : noteD l (edDo l e) e = atNote e (nodeD l e.at_).attrs := by unfold noteD; rw [if_pos (Or.inr h)]
    rw [this]; exact un_drop G h he
  · rw [if_neg (by omega), if_neg (by omega), if_pos h]
    have : noteD l (edDo l e) e = ⟨e, false, (nodeD l e.at_).text, 0, 0⟩ := by unfold noteD; rw [if_neg (by omega), if_pos h]
    rw [this]; exact un_text h he
  · rw [if_neg (by omega), if_neg (by omega), if_neg (by omega), if_pos h]
    have : noteD l (edDo l e) e = ⟨e, false, ⟨#[]⟩, 0, l.length⟩ := by unfold noteD; rw [if_neg (by omega), if_neg (by omega), if_pos h]
    rw [this]; exact un_make G h
  · rw [if_neg (by omega), if_neg (by omega), if_neg (by omega), if_neg (by omega), if_pos h]
    have : noteD l (edDo l e) e = ⟨e, false, ⟨#[]⟩, -1, Lib.idxOf (nodeD (edDo l e) e.at_).kids e.to_⟩ := by unfold noteD; rw [if_neg (by omega), if_neg (by omega), if_neg (by omega), if_pos h]
    rw [this]; exact un_ins G h he
  · rw [if_neg (by omega), if_neg (by omega), if_neg (by omega), if_neg (by omega), if_neg (by omega), if_pos h]
    have : noteD l (edDo l e) e = ⟨e, false, ⟨#[]⟩, parD l e.at_, Lib.idxOf (nodeD l (parD l e.at_)).kids e.at_⟩ := by unfold noteD; rw [if_neg (by omega), if_neg (by omega), if_neg (by omega), if_neg (by omega), if_pos h]
    rw [this]; exact un_rem G h he
theorem steps_app : ∀ (us bs : List Edt) (l k : List Nd), runE l us = some k → stepsD l (us ++ bs) = stepsD l us ++ stepsD k bs := by
  intro us
  induction us with
  | nil => intro bs l k h; obtain rfl := Option.some.inj h; rfl
  | cons e r ih =>
    intro bs l k h
    rw [runE] at h
    by_cases he : edErr l e = 0
    · rw [if_pos he] at h
      show _ :: stepsD _ (r ++ bs) = _ :: _ ++ _
      rw [ih bs _ k h]
      rfl
    · rw [if_neg he] at h; cases h
theorem steps_len : ∀ (es : List Edt) (l : List Nd), (stepsD l es).length = es.length := by
  intro es
  induction es with
  | nil => intro l; rfl
  | cons e r ih => intro l; show (stepsD _ r).length + 1 = _; rw [ih]; rfl
/-- Steps are undone from the last one. -/
theorem un_steps : ∀ (es : List Edt) (l d : List Nd), Good l → runE l es = some d → runU d (stepsD l es).reverse = some l := by
  intro es
  induction es with
  | nil => intro l d _ h; obtain rfl := Option.some.inj h; rfl
  | cons e r ih =>
    intro l d G h
    rw [runE] at h
    by_cases he : edErr l e = 0
    · rw [if_pos he] at h
      show runU d (noteD l (edDo l e) e :: stepsD (edDo l e) r).reverse = some l
      rw [List.reverse_cons, runU_app, ih _ _ (good_ed G he) h]
      show runU (edDo l e) [noteD l (edDo l e) e] = some l
      show (unD _ _).bind _ = _
      rw [un_step G he]
      rfl
    · rw [if_neg he] at h; cases h
/-- The nodes of a step. -/
def nodesD (s : Stp) : List Int :=
  if s.edit.do_ = 1 ∨ s.edit.do_ = 2 ∨ s.edit.do_ = 3 then [s.edit.at_] else if s.edit.do_ = 5 then [s.edit.at_, s.edit.to_] else if s.edit.do_ = 6 then [s.edit.at_, s.parent] else if s.edit.do_ = 4 then [s.place] else []
theorem step_rest {l : List Nd} {e : Edt} (he : edErr l e = 0) {n : Int} (h : n ∉ nodesD (noteD l (edDo l e) e)) : nodeAt (edDo l e) n = nodeAt l n := by
  have hed : (noteD l (edDo l e) e).edit = e := by
    unfold noteD atNote
    split
    · split <;> rfl
    · split
      · rfl
      · split
        · rfl
        · split
          · rfl
          · split <;> rfl
  unfold nodesD at h
  rw [hed] at h
  by_cases h4 : e.do_ = 4
  · rw [if_neg (by omega), if_neg (by omega), if_neg (by omega), if_pos h4] at h
    have : (noteD l (edDo l e) e).place = l.length := by unfold noteD; rw [if_neg (by omega), if_neg (by omega), if_pos h4]
    rw [this] at h
    rw [make_eq h4]
    exact nodeAt_app fun e => h (by rw [e]; simp)
  · rw [edDo_wr he h4]
    refine runW_node _ _ fun w hw e0 => h ?_
    subst e0
    unfold wrD at hw
    rcases edErr_do he with h1 | h1 | h1 | h1 | h1 | h1
    · rw [if_pos h1] at hw
      obtain rfl := List.mem_singleton.1 hw
      rw [if_pos (Or.inl h1)]; simp
    · rw [if_neg (by omega), if_pos h1] at hw
      obtain rfl := List.mem_singleton.1 hw
      rw [if_pos (Or.inr (Or.inl h1))]; simp
    · rw [if_neg (by omega), if_neg (by omega), if_pos h1] at hw
      obtain rfl := List.mem_singleton.1 hw
      rw [if_pos (Or.inr (Or.inr h1))]; simp
    · exact absurd h1 h4
    · rw [if_neg (by omega), if_neg (by omega), if_neg (by omega), if_pos h1] at hw
      rw [if_neg (by omega), if_pos h1]
      rcases List.mem_cons.1 hw with rfl | hw
      · simp
      · obtain rfl := List.mem_singleton.1 hw
        simp
    · rw [if_neg (by omega), if_neg (by omega), if_neg (by omega), if_neg (by omega), if_pos h1] at hw
      rw [if_neg (by omega), if_neg (by omega), if_pos h1]
      have hp : (noteD l (edDo l e) e).parent = parD l e.at_ := by unfold noteD; rw [if_neg (by omega), if_neg (by omega), if_neg (by omega), if_neg (by omega), if_pos h1]
      rw [hp]
      rcases List.mem_cons.1 hw with rfl | hw
      · simp
      · obtain rfl := List.mem_singleton.1 hw
        simp
/-- What no step touches is as it was. -/
theorem steps_rest : ∀ (es : List Edt) (l d : List Nd), runE l es = some d → ∀ n : Int, n ∉ (stepsD l es).flatMap nodesD → nodeAt d n = nodeAt l n := by
  intro es
  induction es with
  | nil => intro l d h n _; obtain rfl := Option.some.inj h; rfl
  | cons e r ih =>
    intro l d h n hn
    rw [runE] at h
    by_cases he : edErr l e = 0
    · rw [if_pos he] at h
      have hs : stepsD l (e :: r) = noteD l (edDo l e) e :: stepsD (edDo l e) r := rfl
      rw [hs, List.flatMap_cons, List.mem_append] at hn
      exact (ih _ _ h n fun k => hn (Or.inr k)).trans (step_rest he fun k => hn (Or.inl k))
    · rw [if_neg he] at h; cases h
end Go.Proofs.YtfeighclpaijoaaGreatDoor
