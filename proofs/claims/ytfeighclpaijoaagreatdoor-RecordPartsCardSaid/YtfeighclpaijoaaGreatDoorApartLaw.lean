/-
What an edit touches: what it does not touch is as it was; writes of unlike nodes may be done in either order. No program in sight.
-/
import Derived.Test.YtfeighclpaijoaaGreatDoorEdLaws
namespace Go.Proofs.YtfeighclpaijoaaGreatDoor
open Go.RowKit Go.Cl

/-- The node on top of a node's way up. -/
def topF (l : List Nd) : Nat → Int → Int
  | 0, z => z
  | f + 1, z => if 0 ≤ parD l z then topF l f (parD l z) else z
def topD (l : List Nd) (z : Int) : Int := topF l 41 z
/-- What an edit touches. -/
def touchD (l : List Nd) (e : Edt) : List Int :=
  if e.do_ = 4 then [(l.length : Int)] else if e.do_ = 5 then [e.at_, e.to_] ++ (if 0 < topD l e.at_ then [topD l e.at_] else [])
  else if e.do_ = 6 then [e.at_, parD l e.at_] else [e.at_]
theorem setAt_other {l : List Nd} {n : Int} {f : Nd → Nd} {m : Nat} (h : (m : Int) ≠ n) : (setAt l n f)[m]? = l[m]? := by
  unfold setAt
  cases hx : nodeAt l n with
  | none => rfl
  | some x =>
    obtain ⟨k, rfl, hk⟩ := nodeAt_some hx
    show (l.set (k : Int).toNat (f x))[m]? = l[m]?
    rw [Int.toNat_natCast, List.getElem?_set_ne (by omega)]
theorem setAt_len (l : List Nd) (n : Int) (f : Nd → Nd) : (setAt l n f).length = l.length := by
  unfold setAt
  split
  · rfl
  · rw [List.length_set]
theorem nodeAt_set {l : List Nd} {n m : Int} {f : Nd → Nd} (h : m ≠ n) : nodeAt (setAt l n f) m = nodeAt l m := by
  unfold nodeAt
  by_cases h1 : m < 0
  · rw [if_pos h1, if_pos h1]
  · rw [if_neg h1, if_neg h1]
    exact setAt_other (by omega)
theorem setAt_none {l : List Nd} {n : Int} (h : nodeAt l n = none) (f : Nd → Nd) : setAt l n f = l := by unfold setAt; rw [h]
/-- Writes of unlike nodes. -/
theorem setAt_comm {l : List Nd} {n m : Int} {f g : Nd → Nd} (h : n ≠ m) : setAt (setAt l n f) m g = setAt (setAt l m g) n f := by
  cases hx : nodeAt l n with
  | none =>
    rw [setAt_none hx, setAt_none ((nodeAt_set h).trans hx)]
  | some x =>
    cases hy : nodeAt l m with
    | none =>
      rw [setAt_none hy, setAt_none ((nodeAt_set (Ne.symm h)).trans hy)]
    | some y =>
      obtain ⟨a, rfl, ha⟩ := nodeAt_some hx
      obtain ⟨b, rfl, hb⟩ := nodeAt_some hy
      have hab : a ≠ b := fun e => h (by rw [e])
      rw [setAt_nat ha, setAt_nat hb, setAt_nat (m := b) (x := y) (by rw [List.getElem?_set_ne hab]; exact hb), setAt_nat (m := a) (x := x) (by rw [List.getElem?_set_ne (Ne.symm hab)]; exact ha), List.set_comm _ _ hab]
/-- What an edit does not touch is as it was. -/
theorem touch_rest {l : List Nd} {e : Edt} {m : Nat} (hm : m < (edDo l e).length) (h : (m : Int) ∉ touchD l e) : m < l.length ∧ (edDo l e)[m]? = l[m]? := by
  unfold touchD at h
  unfold edDo at hm ⊢
  by_cases h1 : e.do_ = 1
  · rw [if_pos h1] at hm ⊢
    rw [if_neg (by omega), if_neg (by omega), if_neg (by omega)] at h
    unfold attrDo at hm ⊢
    rw [setAt_len] at hm
    exact ⟨hm, setAt_other (by simpa using h)⟩
  rw [if_neg h1] at hm ⊢
  by_cases h2 : e.do_ = 2
  · rw [if_pos h2] at hm ⊢
    rw [if_neg (by omega), if_neg (by omega), if_neg (by omega)] at h
    unfold dropDo at hm ⊢
    rw [setAt_len] at hm
    exact ⟨hm, setAt_other (by simpa using h)⟩
  rw [if_neg h2] at hm ⊢
  by_cases h3 : e.do_ = 3
  · rw [if_pos h3] at hm ⊢
    rw [if_neg (by omega), if_neg (by omega), if_neg (by omega)] at h
    unfold textDo at hm ⊢
    rw [setAt_len] at hm
    exact ⟨hm, setAt_other (by simpa using h)⟩
  rw [if_neg h3] at hm ⊢
  by_cases h4 : e.do_ = 4
  · rw [if_pos h4] at hm ⊢
    rw [if_pos h4] at h
    unfold makeDo at hm ⊢
    rw [List.length_append, List.length_singleton] at hm
    have : m ≠ l.length := fun e => h (by rw [e]; simp)
    exact ⟨by omega, List.getElem?_append_left (by omega)⟩
  rw [if_neg h4] at hm ⊢
  rw [if_neg h4] at h
  by_cases h5 : e.do_ = 5
  · rw [if_pos h5] at hm ⊢
    rw [if_pos h5] at h
    unfold insDo at hm ⊢
    rw [setAt_len, setAt_len] at hm
    have ha : (m : Int) ≠ e.at_ := fun e => h (by rw [e]; simp)
    have hb : (m : Int) ≠ e.to_ := fun e => h (by rw [e]; simp)
    exact ⟨hm, (setAt_other hb).trans (setAt_other ha)⟩
  rw [if_neg h5] at hm ⊢ h
  by_cases h6 : e.do_ = 6
  · rw [if_pos h6] at hm ⊢ h
    have ha : (m : Int) ≠ e.at_ := fun e => h (by rw [e]; simp)
    have hb : (m : Int) ≠ parD l e.at_ := fun e => h (by rw [e]; simp)
    unfold remDo at hm ⊢
    cases hx : nodeAt l e.at_ with
    | none => rw [hx] at hm; exact ⟨hm, rfl⟩
    | some x =>
      rw [hx] at hm
      obtain ⟨k, hk, hkx⟩ := nodeAt_some hx
      have hp : parD l e.at_ = x.parent := by rw [hk]; exact parD_at hkx
      rw [hp] at hb
      have hm2 : m < (setAt (setAt l x.parent fun p => { p with kids := p.kids.eraseIdx (Lib.idxOf p.kids e.at_).toNat }) e.at_ fun x => { x with parent := -1 }).length := hm
      rw [setAt_len, setAt_len] at hm2
      exact ⟨hm2, (setAt_other ha).trans (setAt_other hb)⟩
  · rw [if_neg h6] at hm ⊢
    exact ⟨hm, rfl⟩

/-! ### an edit as writes -/
def runW (l : List Nd) (ws : List (Int × (Nd → Nd))) : List Nd := ws.foldl (fun l w => setAt l w.1 w.2) l
def wrD (l : List Nd) (e : Edt) : List (Int × (Nd → Nd)) :=
  if e.do_ = 1 then [(e.at_, fun x => { x with attrs := attrPut x.attrs e.name e.value })]
  else if e.do_ = 2 then [(e.at_, fun x => { x with attrs := x.attrs.eraseIdx (findA x.attrs e.name).toNat })]
  else if e.do_ = 3 then [(e.at_, fun x => { x with text := e.value })]
  else if e.do_ = 5 then [(e.at_, fun x => { x with kids := x.kids.take (insAt x.kids e.before).toNat ++ e.to_ :: x.kids.drop (insAt x.kids e.before).toNat }), (e.to_, fun y => { y with parent := e.at_ })]
  else if e.do_ = 6 then [(parD l e.at_, fun p => { p with kids := p.kids.eraseIdx (Lib.idxOf p.kids e.at_).toNat }), (e.at_, fun x => { x with parent := -1 })]
  else []
theorem runW_len (ws : List (Int × (Nd → Nd))) : ∀ l : List Nd, (runW l ws).length = l.length := by
  induction ws with
  | nil => intro l; rfl
  | cons w r ih => intro l; exact (ih _).trans (setAt_len _ _ _)
theorem runW_set {n : Int} {f : Nd → Nd} : ∀ (ws : List (Int × (Nd → Nd))) (l : List Nd), (∀ w ∈ ws, w.1 ≠ n) → runW (setAt l n f) ws = setAt (runW l ws) n f := by
  intro ws
  induction ws with
  | nil => intro l _; rfl
  | cons w r ih =>
    intro l h
    show runW (setAt (setAt l n f) w.1 w.2) r = setAt (runW (setAt l w.1 w.2) r) n f
    rw [setAt_comm (Ne.symm (h w (by simp)))]
    exact ih _ fun v hv => h v (by simp [hv])
theorem runW_comm : ∀ (ws vs : List (Int × (Nd → Nd))) (l : List Nd), (∀ w ∈ ws, ∀ v ∈ vs, w.1 ≠ v.1) → runW (runW l ws) vs = runW (runW l vs) ws := by
  intro ws
  induction ws with
  | nil => intro vs l _; rfl
  | cons w r ih =>
    intro vs l h
    show runW (runW (setAt l w.1 w.2) r) vs = runW (setAt (runW l vs) w.1 w.2) r
    rw [ih vs _ (fun x hx => h x (by simp [hx])), runW_set vs l (fun v hv => Ne.symm (h w (by simp) v hv))]
theorem nodeAt_app {l : List Nd} {y : Nd} {n : Int} (h : n ≠ l.length) : nodeAt (l ++ [y]) n = nodeAt l n := by
  unfold nodeAt
  by_cases h1 : n < 0
  · rw [if_pos h1, if_pos h1]
  · rw [if_neg h1, if_neg h1]
    by_cases h2 : n.toNat < l.length
    · rw [List.getElem?_append_left h2]
    · rw [List.getElem?_eq_none (by rw [List.length_append, List.length_singleton]; omega), List.getElem?_eq_none (by omega)]
theorem setAt_app {l : List Nd} {y : Nd} {n : Int} {f : Nd → Nd} (h : n ≠ l.length) : setAt (l ++ [y]) n f = setAt l n f ++ [y] := by
  cases hx : nodeAt l n with
  | none => rw [setAt_none hx, setAt_none ((nodeAt_app h).trans hx)]
  | some x =>
    obtain ⟨a, rfl, ha⟩ := nodeAt_some hx
    have hl := (List.getElem?_eq_some_iff.1 ha).1
    rw [setAt_nat ha, setAt_nat (m := a) (x := x) (by rw [List.getElem?_append_left hl]; exact ha), List.set_append_left _ _ hl]
theorem runW_app {y : Nd} : ∀ (ws : List (Int × (Nd → Nd))) (l : List Nd), (∀ w ∈ ws, w.1 ≠ l.length) → runW (l ++ [y]) ws = runW l ws ++ [y] := by
  intro ws
  induction ws with
  | nil => intro l _; rfl
  | cons w r ih =>
    intro l h
    show runW (setAt (l ++ [y]) w.1 w.2) r = runW (setAt l w.1 w.2) r ++ [y]
    rw [setAt_app (h w (by simp))]
    exact ih _ fun v hv => by rw [setAt_len]; exact h v (by simp [hv])
/-- What may be done is its writes, or makes a node. -/
theorem edDo_wr {l : List Nd} {e : Edt} (h : edErr l e = 0) (h4 : e.do_ ≠ 4) : edDo l e = runW l (wrD l e) := by
  unfold edDo wrD
  by_cases h1 : e.do_ = 1
  · rw [if_pos h1, if_pos h1]; rfl
  rw [if_neg h1, if_neg h1]
  by_cases h2 : e.do_ = 2
  · rw [if_pos h2, if_pos h2]; rfl
  rw [if_neg h2, if_neg h2]
  by_cases h3 : e.do_ = 3
  · rw [if_pos h3, if_pos h3]; rfl
  rw [if_neg h3, if_neg h3, if_neg h4]
  by_cases h5 : e.do_ = 5
  · rw [if_pos h5, if_pos h5]; rfl
  rw [if_neg h5, if_neg h5]
  by_cases h6 : e.do_ = 6
  · rw [if_pos h6, if_pos h6]
    unfold edErr at h
    rw [if_neg h1, if_neg h2, if_neg h3, if_neg h4, if_neg h5, if_pos h6] at h
    unfold remErr at h
    unfold remDo
    cases hx : nodeAt l e.at_ with
    | none => rw [hx] at h; cases h
    | some x =>
      obtain ⟨k, hk, hkx⟩ := nodeAt_some hx
      have hp : parD l e.at_ = x.parent := by rw [hk]; exact parD_at hkx
      rw [hp]; rfl
  · rw [if_neg h6, if_neg h6]; rfl
/-- What is written is touched. -/
theorem wr_touch {l : List Nd} {e : Edt} : ∀ w ∈ wrD l e, w.1 ∈ touchD l e := by
  intro w hw
  unfold wrD at hw
  unfold touchD
  by_cases h1 : e.do_ = 1
  · rw [if_pos h1] at hw
    rw [if_neg (by omega), if_neg (by omega), if_neg (by omega)]
    obtain rfl := List.mem_singleton.1 hw
    simp
  rw [if_neg h1] at hw
  by_cases h2 : e.do_ = 2
  · rw [if_pos h2] at hw
    rw [if_neg (by omega), if_neg (by omega), if_neg (by omega)]
    obtain rfl := List.mem_singleton.1 hw
    simp
  rw [if_neg h2] at hw
  by_cases h3 : e.do_ = 3
  · rw [if_pos h3] at hw
    rw [if_neg (by omega), if_neg (by omega), if_neg (by omega)]
    obtain rfl := List.mem_singleton.1 hw
    simp
  rw [if_neg h3] at hw
  by_cases h5 : e.do_ = 5
  · rw [if_pos h5] at hw
    rw [if_neg (by omega), if_pos h5]
    rcases List.mem_cons.1 hw with rfl | hw
    · simp
    · obtain rfl := List.mem_singleton.1 hw
      simp
  rw [if_neg h5] at hw
  by_cases h6 : e.do_ = 6
  · rw [if_pos h6] at hw
    rw [if_neg (by omega), if_neg h5, if_pos h6]
    rcases List.mem_cons.1 hw with rfl | hw
    · simp
    · obtain rfl := List.mem_singleton.1 hw
      simp
  · rw [if_neg h6] at hw
    cases hw
/-- Another edit leaves an edit's writes as they are. -/
theorem wr_same {l l' : List Nd} {e : Edt} (h : e.do_ = 6 → parD l' e.at_ = parD l e.at_) : wrD l' e = wrD l e := by
  unfold wrD
  by_cases h6 : e.do_ = 6
  · rw [h h6]
  · simp only [if_neg h6]
theorem parD_node {l : List Nd} {n : Int} {x : Nd} (h : nodeAt l n = some x) : parD l n = x.parent := by
  obtain ⟨k, rfl, hk⟩ := nodeAt_some h
  exact parD_at hk
theorem runW_node {n : Int} : ∀ (ws : List (Int × (Nd → Nd))) (l : List Nd), (∀ w ∈ ws, w.1 ≠ n) → nodeAt (runW l ws) n = nodeAt l n := by
  intro ws
  induction ws with
  | nil => intro l _; rfl
  | cons w r ih =>
    intro l h
    exact (ih (setAt l w.1 w.2) fun v hv => h v (by simp [hv])).trans (nodeAt_set (Ne.symm (h w (by simp))))
theorem make_eq {l : List Nd} {e : Edt} (h4 : e.do_ = 4) : edDo l e = l ++ [{ e.node with parent := -1, kids := [] }] := by
  unfold edDo
  rw [if_neg (by omega), if_neg (by omega), if_neg (by omega), if_pos h4]
  rfl
/-- A node that is not touched is the same one. -/
theorem node_rest {l : List Nd} {f : Edt} {n : Int} (hf : edErr l f = 0) (h : n ∉ touchD l f) : nodeAt (edDo l f) n = nodeAt l n := by
  by_cases h4 : f.do_ = 4
  · rw [make_eq h4]
    refine nodeAt_app fun e => h ?_
    unfold touchD
    rw [if_pos h4, e]
    simp
  · rw [edDo_wr hf h4]
    exact runW_node _ _ fun w hw e => h (e ▸ wr_touch w hw)
theorem at_touch {l : List Nd} {e : Edt} (h4 : e.do_ ≠ 4) : e.at_ ∈ touchD l e := by
  unfold touchD
  rw [if_neg h4]
  split
  · simp
  · split <;> simp
theorem par_rest {l : List Nd} {e f : Edt} (he : edErr l e = 0) (hf : edErr l f = 0) (hd : ∀ n ∈ touchD l e, n ∉ touchD l f) : e.do_ = 6 → parD (edDo l f) e.at_ = parD l e.at_ := fun h6 => by
  have h := node_rest hf (hd _ (at_touch (by omega)))
  unfold edErr at he
  rw [if_neg (by omega), if_neg (by omega), if_neg (by omega), if_neg (by omega), if_neg (by omega), if_pos h6] at he
  unfold remErr at he
  cases hx : nodeAt l e.at_ with
  | none => rw [hx] at he; cases he
  | some x => rw [parD_node hx, parD_node (h.trans hx)]
/-- Edits that do not meet come to the same in either order. -/
theorem ed_comm {l : List Nd} {e f : Edt} (he : edErr l e = 0) (hf : edErr l f = 0) (hd : ∀ n ∈ touchD l e, n ∉ touchD l f) (he2 : edErr (edDo l f) e = 0) (hf2 : edErr (edDo l e) f = 0) : edDo (edDo l e) f = edDo (edDo l f) e := by
  have hd2 : ∀ n ∈ touchD l f, n ∉ touchD l e := fun n h1 h2 => hd n h2 h1
  have key : ∀ a b : Edt, a.do_ = 4 → b.do_ ≠ 4 → edErr l a = 0 → edErr l b = 0 → edErr (edDo l a) b = 0 → (∀ n ∈ touchD l b, n ∉ touchD l a) → edDo (edDo l a) b = edDo (edDo l b) a := fun a b ha hb h1 h2 h3 h4 => by
    rw [edDo_wr h3 hb, wr_same (par_rest h2 h1 h4), make_eq ha, make_eq ha, edDo_wr h2 hb]
    exact runW_app _ _ fun w hw e => h4 _ (wr_touch w hw) (by unfold touchD; rw [if_pos ha, e]; simp)
  by_cases h4 : e.do_ = 4
  · by_cases h5 : f.do_ = 4
    · exfalso
      refine hd l.length ?_ ?_
      · unfold touchD; rw [if_pos h4]; simp
      · unfold touchD; rw [if_pos h5]; simp
    · exact key e f h4 h5 he hf hf2 hd2
  · by_cases h5 : f.do_ = 4
    · exact (key f e h5 h4 hf he he2 hd).symm
    · rw [edDo_wr hf2 h5, wr_same (par_rest hf he hd2), edDo_wr he2 h4, wr_same (par_rest he hf hd), edDo_wr he h4, edDo_wr hf h5]
      exact runW_comm _ _ _ fun w hw v hv e => hd _ (wr_touch w hw) (e ▸ wr_touch v hv)
/-- What may be done may be done behind an edit that it does not meet: but for an insert. -/
theorem err_rest {l : List Nd} {e f : Edt} (he : edErr l e = 0) (hf : edErr l f = 0) (hd : ∀ n ∈ touchD l e, n ∉ touchD l f) (h5 : e.do_ ≠ 5) : edErr (edDo l f) e = 0 := by
  by_cases h4 : e.do_ = 4
  · have hf4 : f.do_ ≠ 4 := fun h => by
      refine hd l.length ?_ ?_
      · unfold touchD; rw [if_pos h4]; simp
      · unfold touchD; rw [if_pos h]; simp
    have hl : (edDo l f).length = l.length := by rw [edDo_wr hf hf4, runW_len]
    unfold edErr at he ⊢
    rw [if_neg (by omega), if_neg (by omega), if_neg (by omega), if_pos h4] at he ⊢
    unfold makeErr at he ⊢
    rw [hl]
    exact he
  · have hn := node_rest hf (hd _ (at_touch h4))
    unfold edErr at he ⊢
    by_cases h1 : e.do_ = 1
    · rw [if_pos h1] at he ⊢
      unfold attrErr at he ⊢
      rw [hn]; exact he
    rw [if_neg h1] at he ⊢
    by_cases h2 : e.do_ = 2
    · rw [if_pos h2] at he ⊢
      unfold dropErr at he ⊢
      rw [hn]; exact he
    rw [if_neg h2] at he ⊢
    by_cases h3 : e.do_ = 3
    · rw [if_pos h3] at he ⊢
      unfold textErr at he ⊢
      rw [hn]; exact he
    rw [if_neg h3, if_neg h4, if_neg h5] at he ⊢
    by_cases h6 : e.do_ = 6
    · rw [if_pos h6] at he ⊢
      unfold remErr at he ⊢
      rw [hn]; exact he
    · rw [if_neg h6] at he
      cases he
end Go.Proofs.YtfeighclpaijoaaGreatDoor
