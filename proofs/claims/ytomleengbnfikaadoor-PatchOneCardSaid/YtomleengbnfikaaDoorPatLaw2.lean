/-
Patches, where one node has turned: the plain law of documents. No program in sight.
-/
import Derived.Test.YtomleengbnfikaaDoorPatLaw
import Derived.Test.YtomleengbnfikaaDoorAlike2
import Derived.Test.YtomleengbnfikaaDoorSpanPartsLaw
namespace Go.Proofs.YtomleengbnfikaaDoor
open Go.RowKit Go.Cl

/-- What is told of one node that becomes another. -/
def ownE (n : Int) (x y : Nd) : List Edt := attrsE2 n x.attrs y.attrs ++ (if x.text = y.text then [] else [textE n y.text])
/-- One node has turned. -/
structure Turned (l l' : List Nd) (t : Nat) (x x' : Nd) : Prop where
  good : Good l
  good2 : Good l'
  len : l'.length = l.length
  off : ∀ n, n ≠ t → l'[n]? = l[n]?
  at_ : l[t]? = some x
  at2 : l'[t]? = some x'
  kind : x'.kind = x.kind
  name : x'.name = x.name
  kids : x'.kids = x.kids
  last : LastA x.attrs x'.attrs
  last2 : LastA x'.attrs x.attrs
  fin : (ownE t x x' = [] ∧ l' = l) ∨ ∃ e, ownE t x x' = [e] ∧ edErr l e = 0 ∧ edDo l e = l'
theorem own_same (n : Int) (x : Nd) : ownE n x x = [] := by
  unfold ownE
  rw [attrs_same, if_pos rfl]
  rfl
theorem set_same {l : List Nd} {t : Nat} {x : Nd} (h : l[t]? = some x) : l.set t x = l := by
  have hl := (List.getElem?_eq_some_iff.1 h).1
  refine List.ext_getElem? fun j => ?_
  rw [List.getElem?_set]
  split
  · rename_i e; subst e; first | exact h.symm | (rw [if_pos hl, h])
  · rfl
theorem turned_set {l : List Nd} {t : Nat} {x x' : Nd} (G : Good l) (G2 : Good (l.set t x')) (h : l[t]? = some x) (h1 : x'.kind = x.kind) (h2 : x'.name = x.name) (h3 : x'.kids = x.kids) (h4 : LastA x.attrs x'.attrs) (h5 : LastA x'.attrs x.attrs)
    (h6 : (ownE t x x' = [] ∧ x' = x) ∨ ∃ e, ownE t x x' = [e] ∧ edErr l e = 0 ∧ edDo l e = l.set t x') : Turned l (l.set t x') t x x' := by
  have hl := (List.getElem?_eq_some_iff.1 h).1
  refine ⟨G, G2, List.length_set, fun n hn => List.getElem?_set_ne (Ne.symm hn), h, by rw [List.getElem?_set_self hl], h1, h2, h3, h4, h5, h6.imp (fun ⟨e1, e2⟩ => ⟨e1, by rw [e2]; exact set_same h⟩) id⟩
theorem ed_1 {l : List Nd} {e : Edt} (h : e.do_ = 1) : edErr l e = attrErr l e.at_ e.name e.value ∧ edDo l e = attrDo l e.at_ e.name e.value := by
  unfold edErr edDo
  rw [if_pos h, if_pos h]
  exact ⟨rfl, rfl⟩
theorem ed_2 {l : List Nd} {e : Edt} (h : e.do_ = 2) : edErr l e = dropErr l e.at_ e.name ∧ edDo l e = dropDo l e.at_ e.name := by
  have h1 : ¬ e.do_ = 1 := by omega
  unfold edErr edDo
  rw [if_neg h1, if_pos h, if_neg h1, if_pos h]
  exact ⟨rfl, rfl⟩
theorem ed_3 {l : List Nd} {e : Edt} (h : e.do_ = 3) : edErr l e = textErr l e.at_ e.value ∧ edDo l e = textDo l e.at_ e.value := by
  have h1 : ¬ e.do_ = 1 := by omega
  have h2 : ¬ e.do_ = 2 := by omega
  unfold edErr edDo
  rw [if_neg h1, if_neg h2, if_pos h, if_neg h1, if_neg h2, if_pos h]
  exact ⟨rfl, rfl⟩
/-- An edit of a text or of an attribute turns one node. -/
theorem turned_ed {l : List Nd} (G : Good l) {e : Edt} (he : edErr l e = 0) (hd : e.do_ = 1 ∨ e.do_ = 2 ∨ e.do_ = 3) (hlast : e.do_ = 2 → ∀ (t : Nat) x, e.at_ = (t : Int) → l[t]? = some x → ∃ pre a, x.attrs = pre ++ [a] ∧ a.1 = e.name) :
    ∃ (t : Nat) (x x' : Nd), e.at_ = (t : Int) ∧ t < l.length ∧ Turned l (edDo l e) t x x' := by
  have G2 := good_ed G he
  have hn : ∃ (t : Nat) (x : Nd), e.at_ = (t : Int) ∧ l[t]? = some x := by
    have : nodeAt l e.at_ ≠ none := fun hnone => by
      rcases hd with h | h | h
      · rw [(ed_1 h).1] at he; unfold attrErr at he; rw [hnone] at he; cases he
      · rw [(ed_2 h).1] at he; unfold dropErr at he; rw [hnone] at he; cases he
      · rw [(ed_3 h).1] at he; unfold textErr at he; rw [hnone] at he; cases he
    cases h : nodeAt l e.at_ with
    | none => exact absurd h this
    | some x => obtain ⟨m, e1, e2⟩ := nodeAt_some h; exact ⟨m, x, e1, e2⟩
  obtain ⟨t, x, ht, hx⟩ := hn
  have hl := (List.getElem?_eq_some_iff.1 hx).1
  have hA := ((nodeE_iff x).1 (G.each x (List.mem_of_getElem? hx))).2.2.1
  refine ⟨t, x, ?_⟩
  rcases hd with h | h | h
  · have hdo : edDo l e = l.set t { x with attrs := attrPut x.attrs e.name e.value } := by rw [(ed_1 h).2]; unfold attrDo; rw [ht]; exact setAt_nat hx _
    have herr : ∀ nm v, nm = e.name → v = e.value → edErr l (attrE t (nm, v)) = 0 ∧ edDo l (attrE t (nm, v)) = edDo l e := fun nm v h1 h2 => by
      subst h1 h2
      rw [← he, (ed_1 h).1, (ed_1 h).2, ht]
      exact ed_1 rfl
    rw [hdo] at G2 herr ⊢
    rcases findA_cases x.attrs e.name with ⟨hf, hno⟩ | ⟨i, a, hf, hi, hnm⟩
    · have hp : attrPut x.attrs e.name e.value = x.attrs ++ [(e.name, e.value)] := by unfold attrPut; rw [if_pos (by omega)]
      rw [hp] at G2 herr ⊢
      obtain ⟨k1, k2, k3⟩ := attrs_new (t : Int) (was := x.attrs) (a := (e.name, e.value)) fun b hb heq => hno b hb (by rw [heq])
      refine ⟨{ x with attrs := x.attrs ++ [(e.name, e.value)] }, ht, hl, turned_set G G2 hx rfl rfl rfl k2 k3 (.inr ⟨attrE t (e.name, e.value), ?_, herr _ _ rfl rfl⟩)⟩
      show attrsE2 _ x.attrs (x.attrs ++ [(e.name, e.value)]) ++ (if x.text = x.text then [] else _) = _
      rw [k1, if_pos rfl]
      rfl
    · have hnm2 : a.1 = e.name := ba_eq hnm
      have hp : attrPut x.attrs e.name e.value = x.attrs.set i (e.name, e.value) := by
        unfold attrPut
        rw [if_neg (by omega), hf, Int.toNat_natCast, hi]
        show x.attrs.set i (a.1, e.value) = _
        rw [hnm2]
      rw [hp] at G2 herr ⊢
      obtain ⟨an, av⟩ := a
      obtain rfl : an = e.name := hnm2
      obtain ⟨k1, k2, k3⟩ := attrs_set (t : Int) hA.once (v := e.value) hi
      have hoe : ownE t x { x with attrs := x.attrs.set i (e.name, e.value) } = attrsE2 t x.attrs (x.attrs.set i (e.name, e.value)) := by
        show attrsE2 _ x.attrs (x.attrs.set i (e.name, e.value)) ++ (if x.text = x.text then [] else _) = _
        rw [if_pos rfl, List.append_nil]
      by_cases hv : av = e.value
      · rw [if_pos hv] at k1
        refine ⟨{ x with attrs := x.attrs.set i (e.name, e.value) }, ht, hl, turned_set G G2 hx rfl rfl rfl k2 k3 (.inl ⟨hoe.trans k1, ?_⟩)⟩
        rw [← hv]
        have : x.attrs.set i (e.name, av) = x.attrs := by
          have hil := (List.getElem?_eq_some_iff.1 hi).1
          refine List.ext_getElem? fun j => ?_
          rw [List.getElem?_set]
          split
          · rename_i e2; subst e2; first | exact hi.symm | (rw [if_pos hil, hi])
          · rfl
        rw [this]
      · rw [if_neg hv] at k1
        exact ⟨{ x with attrs := x.attrs.set i (e.name, e.value) }, ht, hl, turned_set G G2 hx rfl rfl rfl k2 k3 (.inr ⟨attrE t (e.name, e.value), hoe.trans k1, herr _ _ rfl rfl⟩)⟩
  · have hdo : edDo l e = l.set t { x with attrs := x.attrs.eraseIdx (findA x.attrs e.name).toNat } := by rw [(ed_2 h).2]; unfold dropDo; rw [ht]; exact setAt_nat hx _
    obtain ⟨pre, a, hpre, hnm⟩ := hlast h t x ht hx
    have hno : ∀ b ∈ pre, b.1 ≠ a.1 := fun b hb heq => by
      have := hA.once
      rw [hpre, List.map_append, List.nodup_append] at this
      exact this.2.2 b.1.toList (List.mem_map.2 ⟨b, hb, rfl⟩) a.1.toList (by simp) (by rw [heq])
    have hf : findA x.attrs e.name = (pre.length : Int) := by
      rw [hpre]
      refine findA_hit (x := a) (fun j y hj hy => ?_) (by rw [List.getElem?_append_right (Nat.le_refl _)]; simp) (by rw [hnm]; simp)
      rw [List.getElem?_append_left hj] at hy
      exact beq_eq_false_iff_ne.2 fun heq => hno y (List.mem_of_getElem? hy) ((ba_eq heq).trans hnm.symm)
    have hers : x.attrs.eraseIdx (findA x.attrs e.name).toNat = pre := by
      rw [hf, Int.toNat_natCast, hpre, List.eraseIdx_append_of_length_le (Nat.le_refl _)]
      simp
    have herr : edErr l (dropE t a) = 0 ∧ edDo l (dropE t a) = edDo l e := by
      rw [← he, (ed_2 h).1, (ed_2 h).2, ht, ← hnm]
      exact ed_2 rfl
    rw [hdo, hers] at herr
    rw [hdo, hers] at G2
    rw [hdo, hers]
    refine ⟨{ x with attrs := pre }, ht, hl, ?_⟩
    obtain ⟨k1, k2, k3⟩ := attrs_last (t : Int) (will := pre) (a := a) hno
    rw [← hpre] at k1 k2 k3
    refine turned_set G G2 hx rfl rfl rfl k2 k3 (.inr ⟨dropE t a, ?_, herr⟩)
    show attrsE2 _ x.attrs pre ++ (if x.text = x.text then [] else _) = _
    rw [k1, if_pos rfl]
    rfl
  · have hdo : edDo l e = l.set t { x with text := e.value } := by rw [(ed_3 h).2]; unfold textDo; rw [ht]; exact setAt_nat hx _
    have herr : edErr l (textE t e.value) = 0 ∧ edDo l (textE t e.value) = edDo l e := by
      rw [← he, (ed_3 h).1, (ed_3 h).2, ht]
      exact ed_3 rfl
    rw [hdo] at G2 herr ⊢
    refine ⟨{ x with text := e.value }, ht, hl, ?_⟩
    have k2 : LastA x.attrs x.attrs := last_all2 fun a ha => ⟨a, ha, rfl⟩
    have hoe : ownE t x { x with text := e.value } = if x.text = e.value then [] else [textE t e.value] := by
      show attrsE2 _ x.attrs x.attrs ++ _ = _
      rw [attrs_same]
      rfl
    by_cases hv : x.text = e.value
    · rw [if_pos hv] at hoe
      refine turned_set G G2 hx rfl rfl rfl k2 k2 (.inl ⟨hoe, ?_⟩)
      rw [← hv]
    · rw [if_neg hv] at hoe
      exact turned_set G G2 hx rfl rfl rfl k2 k2 (.inr ⟨textE t e.value, hoe, herr⟩)

/-! ### what is told of a tree -/
theorem Tree.go {l : List Nd} (T : Tree l) {m : Nat} (hm : m < l.length) : upN l m + (41 - upN l m) = 41 := by have := (T.deep m hm).1; omega
theorem Tree.pre_uniq {l : List Nd} (T : Tree l) {m : Nat} (hm : m < l.length) : (preR l m).Nodup := by
  refine List.Pairwise.imp ?_ (T.pre_sorted _ m hm (T.go hm)).1
  intro x y h e
  rw [e, cmpL_self] at h
  exact absurd h (by decide)
/-- What is told of what lies below a node. -/
def outT (l : List Nd) (t : Nat) (E : List Edt) (n : Int) : List Edt := if (t : Int) ∈ preR l n then E else []
theorem flat_none {α β : Type} {f : α → List β} : ∀ {ks : List α}, (∀ k ∈ ks, f k = []) → ks.flatMap f = []
  | [], _ => rfl
  | k :: r, h => by rw [List.flatMap_cons, h k (by simp), flat_none fun z hz => h z (by simp [hz])]; rfl
theorem flat_single {β : Type} {f : Int → List β} {E : List β} {z : Int} : ∀ {ks : List Int}, ks.Nodup → z ∈ ks → (∀ k ∈ ks, f k = if k = z then E else []) → ks.flatMap f = E
  | [], _, h, _ => by cases h
  | k :: r, hn, hz, hf => by
    rw [List.flatMap_cons, hf k (by simp)]
    obtain ⟨h1, h2⟩ := List.nodup_cons.1 hn
    by_cases e : k = z
    · rw [if_pos e, flat_none fun y hy => by rw [hf y (by simp [hy]), if_neg (fun e2 => h1 (by rw [e, ← e2]; exact hy))], List.append_nil]
    · rw [if_neg e, List.nil_append]
      exact flat_single h2 (by rcases List.mem_cons.1 hz with h | h; exact absurd h.symm e; exact h) fun y hy => hf y (by simp [hy])
theorem flat_nodup {f : Int → List Int} : ∀ {ks : List Int}, (ks.flatMap f).Nodup → (∀ k ∈ ks, k ∈ f k) → ks.Nodup ∧ ∀ t k k', k ∈ ks → k' ∈ ks → t ∈ f k → t ∈ f k' → k = k'
  | [], _, _ => ⟨List.nodup_nil, fun _ _ _ h => by cases h⟩
  | k :: r, h, hs => by
    rw [List.flatMap_cons, List.nodup_append] at h
    obtain ⟨h1, h2⟩ := flat_nodup (f := f) (ks := r) h.2.1 fun z hz => hs z (by simp [hz])
    have hx : ∀ t z, z ∈ r → t ∈ f z → t ∉ f k := fun t z hz ht hk => h.2.2 t hk t (List.mem_flatMap.2 ⟨z, hz, ht⟩) rfl
    refine ⟨List.nodup_cons.2 ⟨fun hk => hx k k hk (hs k (by simp)) (hs k (by simp)), h1⟩, fun t a b ha hb hta htb => ?_⟩
    rcases List.mem_cons.1 ha with e | ha2
    · rcases List.mem_cons.1 hb with e2 | hb2
      · rw [e, e2]
      · exact absurd (e ▸ hta) (hx t b hb2 htb)
    · rcases List.mem_cons.1 hb with e2 | hb2
      · exact absurd (e2 ▸ htb) (hx t a ha2 hta)
      · exact h2 t a b ha2 hb2 hta htb
section
variable {l : List Nd} (T : Tree l)
include T
theorem Tree.kid_self {n : Nat} (hn : n < l.length) : ∀ k ∈ kidsD l n, k ∈ preR l k := fun k hk => by
  obtain ⟨m, rfl, hm, _⟩ := T.kid hn hk
  rw [T.pre_step hm]
  simp
/-- A node's own edits, and its kids', are all. -/
theorem Tree.out_step {t : Nat} {E : List Edt} {n : Nat} (hn : n < l.length) : (if n = t then E else []) ++ (kidsD l n).reverse.flatMap (outT l t E) = outT l t E n := by
  have hu := T.pre_uniq hn
  unfold outT
  rw [T.pre_step hn] at hu ⊢
  obtain ⟨h1, h2⟩ := List.nodup_cons.1 hu
  obtain ⟨h3, h4⟩ := flat_nodup h2 (T.kid_self hn)
  by_cases e : n = t
  · subst e
    rw [if_pos rfl, if_pos (by simp), flat_none fun k hk => if_neg fun hm => h1 (List.mem_flatMap.2 ⟨k, by simpa using hk, hm⟩), List.append_nil]
  · rw [if_neg e, List.nil_append]
    by_cases hm : (t : Int) ∈ (kidsD l n).flatMap (preR l)
    · rw [if_pos (by simp [hm])]
      obtain ⟨k, hk, ht⟩ := List.mem_flatMap.1 hm
      refine flat_single (z := k) (List.pairwise_reverse.2 (h3.imp fun h => Ne.symm h)) (by simpa using hk) fun y hy => ?_
      by_cases e2 : y = k
      · rw [if_pos e2, if_pos (by rw [e2]; exact ht)]
      · rw [if_neg e2, if_neg fun h => e2 (h4 t y k (by simpa using hy) hk h ht)]
    · rw [if_neg (by simp [hm]; omega), flat_none fun k hk => if_neg fun h => hm (List.mem_flatMap.2 ⟨k, by simpa using hk, h⟩)]
end
theorem like_me {l : List Nd} (T : Tree l) (f : Nat) : ∀ j : Nat, j < l.length → upN l j + f = 41 → Like l l f j j := by
  induction f with
  | zero => intro j hj h; have := (T.deep j hj).1; omega
  | succ f ih =>
    intro j hj hf
    obtain ⟨y, hy⟩ := get_some hj
    refine ⟨y, y, hy, hy, rfl, rfl, rfl, rfl, rfl, fun i p q hp hq => ?_⟩
    have hpq : p = q := by rw [hp] at hq; exact Option.some.inj hq
    subst hpq
    obtain ⟨m, rfl, hm, hpar⟩ := T.kid hj (by rw [kidsD_at hy]; exact List.mem_of_getElem? hp)
    have := (T.up_par hm hpar).2
    exact ⟨m, m, rfl, rfl, ih m hm (by omega)⟩
section
variable {l l' : List Nd} {t : Nat} {x x' : Nd} (H : Turned l l' t x x')
include H
/-- What lies off the turned node is alike. -/
theorem Turned.like (f : Nat) : ∀ j : Nat, j < l.length → upN l j + f = 41 → (t : Int) ∉ preR l j → Like l l' f j j := by
  have T := tree_of (check_of H.good)
  induction f with
  | zero => intro j hj h; have := (T.deep j hj).1; omega
  | succ f ih =>
    intro j hj hf ht
    obtain ⟨y, hy⟩ := get_some hj
    rw [T.pre_step hj] at ht
    have hne : j ≠ t := fun e => ht (by simp [e])
    refine ⟨y, y, hy, (H.off j hne).trans hy, rfl, rfl, rfl, rfl, rfl, fun i p q hp hq => ?_⟩
    have hpq : p = q := by rw [hp] at hq; exact Option.some.inj hq
    subst hpq
    have hmem : p ∈ kidsD l j := by rw [kidsD_at hy]; exact List.mem_of_getElem? hp
    obtain ⟨m, rfl, hm, hpar⟩ := T.kid hj hmem
    have := (T.up_par hm hpar).2
    exact ⟨m, m, rfl, rfl, ih m hm (by omega) fun h => ht (List.mem_cons_of_mem _ (List.mem_flatMap.2 ⟨_, hmem, h⟩))⟩
theorem Turned.nodes {n : Nat} (hn : n < l.length) : ∃ y y', l[n]? = some y ∧ l'[n]? = some y' ∧ y'.kind = y.kind ∧ y'.name = y.name ∧ y'.kids = y.kids ∧ LastA y.attrs y'.attrs ∧ LastA y'.attrs y.attrs ∧ ownE n y y' = if n = t then ownE t x x' else [] := by
  by_cases e : n = t
  · subst e
    exact ⟨x, x', H.at_, H.at2, H.kind, H.name, H.kids, H.last, H.last2, by rw [if_pos rfl]⟩
  · obtain ⟨y, hy⟩ := get_some hn
    have k : LastA y.attrs y.attrs := last_all2 fun a ha => ⟨a, ha, rfl⟩
    exact ⟨y, y, hy, (H.off n e).trans hy, rfl, rfl, rfl, k, k, by rw [if_neg e, own_same]⟩
theorem Turned.few : (ownE t x x').length ≤ 1 := by
  rcases H.fin with ⟨h, _⟩ | ⟨e, h, _⟩
  · rw [h]; exact Nat.zero_le _
  · rw [h]; exact Nat.le_refl _
/-- What is told leads there. -/
theorem Turned.leads : (outT l t (ownE t x x') 0 = [] ∧ Like l l' (41 - upN l 0) 0 0) ∨ ∃ e, outT l t (ownE t x x') 0 = [e] ∧ (t : Int) ∈ preR l 0 ∧ edErr l e = 0 ∧ edDo l e = l' := by
  have T := tree_of (check_of H.good)
  unfold outT
  by_cases hm : (t : Int) ∈ preR l 0
  · rw [if_pos hm]
    rcases H.fin with ⟨h, e⟩ | ⟨e, h, h1, h2⟩
    · exact .inl ⟨h, by rw [e]; exact like_me T _ 0 T.pos (T.go T.pos)⟩
    · exact .inr ⟨e, h, hm, h1, h2⟩
  · rw [if_neg hm]
    exact .inl ⟨rfl, H.like _ 0 T.pos (T.go T.pos) hm⟩
end
end Go.Proofs.YtomleengbnfikaaDoor
