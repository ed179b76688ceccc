/-
What a range's cut leaves: the plain law, its end. No program in sight.
-/
import Derived.Test.YtcnogokemilhnaaDoorSpanCutLaw
namespace Go.Proofs.YtcnogokemilhnaaDoor
open Go.RowKit Go.Cl
set_option linter.unusedVariables false

/-! ### edits of two kinds, all on nodes of their own -/
/-- What such edits ask for. -/
def CutOk (l : List Nd) (e : Edt) : Prop :=
  (∃ (k : Nat) (x : Nd) (t : ByteArray), e = eText k t ∧ l[k]? = some x ∧ (x.kind = 3 ∨ x.kind = 4) ∧ t.size ≤ 400) ∨ (∃ (k : Nat) (x : Nd), e = eRem k ∧ l[k]? = some x ∧ x.kind ≠ 1 ∧ 0 ≤ x.parent)
/-- Is a node to leave its parent? -/
def remB (es : List Edt) (k : Int) : Bool := es.any fun e => e.do_ == 6 && e.at_ == k
theorem remB_text (k' : Int) (t : ByteArray) (r : List Edt) (k : Int) : remB (eText k' t :: r) k = remB r k := rfl
theorem remB_rem (k' : Int) (r : List Edt) (k : Int) : remB (eRem k' :: r) k = ((k' == k) || remB r k) := rfl
/-- What they leave of a document. -/
structure CutDoc (l l' : List Nd) (es : List Edt) : Prop where
  len : l'.length = l.length
  at_ : ∀ (j : Nat) x, l[j]? = some x → ∃ x', l'[j]? = some x' ∧ x'.kind = x.kind ∧ x'.kids = x.kids.filter (fun k => !remB es k) ∧ (∀ t, eText j t ∈ es → x'.text = t) ∧ ((∀ t, eText j t ∉ es) → x'.text = x.text)
theorem eRem_inj {i j : Int} (h : eRem i = eRem j) : i = j := by
  unfold eRem at h
  injection h
theorem eText_inj {i j : Int} {s t : ByteArray} (h : eText i s = eText j t) : i = j ∧ s = t := by
  unfold eText at h
  injection h with _ h1 _ _ _ h2 _
  exact ⟨h1, h2⟩
theorem eText_ne {i j : Int} {s : ByteArray} (h : eText i s = eRem j) : False := by
  unfold eText eRem at h
  injection h with h1
  exact absurd h1 (by decide)
theorem erase_filter {ks : List Int} (hn : ks.Nodup) {i : Nat} {t : Int} (hi : ks[i]? = some t) : ks.eraseIdx i = ks.filter (fun k => decide (k ≠ t)) := by
  induction ks generalizing i with
  | nil => simp at hi
  | cons x r ih =>
    obtain ⟨hx, hr⟩ := List.nodup_cons.1 hn
    cases i with
    | zero =>
      obtain rfl := Option.some.inj hi
      rw [List.eraseIdx_cons_zero, List.filter_cons_of_neg (by simp)]
      refine (List.filter_eq_self.2 fun k hk => ?_).symm
      rw [decide_eq_true_eq]
      rintro rfl
      exact hx hk
    | succ i =>
      have hi : r[i]? = some t := hi
      rw [List.eraseIdx_cons_succ, List.filter_cons_of_pos, ih hr hi]
      rw [decide_eq_true_eq]
      rintro rfl
      exact hx (List.mem_of_getElem? hi)
theorem cut_one_text {l : List Nd} (G : Good l) {k : Nat} {x : Nd} {t : ByteArray} (hx : l[k]? = some x) (hk : x.kind = 3 ∨ x.kind = 4) (ht : t.size ≤ 400) : edErr l (eText k t) = 0 ∧ edDo l (eText k t) = l.set k { x with text := t } := by
  constructor
  · have : edErr l (eText k t) = textErr l k t := by
      simp [edErr, eText]
    rw [this]
    unfold textErr
    rw [nodeAt_nat, hx]
    simp only
    rw [if_neg (by omega), if_neg (by omega)]
  · have : edDo l (eText k t) = textDo l k t := by
      simp [edDo, eText]
    rw [this]
    exact setAt_nat hx _
theorem cut_one_rem {l : List Nd} (G : Good l) {k : Nat} {x : Nd} (hx : l[k]? = some x) (h1 : x.kind ≠ 1) (h2 : 0 ≤ x.parent) : edErr l (eRem k) = 0 ∧ edDo l (eRem k) = remDo l k := by
  constructor
  · have : edErr l (eRem k) = remErr l k := by
      simp [edErr, eRem]
    rw [this]
    unfold remErr
    rw [nodeAt_nat, hx]
    simp only
    rw [if_neg h1, if_neg (by omega)]
  · simp [edDo, eRem]
theorem cut_all {es : List Edt} : ∀ (i : Nat) (l : List Nd), Good l → (∀ e ∈ es, CutOk l e) → (es.map Edt.at_).Nodup → ∃ l', edAll i l es = (l', 0, 0) ∧ Good l' ∧ CutDoc l l' es := by
  induction es with
  | nil =>
    intro i l G _ _
    exact ⟨l, rfl, G, rfl, fun j x hx => ⟨x, hx, rfl, (List.filter_eq_self.2 fun k _ => by simp [remB]).symm, fun t h => absurd h (by simp), fun _ => rfl⟩⟩
  | cons e r ih =>
    intro i l G hok hnd
    rw [List.map_cons] at hnd
    obtain ⟨hn1, hn2⟩ := List.nodup_cons.1 hnd
    have notin : ∀ (f : Edt), f ∈ r → f.at_ ≠ e.at_ := fun f hf h => hn1 (by rw [← h]; exact List.mem_map_of_mem hf)
    rcases hok e (by simp) with ⟨k, x, t, rfl, hx, hk, ht⟩ | ⟨k, x, rfl, hx, h1, h2⟩
    · obtain ⟨he, hd⟩ := cut_one_text G hx hk ht
      have G1 := good_ed G he
      rw [hd] at G1
      have hkl := (List.getElem?_eq_some_iff.1 hx).1
      have gk : (l.set k { x with text := t })[k]? = some { x with text := t } := by simp [hkl]
      have other : ∀ j : Nat, j ≠ k → (l.set k { x with text := t })[j]? = l[j]? := fun j hj => List.getElem?_set_ne (Ne.symm hj)
      obtain ⟨l', h3, h4, h5⟩ := ih (i + 1) _ G1 (fun f hf => by
        have hne := notin f hf
        rcases hok f (by simp [hf]) with ⟨j, y, s, rfl, hy, hk2, hs⟩ | ⟨j, y, rfl, hy, g1, g2⟩
        · exact Or.inl ⟨j, y, s, rfl, by rw [other j (fun e => hne (by rw [e]; rfl))]; exact hy, hk2, hs⟩
        · exact Or.inr ⟨j, y, rfl, by rw [other j (fun e => hne (by rw [e]; rfl))]; exact hy, g1, g2⟩) hn2
      refine ⟨l', by rw [edAll, if_neg (by rw [he]; simp), hd, h3], h4, by rw [h5.len]; simp, fun j y hy => ?_⟩
      by_cases hj : j = k
      · subst hj
        obtain rfl := Option.some.inj (hx.symm.trans hy)
        obtain ⟨x', q1, q2, q3, q4, q5⟩ := h5.at_ j _ gk
        have hno : ∀ s, eText j s ∉ r := fun s hs => notin _ hs rfl
        refine ⟨x', q1, q2, ?_, fun s hs => ?_, fun h => absurd (List.mem_cons_self) (h t)⟩
        · rw [q3]
          exact List.filter_congr fun k' _ => by rw [remB_text]
        · rcases List.mem_cons.1 hs with hs | hs
          · rw [q5 hno, (eText_inj hs).2]
          · exact absurd hs (hno s)
      · obtain ⟨x', q1, q2, q3, q4, q5⟩ := h5.at_ j y (by rw [other j hj]; exact hy)
        refine ⟨x', q1, q2, ?_, fun s hs => ?_, fun h => q5 fun s hs => h s (by simp [hs])⟩
        · rw [q3]
          exact List.filter_congr fun k' _ => by rw [remB_text]
        · rcases List.mem_cons.1 hs with hs | hs
          · exact absurd (by have := (eText_inj hs).1; omega) hj
          · exact q4 s hs
    · obtain ⟨he, hd⟩ := cut_one_rem G hx h1 h2
      have G1 := good_ed G he
      have her : remErr l k = 0 := by
        unfold remErr
        rw [nodeAt_nat, hx]
        simp only
        rw [if_neg h1, if_neg (by omega)]
      obtain ⟨k', p, ii, x2, y, e2, hr⟩ := remErr_iff G her
      have : k = k' := by omega
      subst this
      obtain rfl := Option.some.inj (hx.symm.trans hr.hx)
      rw [hd, hr.do_] at G1
      have hm := (List.getElem?_eq_some_iff.1 hr.hx).1
      have hp := (List.getElem?_eq_some_iff.1 hr.hy).1
      have hg := fun j => get2 (l := l) (x := { y with kids := y.kids.eraseIdx ii }) (y := { x with parent := -1 }) hp hm j
      have hyn := (G.kr.kids p y hr.hy).1
      have one : ∀ (j : Nat) z, l[j]? = some z → ∃ z', ((l.set p { y with kids := y.kids.eraseIdx ii }).set k { x with parent := -1 })[j]? = some z' ∧ z'.kind = z.kind ∧ z'.text = z.text ∧ (j ≠ k → z'.parent = z.parent) ∧ z'.kids = z.kids.filter (fun q => decide (q ≠ (k : Int))) := fun j z hz => by
        have hin : ∀ q ∈ z.kids, q = (k : Int) → j = p := fun q hq hqk => by
          obtain ⟨m, w, e, hw, hpar, _⟩ := (G.kr.kids j z hz).2 q hq
          have : m = k := by omega
          subst this
          obtain rfl := Option.some.inj (hr.hx.symm.trans hw)
          have := hr.par
          omega
        by_cases c1 : j = k
        · subst c1
          obtain rfl := Option.some.inj (hr.hx.symm.trans hz)
          refine ⟨({ x with parent := -1 } : Nd), by rw [hg, if_pos rfl], rfl, rfl, fun h => absurd rfl h, ?_⟩
          refine (List.filter_eq_self.2 fun q hq => ?_).symm
          rw [decide_eq_true_eq]
          intro h
          exact hr.ne (hin q hq h).symm
        · by_cases c2 : j = p
          · subst c2
            obtain rfl := Option.some.inj (hr.hy.symm.trans hz)
            exact ⟨({ y with kids := y.kids.eraseIdx ii } : Nd), by rw [hg, if_neg c1, if_pos rfl], rfl, rfl, fun _ => rfl, erase_filter hyn hr.at_⟩
          · refine ⟨z, by rw [hg, if_neg c1, if_neg c2]; exact hz, rfl, rfl, fun _ => rfl, ?_⟩
            refine (List.filter_eq_self.2 fun q hq => ?_).symm
            rw [decide_eq_true_eq]
            intro h
            exact c2 (hin q hq h)
      obtain ⟨l', h3, h4, h5⟩ := ih (i + 1) _ G1 (fun f hf => by
        have hne := notin f hf
        rcases hok f (by simp [hf]) with ⟨j, z, s, rfl, hz, hk2, hs⟩ | ⟨j, z, rfl, hz, g1, g2⟩
        · obtain ⟨z', q1, q2, _⟩ := one j z hz
          exact Or.inl ⟨j, z', s, rfl, q1, by rw [q2]; exact hk2, hs⟩
        · obtain ⟨z', q1, q2, _, q4, _⟩ := one j z hz
          exact Or.inr ⟨j, z', rfl, q1, by rw [q2]; exact g1, by rw [q4 (fun e => hne (by rw [e]))]; exact g2⟩) hn2
      refine ⟨l', by rw [edAll, if_neg (by rw [he]; simp), hd, hr.do_, h3], h4, by rw [h5.len]; simp, fun j z hz => ?_⟩
      obtain ⟨z', q1, q2, q3, _, q5⟩ := one j z hz
      obtain ⟨x', u1, u2, u3, u4, u5⟩ := h5.at_ j z' q1
      refine ⟨x', u1, u2.trans q2, ?_, fun s hs => ?_, fun h => (u5 fun s hs => h s (by simp [hs])).trans q3⟩
      · rw [u3, q5, List.filter_filter]
        refine List.filter_congr fun q _ => ?_
        rw [remB_rem]
        by_cases hq : q = (k : Int)
        · subst hq; simp
        · have : ((k : Int) == q) = false := by rw [beq_eq_false_iff_ne]; exact fun h => hq h.symm
          rw [this]
          simp [hq]
      · rcases List.mem_cons.1 hs with hs | hs
        · exact absurd hs (fun h => eText_ne h)
        · exact u4 s hs

/-! ### the edits of a cut, told apart -/
section
variable {l : List Nd} (G : Good l) {a b : Pt} {ma mb : Nat} (ha : PtT l a ma) (hb : PtT l b mb) (hab : orderR l a b ≤ 0)
include G ha hb
theorem tou_up {k p : Nat} (tk : Tr l k) (tp : Tr l p) (hd : ∃ r, downP l k = downP l p ++ r) (h : touB l a b k = true) : touB l a b p = true := by
  obtain ⟨r, hr⟩ := hd
  unfold touB at h ⊢
  rw [Bool.or_eq_true] at h ⊢
  rcases h with h | h
  · rw [ha.node] at h ⊢
    obtain ⟨s, hs⟩ := (G.below_way ha.tr tk).1 h
    exact Or.inl ((G.below_way ha.tr tp).2 ⟨r ++ s, by rw [hs, hr, List.append_assoc]⟩)
  · rw [hb.node] at h ⊢
    obtain ⟨s, hs⟩ := (G.below_way hb.tr tk).1 h
    exact Or.inr ((G.below_way hb.tr tp).2 ⟨r ++ s, by rw [hs, hr, List.append_assoc]⟩)
omit hb in
theorem tou_root : touB l a b (0 : Nat) = true := by
  unfold touB
  have h := (G.below_way ha.tr (Tr.root G.pos)).2 ⟨downP l ma, by rw [down_root (tree_of (check_of G))]; rfl⟩
  rw [ha.node, h]; rfl
/-- What an edit of a cut is. -/
inductive CutE (l : List Nd) (a b : Pt) : Edt → Prop
  | text {k : Nat} : Tr l k → touB l a b k = true → txtK l k = true → leftB (textD l k) k a b ≠ textD l k → CutE l a b (eText k (leftB (textD l k) k a b))
  | rem {k p i : Nat} : Tr l k → Tr l p → (kidsD l p)[i]? = some (k : Int) → touB l a b p = true → touB l a b k = false → inR l a b p i = true → CutE l a b (eRem k)
omit ha hb in
theorem cut_char (f : Nat) : ∀ m : Nat, Tr l m → touB l a b m = true → ∀ e ∈ cutF l a b f m, CutE l a b e := by
  induction f with
  | zero => intro m _ _ e h; cases h
  | succ f ih =>
    intro m tm ht e h
    rw [cutF] at h
    obtain ⟨i, z, hz, he⟩ := mem_cutL.1 h
    rw [Nat.zero_add] at he
    obtain ⟨k, rfl, _, _⟩ := (tree_of (check_of G)).kid tm.lt (List.mem_of_getElem? hz)
    obtain ⟨tk, _, hd, _⟩ := G.under tm hz
    unfold cutK at he
    by_cases c1 : touB l a b k = true ∧ txtK l k = true
    · rw [if_pos c1] at he
      by_cases c2 : leftB (textD l k) k a b ≠ textD l k
      · rw [if_pos c2] at he
        obtain rfl := List.mem_singleton.1 he
        exact CutE.text tk c1.1 c1.2 c2
      · rw [if_neg c2] at he; cases he
    · rw [if_neg c1] at he
      by_cases c2 : touB l a b k = true
      · rw [if_pos c2] at he
        exact ih k tk c2 e he
      · rw [if_neg c2] at he
        by_cases c3 : inR l a b m i = true
        · rw [if_pos c3] at he
          obtain rfl := List.mem_singleton.1 he
          exact CutE.rem tk tm hz ht (by simpa using c2) c3
        · rw [if_neg c3] at he; cases he
omit ha hb in
theorem cut_sub (f : Nat) : ∀ m : Nat, Tr l m → ((cutF l a b f m).map Edt.at_).Sublist (preF l (f + 1) m) := by
  induction f with
  | zero => intro m _; exact List.nil_sublist _
  | succ f ih =>
    intro m tm
    rw [cutF, preF]
    refine List.Sublist.cons _ (cutL_sub _ _ fun i z hz => ?_)
    rw [Nat.zero_add]
    obtain ⟨k, rfl, _, _⟩ := (tree_of (check_of G)).kid tm.lt (List.mem_of_getElem? hz)
    obtain ⟨tk, _, hd, _⟩ := G.under tm hz
    have hone : ([(k : Int)]).Sublist (preF l (f + 1) k) := by
      rw [preF]
      exact List.Sublist.cons_cons _ (List.nil_sublist _)
    unfold cutK
    split
    · split
      · exact hone
      · exact List.nil_sublist _
    · split
      · exact ih k tk
      · split
        · exact hone
        · exact List.nil_sublist _
end
/-- The order rises, however far one goes. -/
theorem Good.preF_sorted {l : List Nd} (G : Good l) (f : Nat) : ∀ m : Nat, Tr l m → (preF l f m).Pairwise (fun x y => cmpL (downZ l x) (downZ l y) < 0) ∧ ∀ x ∈ preF l f m, ∃ n : Nat, x = (n : Int) ∧ Tr l n ∧ ∃ r, downP l n = downP l m ++ r := by
  induction f with
  | zero => intro m _; exact ⟨List.Pairwise.nil, fun x h => by cases h⟩
  | succ f ih =>
    intro m tm
    have hkd : ∀ (i : Nat) z, (kidsD l m)[i]? = some z → ∀ x ∈ preF l f z, ∃ n : Nat, x = (n : Int) ∧ Tr l n ∧ ∃ r, downP l n = downP l m ++ (2 * (i : Int) + 1) :: r := fun i z hi x hx => by
      obtain ⟨k, rfl, _, _⟩ := (tree_of (check_of G)).kid tm.lt (List.mem_of_getElem? hi)
      obtain ⟨tk, _, hd, _⟩ := G.under tm hi
      obtain ⟨n, e, tn, r, hr⟩ := (ih k tk).2 x hx
      exact ⟨n, e, tn, r, by rw [hr, hd, List.append_assoc]; rfl⟩
    rw [preF]
    refine ⟨List.pairwise_cons.2 ⟨fun y hy => ?_, List.pairwise_flatMap.2 ⟨fun z hz => ?_, ?_⟩⟩, fun x hx => ?_⟩
    · obtain ⟨z, hz, hy⟩ := List.mem_flatMap.1 hy
      obtain ⟨i, hi⟩ := List.mem_iff_getElem?.1 hz
      obtain ⟨n, rfl, tn, r, hr⟩ := hkd i z hi y hy
      rw [downZ_nat, downZ_nat, hr]
      have := cmpL_pre (downP l m) [] ((2 * (i : Int) + 1) :: r)
      rw [List.append_nil] at this
      rw [this]
      show (-1 : Int) < 0
      decide
    · obtain ⟨k, rfl, _, _⟩ := (tree_of (check_of G)).kid tm.lt hz
      obtain ⟨i, hi⟩ := List.mem_iff_getElem?.1 hz
      exact (ih k (G.under tm hi).1).1
    · refine List.pairwise_iff_getElem.2 fun i j hi hj hij x hx y hy => ?_
      obtain ⟨n, rfl, _, r, hr⟩ := hkd i _ (List.getElem?_eq_getElem hi) x hx
      obtain ⟨m2, rfl, _, s, hs⟩ := hkd j _ (List.getElem?_eq_getElem hj) y hy
      rw [downZ_nat, downZ_nat, hr, hs, cmpL_pre, cmpL]
      have h1 : cmpI (2 * (i : Int) + 1) (2 * (j : Int) + 1) < 0 := cmpI_neg.2 (by omega)
      rw [if_pos (by omega)]
      exact h1
    · rcases List.mem_cons.1 hx with rfl | hx
      · exact ⟨m, rfl, tm, [], (List.append_nil _).symm⟩
      · obtain ⟨z, hz, hx⟩ := List.mem_flatMap.1 hx
        obtain ⟨i, hi⟩ := List.mem_iff_getElem?.1 hz
        obtain ⟨n, e, tn, r, hr⟩ := hkd i z hi x hx
        exact ⟨n, e, tn, _, hr⟩
theorem Good.cut_nodup {l : List Nd} (G : Good l) {a b : Pt} (f : Nat) {m : Nat} (tm : Tr l m) : ((cutF l a b f m).map Edt.at_).Nodup := by
  refine List.Nodup.sublist (cut_sub G f m tm) ?_
  refine List.Pairwise.imp ?_ (G.preF_sorted (f + 1) m tm).1
  intro x y h e
  rw [e, cmpL_self] at h
  exact absurd h (by decide)

/-! ### what is left -/
theorem flatMap_keep {α : Type} {ks : List Int} {keep : Int → Bool} {X X' : Int → List α} (h : ∀ k ∈ ks, (if keep k = true then X' k else []) = X k) : (ks.filter keep).flatMap X' = ks.flatMap X := by
  induction ks with
  | nil => rfl
  | cons k r ih =>
    have h1 := h k (by simp)
    have h2 := ih fun q hq => h q (by simp [hq])
    rw [List.flatMap_cons, ← h1, ← h2]
    by_cases hk : keep k = true
    · rw [List.filter_cons_of_pos hk, List.flatMap_cons, if_pos hk]
    · rw [List.filter_cons_of_neg hk, if_neg hk, List.nil_append]
def wholeL (l : List Nd) (n : Int) : List UInt8 := (wholeK l n).data.toList
def leftL (l : List Nd) (a b : Pt) (z : Int) : List UInt8 := leftK l a b z.toNat
theorem leftL_nat (l : List Nd) (a b : Pt) (n : Nat) : leftL l a b n = leftK l a b n := by unfold leftL; rw [Int.toNat_natCast]
structure CutAll (l l' : List Nd) (a b : Pt) (es : List Edt) : Prop where
  doc : CutDoc l l' es
  char : ∀ e ∈ es, CutE l a b e
section
variable {l : List Nd} (G : Good l) {a b : Pt} {ma mb : Nat} (ha : PtT l a ma) (hb : PtT l b mb) (hab : orderR l a b ≤ 0)
variable {l' : List Nd} {es : List Edt} (C : CutAll l l' a b es)
include G ha hb hab C
omit hab ha hb G in
theorem rem_char {k : Int} (h : remB es k = true) : eRem k ∈ es ∧ ∃ n p i : Nat, k = (n : Int) ∧ Tr l n ∧ Tr l p ∧ (kidsD l p)[i]? = some (n : Int) ∧ touB l a b p = true ∧ touB l a b n = false ∧ inR l a b p i = true := by
  unfold remB at h
  obtain ⟨e, he, h1⟩ := List.any_eq_true.1 h
  rw [Bool.and_eq_true] at h1
  have h2 := C.char e he
  cases h2 with
  | text _ _ _ _ => exact absurd h1.1 (by show ¬ ((3 : Int) == 6) = true; decide)
  | @rem n p i a1 a2 a3 a4 a5 a6 =>
    have : (n : Int) = k := eq_of_beq h1.2
    subst this
    exact ⟨he, n, p, i, rfl, a1, a2, a3, a4, a5, a6⟩
omit hab ha hb G in
theorem text_char {k : Nat} {t : ByteArray} (h : eText k t ∈ es) : touB l a b k = true ∧ t = leftB (textD l k) k a b := by
  have h2 := C.char _ h
  generalize he : eText k t = e at h2
  cases h2 with
  | @text n a1 a2 a3 a4 =>
    obtain ⟨e1, e2⟩ := eText_inj he
    have : k = n := by omega
    subst this
    exact ⟨a2, e2⟩
  | rem _ _ _ _ _ _ => exact absurd he (fun h => eText_ne h)
omit hab ha hb G in
theorem kids_after {j : Nat} (hj : j < l.length) : kidsD l' j = (kidsD l j).filter fun k => !remB es k := by
  obtain ⟨x, hx⟩ := get_some hj
  obtain ⟨x', h1, _, h2, _⟩ := C.doc.at_ j x hx
  rw [kidsD_at h1, kidsD_at hx, h2]
omit hab ha hb G in
theorem kind_after {j : Nat} (hj : j < l.length) : kindD l' j = kindD l j := by
  obtain ⟨x, hx⟩ := get_some hj
  obtain ⟨x', h1, h2, _⟩ := C.doc.at_ j x hx
  rw [kindD_at h1, kindD_at hx, h2]
omit hab ha hb G in
theorem text_same {j : Nat} (hj : j < l.length) (h : ∀ t, eText j t ∉ es) : textD l' j = textD l j := by
  obtain ⟨x, hx⟩ := get_some hj
  obtain ⟨x', h1, _, _, _, h2⟩ := C.doc.at_ j x hx
  rw [textD_at h1, textD_at hx, h2 h]
omit hab ha hb G in
theorem text_new {j : Nat} (hj : j < l.length) {t : ByteArray} (h : eText j t ∈ es) : textD l' j = t := by
  obtain ⟨x, hx⟩ := get_some hj
  obtain ⟨x', h1, _, _, h2, _⟩ := C.doc.at_ j x hx
  rw [textD_at h1, h2 t h]
omit hab in
/-- Below a kid that is not touched nothing turns. -/
theorem under_same (f : Nat) {k : Nat} (tk : Tr l k) (hk : touB l a b k = false) : ∀ n : Nat, Tr l n → (∃ r, downP l n = downP l k ++ r) → preF l' f n = preF l f n := by
  induction f with
  | zero => intro n _ _; rfl
  | succ f ih =>
    intro n tn hr
    have hno : touB l a b n = false := by
      cases h : touB l a b n with
      | false => rfl
      | true => exact absurd (tou_up G ha hb tn tk hr h) (by rw [hk]; simp)
    rw [preF, preF, kids_after C tn.lt]
    have hkeep : ∀ z ∈ kidsD l n, (!remB es z) = true := fun z hz => by
      cases h : remB es z with
      | false => rfl
      | true =>
        exfalso
        obtain ⟨_, q, p, i, rfl, _, tp, hi, htp, _⟩ := rem_char C h
        obtain ⟨_, hp1, _⟩ := G.under tp hi
        obtain ⟨m2, e2, _, hp2⟩ := (tree_of (check_of G)).kid tn.lt hz
        have e3 : q = m2 := by omega
        subst e3
        have : p = n := by omega
        subst this
        rw [hno] at htp
        cases htp
    rw [List.filter_eq_self.2 hkeep]
    congr 1
    refine fm_congr fun z hz => ?_
    obtain ⟨i, hi⟩ := List.mem_iff_getElem?.1 hz
    obtain ⟨q, rfl, _, _⟩ := (tree_of (check_of G)).kid tn.lt hz
    obtain ⟨tq, _, hd, _⟩ := G.under tn hi
    obtain ⟨r, hr⟩ := hr
    exact ih q tq ⟨r ++ [2 * (i : Int) + 1], by rw [hd, hr, List.append_assoc]⟩
theorem cut_main (f : Nat) : ∀ m : Nat, Tr l m → touB l a b m = true → txtK l m = false → (∀ e ∈ cutF l a b f m, e ∈ es) → (preF l' f m).flatMap (wholeL l') = (preF l f m).flatMap (leftL l a b) := by
  have T := tree_of (check_of G)
  induction f with
  | zero => intro m _ _ _ _; rfl
  | succ f ih =>
    intro m tm htm hkm hsub
    have h3 : kindD l m ≠ 3 := fun h => by unfold txtK at hkm; rw [h] at hkm; simp at hkm
    have w0 : wholeL l' m = [] := by unfold wholeL wholeK; rw [kind_after C tm.lt, if_neg h3]
    have l0 : leftL l a b m = [] := by rw [leftL_nat]; unfold leftK; rw [if_neg h3]
    rw [preF, preF, List.flatMap_cons, List.flatMap_cons, w0, l0, List.nil_append, List.nil_append, List.flatMap_assoc, List.flatMap_assoc, kids_after C tm.lt]
    refine flatMap_keep fun z hz => ?_
    obtain ⟨i, hi⟩ := List.mem_iff_getElem?.1 hz
    obtain ⟨k, rfl, _, _⟩ := T.kid tm.lt hz
    obtain ⟨tk, hpk, hd, hkl⟩ := G.under tm hi
    have hsubk : ∀ e ∈ cutK l a b (cutF l a b f) m i k, e ∈ es := fun e he => hsub e (by
      rw [cutF]
      exact mem_cutL.2 ⟨i, k, hi, by rw [Nat.zero_add]; exact he⟩)
    have keepT : touB l a b k = true → remB es k = false := fun h => by
      cases hr : remB es k with
      | false => rfl
      | true =>
        exfalso
        obtain ⟨_, n, p, i2, e, _, _, _, _, hn, _⟩ := rem_char C hr
        have : k = n := by omega
        subst this
        rw [h] at hn
        cases hn
    by_cases ht : touB l a b k = true
    · rw [keepT ht, Bool.not_false, if_pos rfl]
      by_cases hx : txtK l k = true
      · cases f with
        | zero => rfl
        | succ f =>
          have hkids : kidsD l k = [] := by
            obtain ⟨x, hxk⟩ := get_some hkl
            have hb2 := ((nodeE_iff x).1 (G.each x (List.mem_of_getElem? hxk))).1.2.2
            unfold txtK at hx
            rw [kindD_at hxk] at hx
            rw [kidsD_at hxk]
            unfold bareB at hb2
            cases hq : x.kids with
            | nil => rfl
            | cons y r =>
              rw [hq] at hb2
              simp only [Bool.or_eq_true, decide_eq_true_eq] at hx
              rcases hx with hx | hx <;> (rw [hx] at hb2; simp [parentB] at hb2)
          rw [preF, preF, kids_after C hkl, hkids]
          simp only [List.filter_nil, List.flatMap_nil, List.flatMap_cons, List.append_nil]
          by_cases h3 : kindD l k = 3
          · have hn := txt_of G tk h3
            rw [leftL_nat, ← left_touched G hn ha hb hab ht]
            unfold wholeL wholeK
            rw [kind_after C hkl, if_pos h3]
            by_cases hne : leftB (textD l k) k a b ≠ textD l k
            · have hin : eText k (leftB (textD l k) k a b) ∈ es := hsubk _ (by
                unfold cutK
                rw [if_pos ⟨ht, hx⟩, if_pos hne]
                exact List.mem_singleton.2 rfl)
              rw [text_new C hkl hin]
            · have hno : ∀ t, eText k t ∉ es := fun t hin => by
                have h2 := C.char _ hin
                generalize he : eText k t = e at h2
                cases h2 with
                | @text n a1 a2 a3 a4 =>
                  obtain ⟨e1, e2⟩ := eText_inj he
                  have : k = n := by omega
                  subst this
                  exact hne a4
                | rem _ _ _ _ _ _ => exact absurd he (fun h => eText_ne h)
              rw [text_same C hkl hno, Classical.not_not.1 hne]
          · rw [leftL_nat]
            unfold wholeL wholeK leftK
            rw [kind_after C hkl, if_neg h3, if_neg h3]
      · refine ih k tk ht (by simpa using hx) fun e he => hsubk e ?_
        unfold cutK
        rw [if_neg (fun h => hx h.2), if_pos ht]
        exact he
    · have ht0 : touB l a b k = false := by simpa using ht
      have hta : belowB l a.node k = false := by unfold touB at ht0; rw [Bool.or_eq_false_iff] at ht0; exact ht0.1
      have htb : belowB l b.node k = false := by unfold touB at ht0; rw [Bool.or_eq_false_iff] at ht0; exact ht0.2
      have hsubt : ∀ x ∈ preF l f k, ∃ n : Nat, x = (n : Int) ∧ Tr l n ∧ ∃ r, downP l n = downP l k ++ r := (G.preF_sorted f k tk).2
      have apart : ∀ (n : Nat), Tr l n → (∃ r, downP l n = downP l k ++ r) → a.node ≠ (n : Int) ∧ b.node ≠ (n : Int) := fun n tn hr => by
        have h1 : touB l a b n = false := by
          cases h : touB l a b n with
          | false => rfl
          | true => exact absurd (tou_up G ha hb tn tk hr h) (by rw [ht0]; simp)
        unfold touB at h1
        rw [Bool.or_eq_false_iff] at h1
        refine ⟨fun e => ?_, fun e => ?_⟩
        · rw [e, (G.below_way tn tn).2 ⟨[], (List.append_nil _).symm⟩] at h1
          cases h1.1
        · rw [e, (G.below_way tn tn).2 ⟨[], (List.append_nil _).symm⟩] at h1
          cases h1.2
      have way : ∀ (n : Nat), (∃ r, downP l n = downP l k ++ r) → ∃ u, downP l n ++ [0] = downP l m ++ (2 * (i : Int) + 1) :: u := fun n ⟨r, hr⟩ => ⟨r ++ [0], by rw [hr, hd]; simp⟩
      by_cases hin : inR l a b m i = true
      · have hr : remB es k = true := by
          have : eRem k ∈ es := hsubk _ (by
            unfold cutK
            rw [if_neg (fun h => ht h.1), if_neg ht, if_pos hin]
            exact List.mem_singleton.2 rfl)
          unfold remB
          exact List.any_eq_true.2 ⟨_, this, by simp [eRem]⟩
        rw [hr, Bool.not_true, if_neg (by simp)]
        refine (List.flatMap_eq_nil_iff.2 fun x hx => ?_).symm
        obtain ⟨n, rfl, tn, hrn⟩ := hsubt x hx
        rw [leftL_nat]
        unfold leftK
        by_cases h3 : kindD l n = 3
        · rw [if_pos h3]
          have hn := txt_of G tn h3
          obtain ⟨n1, n2⟩ := apart n tn hrn
          obtain ⟨u, hu⟩ := way n hrn
          unfold inR at hin
          rw [Bool.and_eq_true, decide_eq_true_eq, decide_eq_true_eq] at hin
          have c1 : cutC l n a = 0 := by
            unfold cutC
            rw [if_neg n1, if_pos]
            rw [ord0, hu, cmpL_flip]
            have h4 := hin.1
            rw [orderR_path, path_down] at h4
            refine cmpL_le_lt h4 ?_
            rw [cmpL_pre, cmpL, if_pos (by intro e; have := cmpI_zero e; omega)]
            exact cmpI_neg.2 (by omega)
          have c2 : cutC l n b = (textD l n).size := by
            unfold cutC
            rw [if_neg n2, if_neg]
            rw [ord0, hu]
            have h4 := hin.2
            rw [orderR_path, path_down] at h4
            have h5 : cmpL (downP l m ++ (2 * (i : Int) + 1) :: u) (downP l m ++ [2 * ((i : Int) + 1)]) < 0 := by
              rw [cmpL_pre, cmpL, if_pos (by intro e; have := cmpI_zero e; omega)]
              exact cmpI_neg.2 (by omega)
            have := cmpL_lt_le h5 h4
            omega
          rw [c1, c2, List.take_zero, List.nil_append]
          exact List.drop_of_length_le (Nat.le_of_eq (len_size _))
        · rw [if_neg h3]
      · have hr : remB es k = false := by
          cases hr : remB es k with
          | false => rfl
          | true =>
            exfalso
            obtain ⟨_, n, p, i2, e, _, tp, hi2, _, _, hin2⟩ := rem_char C hr
            have : k = n := by omega
            subst this
            obtain ⟨_, hp2, _⟩ := G.under tp hi2
            have : p = m := by omega
            subst this
            have h5 := idx_uniq (T.nodup tm.lt) hi
            have h6 := idx_uniq (T.nodup tm.lt) hi2
            have : i = i2 := by omega
            subst this
            exact hin hin2
        rw [hr, Bool.not_false, if_pos rfl, under_same G ha hb C f tk ht0 k tk ⟨[], (List.append_nil _).symm⟩]
        rw [List.flatMap_def, List.flatMap_def]
        congr 1
        refine List.map_congr_left fun x hx => ?_
        obtain ⟨n, rfl, tn, hrn⟩ := hsubt x hx
        rw [leftL_nat]
        unfold wholeL wholeK leftK
        rw [kind_after C tn.lt]
        by_cases h3 : kindD l n = 3
        · rw [if_pos h3, if_pos h3]
          have hn := txt_of G tn h3
          obtain ⟨n1, n2⟩ := apart n tn hrn
          obtain ⟨u, hu⟩ := way n hrn
          have hno : ∀ t, eText n t ∉ es := fun t hin => by
            have h4 := (text_char C hin).1
            exact absurd (tou_up G ha hb tn tk hrn h4) (by rw [ht0]; simp)
          rw [text_same C tn.lt hno]
          have hmono := cut_mono T hn ha hb hab
          have hle := cut_le hn hb
          unfold inR at hin
          rw [Bool.and_eq_true, decide_eq_true_eq, decide_eq_true_eq] at hin
          by_cases o1 : orderR l a ⟨m, i⟩ ≤ 0
          · have o2 : ¬ orderR l ⟨m, (i : Int) + 1⟩ b ≤ 0 := fun h => hin ⟨o1, h⟩
            have h5 := far_ahead G tm hi hb o2 htb u
            have c2 : cutC l n b = 0 := by
              unfold cutC
              rw [if_neg n2, if_pos]
              rw [ord0, hu, cmpL_flip]
              exact h5
            have c1 : cutC l n a = 0 := by omega
            rw [c1, c2, List.take_zero, List.nil_append, List.drop_zero]
          · have h5 := far_behind G tm hi ha o1 hta u
            have c1 : cutC l n a = (textD l n).size := by
              unfold cutC
              rw [if_neg n1, if_neg]
              rw [ord0, hu]
              omega
            have c2 : cutC l n b = (textD l n).size := by omega
            rw [c1, c2, List.take_of_length_le (Nat.le_of_eq (len_size _)), List.drop_of_length_le (Nat.le_of_eq (len_size _)), List.append_nil]
        · rw [if_neg h3, if_neg h3]
end

theorem left_small (t : ByteArray) (k : Int) (a b : Pt) (h : a.node = k → b.node = k → a.at_ ≤ b.at_) : (leftB t k a b).size ≤ t.size := by
  unfold leftB
  rw [ByteArray.size_append, ByteArray.size_extract, ByteArray.size_extract]
  by_cases h1 : a.node = k
  · rw [if_pos h1]
    by_cases h2 : b.node = k
    · rw [if_pos h2]
      have := h h1 h2
      omega
    · rw [if_neg h2]; omega
  · rw [if_neg h1]; omega
theorem cut_ok {l : List Nd} (G : Good l) {a b : Pt} {ma mb : Nat} (hab : orderR l a b ≤ 0) {e : Edt} (h : CutE l a b e) : CutOk l e := by
  cases h with
  | @text k tk _ hx _ =>
    obtain ⟨x, hk⟩ := get_some tk.lt
    unfold txtK at hx
    rw [kindD_at hk] at hx
    simp only [Bool.or_eq_true, decide_eq_true_eq] at hx
    refine Or.inl ⟨k, x, _, rfl, hk, hx, ?_⟩
    have h1 := left_small (textD l k) k a b (fun e1 e2 => by
      unfold orderR at hab
      rw [if_pos (by rw [e1, e2])] at hab
      exact cmpI_le_iff.1 hab)
    have h2 : (textD l k).size ≤ 400 := by
      rw [textD_at hk]
      exact ((nodeE_iff x).1 (G.each x (List.mem_of_getElem? hk))).2.2.2.1
    omega
  | @rem k p i tk tp hi _ _ _ =>
    obtain ⟨_, hp, _⟩ := G.under tp hi
    obtain ⟨x, hk⟩ := get_some tk.lt
    rw [parD_at hk] at hp
    refine Or.inr ⟨k, x, rfl, hk, fun h1 => ?_, by omega⟩
    have h0 := (G.root k x hk).1 h1
    subst h0
    have hr := (tree_of (check_of G)).root
    rw [show (0 : Int) = ((0 : Nat) : Int) from rfl, parD_at hk] at hr
    omega
theorem Good.preR0 {l : List Nd} (G : Good l) : preR l 0 = preF l 41 0 := by
  have T := tree_of (check_of G)
  obtain ⟨x, hx⟩ := get_some T.pos
  have hr := T.root
  rw [show (0 : Int) = ((0 : Nat) : Int) from rfl, parD_at hx] at hr
  have h1 : Go.Proofs.YtcnogokemilhnaaDoor.upN l ((0 : Nat) : Int) = 0 := by
    unfold Go.Proofs.YtcnogokemilhnaaDoor.upN
    exact upF_stop hx (by omega)
  unfold preR
  rw [show (0 : Int) = ((0 : Nat) : Int) from rfl, h1]
theorem Good.pt0 {l : List Nd} (G : Good l) : PtT l ⟨0, 0⟩ 0 := ⟨rfl, Tr.root G.pos, Int.le_refl _, by show (0 : Int) ≤ _; omega⟩
theorem Good.ptE {l : List Nd} (G : Good l) : PtT l ⟨0, ((kidsD l 0).length : Nat)⟩ 0 := ⟨rfl, Tr.root G.pos, by simp only; omega, by rw [show ((0 : Nat) : Int) = 0 from rfl, G.root_room]; exact Int.le_refl _⟩
theorem Good.c0 {l : List Nd} (G : Good l) {n : Nat} (tn : Tr l n) (hn0 : n ≠ 0) : cutC l n ⟨0, 0⟩ = 0 := by
  obtain ⟨i, r, hd, hi⟩ := (tree_of (check_of G)).down_first tn hn0
  unfold cutC
  rw [if_neg (by simp only; omega), if_pos]
  rw [ord0, G.pt0.way, down_root (tree_of (check_of G)), hd, cmpL_flip]
  show cmpL [2 * (0 : Int)] ((2 * (i : Int) + 1) :: (r ++ [0])) < 0
  rw [cmpL, if_pos (by intro e; have := cmpI_zero e; omega)]
  exact cmpI_neg.2 (by omega)
theorem Good.cE {l : List Nd} (G : Good l) {n : Nat} (tn : Tr l n) (hn0 : n ≠ 0) : cutC l n ⟨0, ((kidsD l 0).length : Nat)⟩ = (textD l n).size := by
  obtain ⟨i, r, hd, hi⟩ := (tree_of (check_of G)).down_first tn hn0
  unfold cutC
  rw [if_neg (by simp only; omega), if_neg]
  rw [ord0, G.ptE.way, down_root (tree_of (check_of G)), hd]
  show ¬ 0 < cmpL ((2 * (i : Int) + 1) :: (r ++ [0])) [2 * ((kidsD l 0).length : Int)]
  rw [cmpL, if_pos (by intro e; have := cmpI_zero e; omega)]
  have := cmpI_neg.2 (show 2 * (i : Int) + 1 < 2 * ((kidsD l 0).length : Int) by omega)
  omega
/-- The first point is ahead of all, the last one behind all. -/
theorem Good.first_le {l : List Nd} (G : Good l) {a : Pt} {ma : Nat} (ha : PtT l a ma) : orderR l ⟨0, 0⟩ a ≤ 0 := by
  have T := tree_of (check_of G)
  rw [orderR_path, G.pt0.way, ha.way, down_root T]
  have hl := ha.low
  by_cases h0 : ma = 0
  · subst h0
    rw [down_root T]
    exact cmpL_one (by simp only; omega)
  · obtain ⟨i, r, hd, _⟩ := T.down_first ha.tr h0
    rw [hd]
    exact cmpL_lt (by simp only; omega)
theorem Good.last_le {l : List Nd} (G : Good l) {a : Pt} {ma : Nat} (ha : PtT l a ma) : orderR l a ⟨0, ((kidsD l 0).length : Nat)⟩ ≤ 0 := by
  have T := tree_of (check_of G)
  rw [orderR_path, G.ptE.way, ha.way, down_root T]
  by_cases h0 : ma = 0
  · subst h0
    rw [down_root T]
    have hh := ha.high
    rw [show ((0 : Nat) : Int) = 0 from rfl, G.root_room] at hh
    exact cmpL_one (by simp only; omega)
  · obtain ⟨i, r, hd, hi⟩ := T.down_first ha.tr h0
    rw [hd]
    exact cmpL_lt (by simp only; omega)
theorem PtT.ptE0 {l : List Nd} (T : Tree l) {a : Pt} {ma : Nat} (ha : PtT l a ma) : ptE l a = 0 := by
  have := ptE_of T ha.tr ha.low ha.high
  rw [← ha.node] at this
  exact this
/-- What is left: what was ahead, and what was behind. -/
theorem left_join {l : List Nd} (G : Good l) {a b : Pt} {ma mb : Nat} (ha : PtT l a ma) (hb : PtT l b mb) (hab : orderR l a b ≤ 0) : ∀ ns : List Int, (∀ x ∈ ns, ∃ n : Nat, x = (n : Int) ∧ Tr l n) → ns.Pairwise (fun x y => cmpL (downZ l x) (downZ l y) < 0) →
    ns.flatMap (leftL l a b) = (ns.flatMap fun n => (partK l ⟨0, 0⟩ a n).data.toList) ++ ns.flatMap fun n => (partK l b ⟨0, ((kidsD l 0).length : Nat)⟩ n).data.toList := by
  have T := tree_of (check_of G)
  have ht : ∀ (n : Nat) (u v : Pt), ¬ kindD l n = 3 → (partK l u v n).data.toList = [] := fun n u v h => by unfold partK; rw [if_neg h]
  have hz : ∀ {n : Nat}, TxtN l n → n ≠ 0 := fun {n} h e => by
    have := h.kind
    rw [e, show ((0 : Nat) : Int) = 0 from rfl, G.root_kind] at this
    exact absurd this (by decide)
  have hA : ∀ {n : Nat}, TxtN l n → (partK l ⟨0, 0⟩ a n).data.toList = (textD l n).data.toList.take (cutC l n a) := fun {n} h => by
    unfold partK
    rw [if_pos h.kind, part_cut T h G.pt0 ha, G.c0 h.tr (hz h), List.drop_zero]
  have hB : ∀ {n : Nat}, TxtN l n → (partK l b ⟨0, ((kidsD l 0).length : Nat)⟩ n).data.toList = (textD l n).data.toList.drop (cutC l n b) := fun {n} h => by
    unfold partK
    rw [if_pos h.kind, part_cut T h hb G.ptE, G.cE h.tr (hz h), List.take_of_length_le (Nat.le_of_eq (len_size _))]
  intro ns
  induction ns with
  | nil => intro _ _; rfl
  | cons z r ih =>
    intro hall hs
    obtain ⟨n, rfl, tn⟩ := hall z (by simp)
    obtain ⟨hs1, hs2⟩ := List.pairwise_cons.1 hs
    have ih := ih (fun x hx => hall x (by simp [hx])) hs2
    rw [List.flatMap_cons, List.flatMap_cons, List.flatMap_cons, ih, leftL_nat]
    by_cases hk : kindD l n = 3
    · have hn := txt_of G tn hk
      unfold leftK
      rw [if_pos hk, hA hn, hB hn]
      by_cases hbf : b.node ≠ (n : Int) ∧ orderR l ⟨n, 0⟩ b < 0
      · have c1 : cutC l n b = (textD l n).size := by unfold cutC; rw [if_neg hbf.1, if_neg (by omega)]
        rw [c1, List.drop_of_length_le (Nat.le_of_eq (len_size _)), List.append_nil, List.nil_append, List.append_assoc]
      · have z2 : (r.flatMap fun n => (partK l ⟨0, 0⟩ a n).data.toList) = [] := List.flatMap_eq_nil_iff.2 fun x hx => by
          obtain ⟨m, rfl, tm⟩ := hall x (by simp [hx])
          by_cases hk2 : kindD l m = 3
          · have hm := txt_of G tm hk2
            have c1 : cutC l m b = 0 := cut_zero T hn hm (hs1 _ hx) hb hbf
            have c2 : cutC l m a = 0 := by have := cut_mono T hm ha hb hab; omega
            rw [hA hm, c2, List.take_zero]
          · exact ht m _ _ hk2
        rw [z2, List.nil_append, List.append_nil, List.append_assoc]
    · unfold leftK
      rw [if_neg hk, ht n _ _ hk, ht n _ _ hk, List.nil_append, List.nil_append, List.nil_append]
/-- What Cut says. -/
def cutS (l : List Nd) (a b : Pt) : List Edt × Int := if spanS l a b ≠ 0 then ([], spanS l a b) else if 40 < (cutF l a b 41 0).length then ([], 2) else (cutF l a b 41 0, 0)
theorem span_cut_law {l : List Nd} {a b : Pt} (hsp : spanS l a b = 0) :
    ∃ l', edAll 0 l (cutF l a b 41 0) = (l', 0, 0) ∧ checkD l' = 0 ∧ spanS l ⟨0, 0⟩ a = 0 ∧ ∃ Z : ByteArray, joinB (wholeK l) (preR l 0) = (joinB (partK l ⟨0, 0⟩ a) (preR l 0) ++ joinB (partK l a b) (preR l 0)) ++ Z ∧ joinB (wholeK l') (preR l' 0) = joinB (partK l ⟨0, 0⟩ a) (preR l 0) ++ Z := by
  obtain ⟨hc, pa, pb, hab⟩ := spanS_zero.1 hsp
  have G := good_of hc
  have T := tree_of hc
  obtain ⟨ma, ha⟩ := ptT_of T pa
  obtain ⟨mb, hb⟩ := ptT_of T pb
  have hch : ∀ e ∈ cutF l a b 41 0, CutE l a b e := cut_char G 41 0 (Tr.root G.pos) (tou_root G ha)
  obtain ⟨l', h1, G', hdoc⟩ := cut_all 0 l G (fun e he => cut_ok (ma := ma) (mb := mb) G hab (hch e he)) (G.cut_nodup 41 (Tr.root G.pos))
  have hk0 : txtK l (0 : Nat) = false := by
    unfold txtK
    rw [show ((0 : Nat) : Int) = 0 from rfl, G.root_kind]
    decide
  have hmain := cut_main G ha hb hab ⟨hdoc, hch⟩ 41 0 (Tr.root G.pos) (tou_root G ha) hk0 (fun e he => he)
  have s1 : spanS l ⟨0, 0⟩ a = 0 := spanS_zero.2 ⟨hc, G.pt0.ptE0 T, pa, G.first_le ha⟩
  refine ⟨l', h1, check_of G', s1, joinB (partK l b ⟨0, ((kidsD l 0).length : Nat)⟩) (preR l 0), ?_, ?_⟩
  · rw [← G.full_text]
    apply ByteArray.ext
    apply Array.ext'
    rw [ByteArray.data_append, ByteArray.data_append, Array.toList_append, Array.toList_append, join_list, join_list, join_list, join_list]
    rw [parts_join G G.pt0 ha hb (G.first_le ha) hab _ T.order_trs T.order_sorted]
    have h2 : orderR l ⟨0, 0⟩ b ≤ 0 := G.first_le hb
    exact (parts_join G G.pt0 hb G.ptE h2 (G.last_le hb) _ T.order_trs T.order_sorted).symm
  · apply ByteArray.ext
    apply Array.ext'
    rw [ByteArray.data_append, Array.toList_append, join_list, join_list, join_list, G'.preR0]
    have h3 := left_join G ha hb hab _ T.order_trs T.order_sorted
    rw [← h3, G.preR0]
    exact hmain
end Go.Proofs.YtcnogokemilhnaaDoor
