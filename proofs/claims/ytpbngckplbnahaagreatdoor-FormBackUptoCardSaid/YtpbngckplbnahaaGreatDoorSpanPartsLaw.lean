/-
The texts of ranges, one behind the other: the plain law. No program in sight.
-/
import Derived.Test.YtpbngckplbnahaaGreatDoorSpanStaysLaw
namespace Go.Proofs.YtpbngckplbnahaaGreatDoor
open Go.RowKit Go.Cl

theorem cmpL_pre : ∀ s a b : List Int, cmpL (s ++ a) (s ++ b) = cmpL a b
  | [], _, _ => rfl
  | x :: s, a, b => by
    rw [List.cons_append, List.cons_append, cmpL, cmpI_self, if_neg (by simp)]
    exact cmpL_pre s a b
theorem cmpL_lt_ext : ∀ {s t : List Int}, cmpL s t < 0 → (∀ r, t ≠ s ++ r) → ∀ u v, cmpL (s ++ u) (t ++ v) < 0
  | [], t, _, h => absurd rfl (h t)
  | a :: s, [], h, _ => absurd (show (1 : Int) < 0 from h) (by decide)
  | a :: s, b :: t, h, g => by
    intro u v
    rw [List.cons_append, List.cons_append, cmpL]
    rw [cmpL] at h
    by_cases h1 : cmpI a b = 0
    · rw [if_neg (by omega)] at h
      rw [if_neg (by omega)]
      have := cmpI_zero h1
      subst this
      exact cmpL_lt_ext h (fun r e => g r (by rw [e]; rfl)) u v
    · rw [if_pos h1] at h
      rw [if_pos h1]
      exact h
theorem cmpL_np : ∀ {s π : List Int}, (∀ r, π ≠ s ++ r) → ∀ u v, cmpL (s ++ u) π = cmpL (s ++ v) π
  | [], π, h => absurd rfl (h π)
  | a :: s, [], _ => fun _ _ => rfl
  | a :: s, b :: t, h => by
    intro u v
    rw [List.cons_append, List.cons_append, cmpL, cmpL]
    by_cases h1 : cmpI a b = 0
    · rw [if_neg (by omega), if_neg (by omega)]
      have := cmpI_zero h1
      subst this
      exact cmpL_np (fun r e => h r (by rw [e]; rfl)) u v
    · rw [if_pos h1, if_pos h1]
theorem cmpL_le_trans {a b c : List Int} (h : cmpL a b ≤ 0) (g : cmpL b c ≤ 0) : cmpL a c ≤ 0 := by
  by_cases h1 : cmpL a b = 0
  · rw [cmpL_zero h1]; exact g
  · by_cases g1 : cmpL b c = 0
    · rw [← cmpL_zero g1]; exact h
    · have := cmpL_trans (show cmpL a b < 0 by omega) (show cmpL b c < 0 by omega)
      omega
theorem cmpL_lt_le {a b c : List Int} (h : cmpL a b < 0) (g : cmpL b c ≤ 0) : cmpL a c < 0 := by
  by_cases g1 : cmpL b c = 0
  · rw [← cmpL_zero g1]; exact h
  · exact cmpL_trans h (by omega)
theorem cmpL_le_lt {a b c : List Int} (h : cmpL a b ≤ 0) (g : cmpL b c < 0) : cmpL a c < 0 := by
  by_cases h1 : cmpL a b = 0
  · rw [cmpL_zero h1]; exact g
  · exact cmpL_trans (by omega) g
theorem cmpL_flip (a b : List Int) : 0 < cmpL a b ↔ cmpL b a < 0 := by
  have := cmpL_anti a b
  omega
theorem cmpL_flip0 (a b : List Int) : 0 ≤ cmpL a b ↔ cmpL b a ≤ 0 := by
  have := cmpL_anti a b
  omega

def downZ (l : List Nd) (z : Int) : List Int := (stepsR l z).reverse
theorem downZ_nat (l : List Nd) (n : Nat) : downZ l n = downP l n := rfl
/-- The order rises. -/
theorem Tree.pre_sorted {l : List Nd} (T : Tree l) (f : Nat) : ∀ m : Nat, m < l.length → upN l m + f = 41 → (preR l m).Pairwise (fun x y => cmpL (downZ l x) (downZ l y) < 0) ∧ ∀ x ∈ preR l m, ∃ r, downZ l x = downZ l m ++ r := by
  induction f with
  | zero =>
    intro m hm hf
    have := (T.deep m hm).1
    omega
  | succ f ih =>
    intro m hm hf
    have hk : ∀ k ∈ kidsD l m, ∃ n : Nat, k = (n : Int) ∧ n < l.length ∧ parD l n = (m : Int) ∧ upN l n + f = 41 := fun k hk => by
      obtain ⟨n, e, hn, hp⟩ := T.kid hm hk
      exact ⟨n, e, hn, hp, by have := (T.up_par hn hp).2; omega⟩
    have hkd : ∀ (i : Nat) k, (kidsD l m)[i]? = some k → ∀ x ∈ preR l k, ∃ r, downZ l x = downZ l m ++ (2 * (i : Int) + 1) :: r := fun i k hi x hx => by
      obtain ⟨n, rfl, hn, hp, hu⟩ := hk k (List.mem_of_getElem? hi)
      obtain ⟨r, hr⟩ := (ih n hn hu).2 x hx
      refine ⟨r, ?_⟩
      rw [hr, downZ_nat, T.down_step hn hp, idx_uniq (T.nodup hm) hi, List.append_assoc]
      rfl
    rw [T.pre_step hm]
    refine ⟨List.pairwise_cons.2 ⟨fun y hy => ?_, List.pairwise_flatMap.2 ⟨fun k hkm => ?_, ?_⟩⟩, fun x hx => ?_⟩
    · obtain ⟨k, hkm, hy⟩ := List.mem_flatMap.1 hy
      obtain ⟨i, hi⟩ := List.mem_iff_getElem?.1 hkm
      obtain ⟨r, hr⟩ := hkd i k hi y hy
      rw [hr]
      have := cmpL_pre (downZ l m) [] ((2 * (i : Int) + 1) :: r)
      rw [List.append_nil] at this
      rw [this]
      show (-1 : Int) < 0
      decide
    · obtain ⟨n, rfl, hn, hp, hu⟩ := hk k hkm
      exact (ih n hn hu).1
    · refine List.pairwise_iff_getElem.2 fun i j hi hj hij x hx y hy => ?_
      obtain ⟨r, hr⟩ := hkd i _ (List.getElem?_eq_getElem hi) x hx
      obtain ⟨s, hs⟩ := hkd j _ (List.getElem?_eq_getElem hj) y hy
      rw [hr, hs, cmpL_pre, cmpL]
      have h1 : cmpI (2 * (i : Int) + 1) (2 * (j : Int) + 1) < 0 := cmpI_neg.2 (by omega)
      rw [if_pos (by omega)]
      exact h1
    · rcases List.mem_cons.1 hx with rfl | hx
      · exact ⟨[], (List.append_nil _).symm⟩
      · obtain ⟨k, hkm, hx⟩ := List.mem_flatMap.1 hx
        obtain ⟨i, hi⟩ := List.mem_iff_getElem?.1 hkm
        obtain ⟨r, hr⟩ := hkd i k hi x hx
        exact ⟨_, hr⟩
theorem Tree.pre_few {l : List Nd} (T : Tree l) {m : Nat} (hm : m < l.length) : (preR l m).length ≤ l.length := by
  obtain ⟨h1, _⟩ := T.pre_sorted (41 - upN l m) m hm (by have := (T.deep m hm).1; omega)
  have h2 := (T.pre_chain (41 - upN l m) m hm (by have := (T.deep m hm).1; omega)).2
  refine few_nats l.length _ (fun i j x hij hi hj => ?_) (fun x hx => by
    obtain ⟨n, e, hn, _⟩ := h2 x hx
    exact ⟨n, e, hn⟩)
  obtain ⟨hi1, hi2⟩ := List.getElem?_eq_some_iff.1 hi
  obtain ⟨hj1, hj2⟩ := List.getElem?_eq_some_iff.1 hj
  have := List.pairwise_iff_getElem.1 h1 i j hi1 hj1 hij
  rw [hi2, hj2, cmpL_self] at this
  exact absurd this (by decide)
/-- Below a node without kids there is none. -/
theorem Tree.leaf_pre {l : List Nd} (T : Tree l) {m : Nat} (tm : Tr l m) (hk : kidsD l m = []) : ∀ u, Tr l u → ∀ r, downP l u = downP l m ++ r → u = m := by
  intro u tu
  induction tu with
  | root h0 =>
    intro r hr
    rw [down_root T] at hr
    have h1 := (List.append_eq_nil_iff.1 hr.symm).1
    exact T.down_inj (Tr.root h0) tm (by rw [down_root T, h1])
  | @step u p hu e tp ih =>
    intro r hr
    rcases List.eq_nil_or_concat r with h0 | ⟨r', v, h0⟩
    · subst h0
      exact T.down_inj (Tr.step hu e tp) tm (by rw [hr, List.append_nil])
    · subst h0
      rw [T.down_step hu e] at hr
      have h1 := List.append_inj' (show downP l p ++ [2 * Lib.idxOf (kidsD l p) u + 1] = (downP l m ++ r') ++ [v] by rw [hr]; simp) rfl
      have hpm := ih r' h1.1
      subst hpm
      rcases T.par hu with e2 | ⟨p', e2, _, hk2⟩
      · omega
      · have : p = p' := by omega
        subst this
        rw [hk] at hk2
        cases hk2

/-! ### texts -/
def kindD (l : List Nd) (n : Int) : Int := (l[n.toNat]?.map Nd.kind).getD 0
def textD (l : List Nd) (n : Int) : ByteArray := (l[n.toNat]?.map Nd.text).getD ⟨#[]⟩
theorem kindD_at {l : List Nd} {m : Nat} {x : Nd} (h : l[m]? = some x) : kindD l m = x.kind := by
  unfold kindD; rw [Int.toNat_natCast, h]; rfl
theorem textD_at {l : List Nd} {m : Nat} {x : Nd} (h : l[m]? = some x) : textD l m = x.text := by
  unfold textD; rw [Int.toNat_natCast, h]; rfl
/-- What of a text lies in a range. -/
def partS (l : List Nd) (n : Int) (a b : Pt) : ByteArray :=
  if a.node ≠ n ∧ orderR l ⟨n, 0⟩ a < 0 then ⟨#[]⟩ else if b.node ≠ n ∧ 0 < orderR l ⟨n, 0⟩ b then ⟨#[]⟩
  else (textD l n).extract (if a.node = n then a.at_.toNat else 0) (if b.node = n then b.at_.toNat else (textD l n).size)
def partK (l : List Nd) (a b : Pt) (n : Int) : ByteArray := if kindD l n = 3 then partS l n a b else ⟨#[]⟩
def wholeK (l : List Nd) (n : Int) : ByteArray := if kindD l n = 3 then textD l n else ⟨#[]⟩
def joinB (f : Int → ByteArray) (ns : List Int) : ByteArray := ns.foldl (fun s n => s ++ f n) ⟨#[]⟩
def textS (l : List Nd) (a b : Pt) : ByteArray × Int := if spanS l a b ≠ 0 then (⟨#[]⟩, spanS l a b) else (joinB (partK l a b) (preR l 0), 0)
def textOfS (l : List Nd) (n : Int) : ByteArray × Int := if (if checkD l ≠ 0 then checkD l else if n < 0 ∨ (l.length : Int) ≤ n then 1 else 0 : Int) ≠ 0 then (⟨#[]⟩, (if checkD l ≠ 0 then checkD l else if n < 0 ∨ (l.length : Int) ≤ n then 1 else 0 : Int)) else if kindD l n = 4 then (textD l n, 0) else (joinB (wholeK l) (preR l n), 0)
theorem join_list (f : Int → ByteArray) (ns : List Int) : (joinB f ns).data.toList = ns.flatMap fun n => (f n).data.toList := by
  have key : ∀ (ns : List Int) (s : ByteArray), (ns.foldl (fun s n => s ++ f n) s).data.toList = s.data.toList ++ ns.flatMap fun n => (f n).data.toList := by
    intro ns
    induction ns with
    | nil => intro s; simp
    | cons n r ih =>
      intro s
      rw [List.foldl_cons, ih, ByteArray.data_append, Array.toList_append, List.flatMap_cons, List.append_assoc]
  unfold joinB
  rw [key]
  rfl
theorem join_ext {f : Int → ByteArray} {g : Int → ByteArray} {ns ms : List Int} (h : (ns.flatMap fun n => (f n).data.toList) = ms.flatMap fun n => (g n).data.toList) : joinB f ns = joinB g ms := by
  apply ByteArray.ext
  apply Array.ext'
  rw [join_list, join_list, h]
/-- How much of a node's text lies ahead of a point. -/
def cutC (l : List Nd) (n : Nat) (p : Pt) : Nat := if p.node = (n : Int) then p.at_.toNat else if 0 < orderR l ⟨n, 0⟩ p then 0 else (textD l n).size
/-- A text node of the tree. -/
structure TxtN (l : List Nd) (n : Nat) : Prop where
  tr : Tr l n
  kind : kindD l n = 3
  leaf : kidsD l n = []
theorem txt_of {l : List Nd} (G : Good l) {n : Nat} (t : Tr l n) (h : kindD l n = 3) : TxtN l n := by
  obtain ⟨x, hx⟩ := get_some t.lt
  refine ⟨t, h, ?_⟩
  rw [kindD_at hx] at h
  rw [kidsD_at hx]
  have hb := ((nodeE_iff x).1 (G.each x (List.mem_of_getElem? hx))).1.2.2
  unfold bareB at hb
  cases hq : x.kids with
  | nil => rfl
  | cons y r =>
    rw [hq, h] at hb
    simp [parentB] at hb
theorem TxtN.room {l : List Nd} {n : Nat} (h : TxtN l n) : roomD l n = (textD l n).size := by
  obtain ⟨x, hx⟩ := get_some h.tr.lt
  have hk := h.kind
  rw [kindD_at hx] at hk
  rw [room_at hx, if_pos (Or.inl hk), textD_at hx]
/-- A point of the tree, told apart. -/
structure PtT (l : List Nd) (p : Pt) (m : Nat) : Prop where
  node : p.node = (m : Int)
  tr : Tr l m
  low : 0 ≤ p.at_
  high : p.at_ ≤ (roomD l m : Int)
theorem ptT_of {l : List Nd} (T : Tree l) {p : Pt} (h : ptE l p = 0) : ∃ m, PtT l p m := by
  obtain ⟨m, a, rfl, h1, h2, h3⟩ := pt_tr T h
  exact ⟨m, rfl, h1, h2, h3⟩
def wayP (l : List Nd) (p : Pt) : List Int := pathP l p
theorem PtT.way {l : List Nd} {p : Pt} {m : Nat} (h : PtT l p m) : pathP l p = downP l m ++ [2 * p.at_] := by
  have := path_down l m p.at_
  rw [← this, ← h.node]
theorem TxtN.np {l : List Nd} (T : Tree l) {n : Nat} (h : TxtN l n) {p : Pt} {m : Nat} (hp : PtT l p m) (hne : m ≠ n) : ∀ r, pathP l p ≠ downP l n ++ r := by
  intro r e
  rw [hp.way] at e
  rcases List.eq_nil_or_concat r with h0 | ⟨r', v, h0⟩
  · subst h0
    rw [List.append_nil] at e
    have := down_odd l n (2 * p.at_) (by rw [← e]; simp)
    omega
  · subst h0
    have h1 := List.append_inj' (show downP l m ++ [2 * p.at_] = (downP l n ++ r') ++ [v] by rw [e]; simp) rfl
    exact hne (T.leaf_pre h.tr h.leaf m hp.tr r' h1.1)
theorem ord0 (l : List Nd) (n : Nat) (p : Pt) : orderR l ⟨n, 0⟩ p = cmpL (downP l n ++ [0]) (pathP l p) := by
  rw [orderR_path, path_down]
  rfl
/-- Another node's point: the place within the text does not matter. -/
theorem TxtN.ord {l : List Nd} (T : Tree l) {n : Nat} (h : TxtN l n) {p : Pt} {m : Nat} (hp : PtT l p m) (hne : m ≠ n) (u : List Int) : cmpL (downP l n ++ u) (pathP l p) = orderR l ⟨n, 0⟩ p := by
  rw [ord0]
  exact cmpL_np (h.np T hp hne) _ _
theorem TxtN.ord_ne {l : List Nd} (T : Tree l) {n : Nat} (h : TxtN l n) {p : Pt} {m : Nat} (hp : PtT l p m) (hne : m ≠ n) : orderR l ⟨n, 0⟩ p ≠ 0 := by
  intro e
  rw [ord0] at e
  exact h.np T hp hne [0] (cmpL_zero e).symm
theorem cut_le {l : List Nd} {n : Nat} (h : TxtN l n) {p : Pt} {m : Nat} (hp : PtT l p m) : cutC l n p ≤ (textD l n).size := by
  unfold cutC
  by_cases h1 : p.node = (n : Int)
  · rw [if_pos h1]
    have h2 := hp.node
    have : m = n := by omega
    subst this
    have h3 := hp.high
    have h4 := hp.low
    rw [h.room] at h3
    omega
  · rw [if_neg h1]
    split <;> omega
theorem len_size (t : ByteArray) : t.data.toList.length = t.size := Array.length_toList
theorem part_cut {l : List Nd} (T : Tree l) {n : Nat} (h : TxtN l n) {a b : Pt} {ma mb : Nat} (ha : PtT l a ma) (_ : PtT l b mb) : (partS l n a b).data.toList = ((textD l n).data.toList.take (cutC l n b)).drop (cutC l n a) := by
  have hx : ∀ (t : ByteArray) (i j : Nat), (t.extract i j).data.toList = (t.data.toList.take j).drop i := fun t i j => by
    rw [ByteArray.data_extract, Array.toList_extract]
    simp [List.drop_take]
  unfold partS
  by_cases h1 : a.node ≠ (n : Int) ∧ orderR l ⟨n, 0⟩ a < 0
  · rw [if_pos h1]
    have : cutC l n a = (textD l n).size := by unfold cutC; rw [if_neg h1.1, if_neg (by omega)]
    rw [this, List.drop_of_length_le (by
      rw [List.length_take]
      exact Nat.le_trans (Nat.min_le_right _ _) (Nat.le_of_eq (len_size _)))]
  · rw [if_neg h1]
    by_cases h2 : b.node ≠ (n : Int) ∧ 0 < orderR l ⟨n, 0⟩ b
    · rw [if_pos h2]
      have : cutC l n b = 0 := by unfold cutC; rw [if_neg h2.1, if_pos h2.2]
      rw [this, List.take_zero, List.drop_nil]
    · rw [if_neg h2, hx]
      have e1 : cutC l n a = if a.node = (n : Int) then a.at_.toNat else 0 := by
        unfold cutC
        by_cases g : a.node = (n : Int)
        · rw [if_pos g, if_pos g]
        · rw [if_neg g, if_neg g, if_pos]
          have h3 : ¬ orderR l ⟨n, 0⟩ a < 0 := fun hh => h1 ⟨g, hh⟩
          have h4 := h.ord_ne T ha (fun e => g (by rw [ha.node, e]))
          omega
      have e2 : cutC l n b = if b.node = (n : Int) then b.at_.toNat else (textD l n).size := by
        unfold cutC
        by_cases g : b.node = (n : Int)
        · rw [if_pos g, if_pos g]
        · rw [if_neg g, if_neg g, if_neg (fun hh => h2 ⟨g, hh⟩)]
      rw [e1, e2]
/-- A point further back: no less lies ahead of it. -/
theorem cut_mono {l : List Nd} (T : Tree l) {n : Nat} (h : TxtN l n) {a b : Pt} {ma mb : Nat} (ha : PtT l a ma) (hb : PtT l b mb) (hab : orderR l a b ≤ 0) : cutC l n a ≤ cutC l n b := by
  have hab2 := hab
  rw [orderR_path] at hab2
  have hle := cut_le h ha
  unfold cutC at hle ⊢
  by_cases g1 : a.node = (n : Int)
  · rw [if_pos g1] at hle ⊢
    have ea : ma = n := by have := ha.node; omega
    by_cases g2 : b.node = (n : Int)
    · rw [if_pos g2]
      unfold orderR at hab
      rw [if_pos (by rw [g1, g2])] at hab
      have := cmpI_le_iff.1 hab
      omega
    · rw [if_neg g2]
      have hbn : mb ≠ n := fun e => g2 (by rw [hb.node, e])
      by_cases g3 : 0 < orderR l ⟨n, 0⟩ b
      · exfalso
        have h3 := h.ord T hb hbn [2 * a.at_]
        rw [ha.way, ea] at hab2
        omega
      · rw [if_neg g3]; exact hle
  · rw [if_neg g1] at hle ⊢
    have han : ma ≠ n := fun e => g1 (by rw [ha.node, e])
    by_cases g3 : 0 < orderR l ⟨n, 0⟩ a
    · rw [if_pos g3]; exact Nat.zero_le _
    · rw [if_neg g3]
      have g4 : orderR l ⟨n, 0⟩ a < 0 := by have := h.ord_ne T ha han; omega
      by_cases g2 : b.node = (n : Int)
      · exfalso
        have hbn : mb = n := by have := hb.node; omega
        have h3 := h.ord T ha han [2 * b.at_]
        rw [hb.way, hbn] at hab2
        rw [← h3] at g4
        have h5 := cmpL_lt_le g4 hab2
        rw [cmpL_self] at h5
        exact absurd h5 (by decide)
      · rw [if_neg g2, if_neg]
        · exact Nat.le_refl _
        · rw [ord0] at g4 ⊢
          have := cmpL_lt_le g4 hab2
          omega
/-- Behind a node that is not ahead of a point all are behind the point. -/
theorem cut_zero {l : List Nd} (T : Tree l) {n m : Nat} (hn : TxtN l n) (hm : TxtN l m) (hnm : cmpL (downP l n) (downP l m) < 0) {p : Pt} {mp : Nat} (hp : PtT l p mp) (h : ¬ (p.node ≠ (n : Int) ∧ orderR l ⟨n, 0⟩ p < 0)) : cutC l m p = 0 := by
  have hne : m ≠ n := fun e => by rw [e, cmpL_self] at hnm; exact absurd hnm (by decide)
  have hext := cmpL_lt_ext hnm (fun r e => hne (T.leaf_pre hn.tr hn.leaf m hm.tr r e))
  have hlt : cmpL (pathP l p) (downP l m ++ [0]) < 0 := by
    by_cases g : p.node = (n : Int)
    · have : mp = n := by have := hp.node; omega
      rw [hp.way, this]
      exact hext _ _
    · have h1 : ¬ orderR l ⟨n, 0⟩ p < 0 := fun hh => h ⟨g, hh⟩
      rw [ord0] at h1
      have h2 := (cmpL_flip0 (downP l n ++ [0]) (pathP l p)).1 (by omega)
      exact cmpL_le_lt h2 (hext _ _)
  unfold cutC
  by_cases g : p.node = (m : Int)
  · exfalso
    have : mp = m := by have := hp.node; omega
    rw [hp.way, this, cmpL_pre] at hlt
    have h1 : cmpL [2 * p.at_] [0] < 0 := hlt
    rw [cmpL] at h1
    have h2 := hp.low
    by_cases h3 : cmpI (2 * p.at_) 0 = 0
    · rw [if_neg (by omega)] at h1
      exact absurd h1 (by decide)
    · rw [if_pos h3] at h1
      have := cmpI_neg.1 h1
      omega
  · rw [if_neg g, if_pos]
    rw [ord0]
    exact (cmpL_flip _ _).2 hlt
theorem take_drop_join {α : Type} (t : List α) {x y z : Nat} (h1 : x ≤ y) (h2 : y ≤ z) : (t.take y).drop x ++ (t.take z).drop y = (t.take z).drop x := by
  have e : t.take y = (t.take z).take y := by rw [List.take_take, Nat.min_eq_left h2]
  rw [e]
  generalize t.take z = s
  rw [List.drop_take]
  have : s.drop y = (s.drop x).drop (y - x) := by rw [List.drop_drop]; congr 1; omega
  rw [this, List.take_append_drop]
theorem cut_size {l : List Nd} {n : Nat} (k : Nat) : (((textD l n).data.toList.take k).drop (textD l n).size) = [] := by
  apply List.drop_of_length_le
  rw [List.length_take]
  exact Nat.le_trans (Nat.min_le_right _ _) (Nat.le_of_eq (len_size _))
theorem parts_join {l : List Nd} (G : Good l) {a p b : Pt} {ma mp mb : Nat} (ha : PtT l a ma) (hp : PtT l p mp) (hb : PtT l b mb) (h1 : orderR l a p ≤ 0) (h2 : orderR l p b ≤ 0) :
    ∀ ns : List Int, (∀ x ∈ ns, ∃ n : Nat, x = (n : Int) ∧ Tr l n) → ns.Pairwise (fun x y => cmpL (downZ l x) (downZ l y) < 0) →
    (ns.flatMap fun n => (partK l a p n).data.toList) ++ (ns.flatMap fun n => (partK l p b n).data.toList) = ns.flatMap fun n => (partK l a b n).data.toList := by
  have T := tree_of (check_of G)
  have hab : orderR l a b ≤ 0 := by
    rw [orderR_path] at *
    exact cmpL_le_trans h1 h2
  have ht : ∀ (n : Nat) (u v : Pt), ¬ kindD l n = 3 → (partK l u v n).data.toList = [] := fun n u v h => by unfold partK; rw [if_neg h]
  have hc : ∀ {n : Nat} (h : TxtN l n) {u v : Pt} {mu mv : Nat}, PtT l u mu → PtT l v mv → (partK l u v n).data.toList = ((textD l n).data.toList.take (cutC l n v)).drop (cutC l n u) := fun {n} h {u v mu mv} hu hv => by
    unfold partK
    rw [if_pos h.kind]
    exact part_cut T h hu hv
  intro ns
  induction ns with
  | nil => intro _ _; rfl
  | cons z r ih =>
    intro hall hs
    obtain ⟨n, rfl, tn⟩ := hall z (by simp)
    obtain ⟨hs1, hs2⟩ := List.pairwise_cons.1 hs
    have ih := ih (fun x hx => hall x (by simp [hx])) hs2
    rw [List.flatMap_cons, List.flatMap_cons, List.flatMap_cons]
    by_cases hk : kindD l n = 3
    · have hn := txt_of G tn hk
      by_cases hbf : p.node ≠ (n : Int) ∧ orderR l ⟨n, 0⟩ p < 0
      · have c1 : cutC l n p = (textD l n).size := by unfold cutC; rw [if_neg hbf.1, if_neg (by omega)]
        have c2 : cutC l n b = (textD l n).size := by
          have h3 := cut_mono T hn hp hb h2
          have h4 := cut_le hn hb
          omega
        have e1 : (partK l p b n).data.toList = [] := by rw [hc hn hp hb, c1]; exact cut_size _
        have e2 : (partK l a b n).data.toList = (partK l a p n).data.toList := by rw [hc hn ha hb, hc hn ha hp, c1, c2]
        rw [e1, e2, List.nil_append, List.append_assoc, ih]
      · have z1 : ∀ x ∈ r, (partK l a p x).data.toList = [] ∧ (partK l a b x).data.toList = (partK l p b x).data.toList := fun x hx => by
          obtain ⟨m, rfl, tm⟩ := hall x (by simp [hx])
          by_cases hk2 : kindD l m = 3
          · have hm := txt_of G tm hk2
            have c1 : cutC l m p = 0 := cut_zero T hn hm (hs1 _ hx) hp hbf
            have c2 : cutC l m a = 0 := by have := cut_mono T hm ha hp h1; omega
            refine ⟨?_, ?_⟩
            · rw [hc hm ha hp, c1, List.take_zero, List.drop_nil]
            · rw [hc hm ha hb, hc hm hp hb, c1, c2]
          · rw [ht m a p hk2, ht m a b hk2, ht m p b hk2]
            exact ⟨rfl, rfl⟩
        have z2 : (r.flatMap fun n => (partK l a p n).data.toList) = [] := List.flatMap_eq_nil_iff.2 fun x hx => (z1 x hx).1
        have z3 : (r.flatMap fun n => (partK l a b n).data.toList) = r.flatMap fun n => (partK l p b n).data.toList := by
          rw [List.flatMap_def, List.flatMap_def]
          congr 1
          exact List.map_congr_left fun x hx => (z1 x hx).2
        rw [z2, z3, List.append_nil, ← List.append_assoc, hc hn ha hp, hc hn hp hb, hc hn ha hb, take_drop_join _ (cut_mono T hn ha hp h1) (cut_mono T hn hp hb h2)]
    · rw [ht n a p hk, ht n p b hk, ht n a b hk, List.nil_append, List.nil_append, List.nil_append]
      exact ih
theorem Tree.order_trs {l : List Nd} (T : Tree l) : ∀ x ∈ preR l 0, ∃ n : Nat, x = (n : Int) ∧ Tr l n := fun x hx => by
  obtain ⟨n, e, hn, ht⟩ := T.all_chain.2.2 x hx
  exact ⟨n, e, T.tr_of _ n hn (Nat.lt_succ_self _) ht⟩
theorem Tree.order_sorted {l : List Nd} (T : Tree l) : (preR l 0).Pairwise (fun x y => cmpL (downZ l x) (downZ l y) < 0) := by
  have h1 : upN l ((0 : Nat) : Int) = 0 := by
    obtain ⟨x, hx⟩ := get_some T.pos
    have hr := T.root
    rw [show (0 : Int) = ((0 : Nat) : Int) from rfl, parD_at hx] at hr
    unfold upN
    exact upF_stop hx (by omega)
  exact (T.pre_sorted 41 0 T.pos (by omega)).1
/-- From the root down: the first step. -/
theorem Tree.down_first {l : List Nd} (T : Tree l) {n : Nat} (h : Tr l n) : n ≠ 0 → ∃ (i : Nat) (r : List Int), downP l n = (2 * (i : Int) + 1) :: r ∧ i < (kidsD l 0).length := by
  induction h with
  | root _ => intro h; exact absurd rfl h
  | @step m p hm e hp ih =>
    intro _
    by_cases h0 : p = 0
    · subst h0
      rcases T.par hm with e2 | ⟨p', e2, _, hk⟩
      · omega
      · have : p' = 0 := by omega
        subst this
        obtain ⟨i, hi, hx, _⟩ := idx_of_mem hk
        refine ⟨i, [], ?_, (List.getElem?_eq_some_iff.1 hx).1⟩
        rw [T.down_step hm e, down_root T, hi]
        rfl
    · obtain ⟨i, r, h1, h2⟩ := ih h0
      exact ⟨i, r ++ [2 * Lib.idxOf (kidsD l p) m + 1], by rw [T.down_step hm e, h1]; rfl, h2⟩
theorem Good.root_kind {l : List Nd} (G : Good l) : kindD l 0 = 1 := by
  obtain ⟨x, hx⟩ := get_some G.pos
  have := (G.root 0 x hx).2 rfl
  rw [show (0 : Int) = ((0 : Nat) : Int) from rfl, kindD_at hx, this]
theorem Good.root_room {l : List Nd} (G : Good l) : roomD l 0 = (kidsD l 0).length := by
  obtain ⟨x, hx⟩ := get_some G.pos
  have := (G.root 0 x hx).2 rfl
  rw [show (0 : Int) = ((0 : Nat) : Int) from rfl, room_at hx, kidsD_at hx, if_neg (by omega)]
/-- The whole document is a range. -/
theorem Good.full {l : List Nd} (G : Good l) : spanS l ⟨0, 0⟩ ⟨0, ((kidsD l 0).length : Nat)⟩ = 0 := by
  have T := tree_of (check_of G)
  have hr := G.root_room
  refine spanS_zero.2 ⟨check_of G, ptE_of T (Tr.root G.pos) (Int.le_refl _) (by omega), ptE_of T (Tr.root G.pos) (by omega) (by rw [show ((0 : Nat) : Int) = 0 from rfl, hr]; omega), ?_⟩
  unfold orderR
  rw [if_pos rfl]
  exact cmpI_le (by simp)
theorem Good.full_text {l : List Nd} (G : Good l) : joinB (partK l ⟨0, 0⟩ ⟨0, ((kidsD l 0).length : Nat)⟩) (preR l 0) = joinB (wholeK l) (preR l 0) := by
  have T := tree_of (check_of G)
  have hr := G.root_room
  apply join_ext
  rw [List.flatMap_def, List.flatMap_def]
  congr 1
  refine List.map_congr_left fun x hx => ?_
  obtain ⟨n, rfl, tn⟩ := T.order_trs x hx
  unfold partK wholeK
  by_cases hk : kindD l n = 3
  · rw [if_pos hk, if_pos hk]
    have hn := txt_of G tn hk
    have hn0 : n ≠ 0 := fun e => by rw [e, show ((0 : Nat) : Int) = 0 from rfl, G.root_kind] at hk; exact absurd hk (by decide)
    have h0 : PtT l ⟨0, 0⟩ 0 := ⟨rfl, Tr.root G.pos, Int.le_refl _, by show (0 : Int) ≤ _; omega⟩
    have h1 : PtT l ⟨0, ((kidsD l 0).length : Nat)⟩ 0 := ⟨rfl, Tr.root G.pos, by simp only; omega, by rw [show ((0 : Nat) : Int) = 0 from rfl, hr]; exact Int.le_refl _⟩
    rw [part_cut T hn h0 h1]
    obtain ⟨i, r, hd, hi⟩ := T.down_first tn hn0
    have c0 : cutC l n ⟨0, 0⟩ = 0 := by
      unfold cutC
      rw [if_neg (by simp only; omega), if_pos]
      rw [ord0, h0.way, down_root T, hd, cmpL_flip]
      exact (by
        show cmpL [2 * (0 : Int)] ((2 * (i : Int) + 1) :: (r ++ [0])) < 0
        rw [cmpL, if_pos (by intro e; have := cmpI_zero e; omega)]
        exact cmpI_neg.2 (by omega))
    have c1 : cutC l n ⟨0, ((kidsD l 0).length : Nat)⟩ = (textD l n).size := by
      unfold cutC
      rw [if_neg (by simp only; omega), if_neg]
      rw [ord0, h1.way, down_root T, hd]
      show ¬ 0 < cmpL ((2 * (i : Int) + 1) :: (r ++ [0])) [2 * ((kidsD l 0).length : Int)]
      rw [cmpL, if_pos (by intro e; have := cmpI_zero e; omega)]
      have := cmpI_neg.2 (show 2 * (i : Int) + 1 < 2 * ((kidsD l 0).length : Int) by omega)
      omega
    rw [c0, c1, List.drop_zero]
    exact List.take_of_length_le (Nat.le_of_eq (len_size _))
  · rw [if_neg hk, if_neg hk]
/-- What SpanParts says. -/
theorem span_parts_law {l : List Nd} {a p b : Pt} (h1 : spanS l a p = 0) (h2 : spanS l p b = 0) : l ≠ [] ∧ checkD l = 0 ∧ spanS l a b = 0 ∧ (textS l a b).1 = (textS l a p).1 ++ (textS l p b).1 := by
  obtain ⟨hc, pa, pp, o1⟩ := spanS_zero.1 h1
  obtain ⟨_, _, pb, o2⟩ := spanS_zero.1 h2
  have G := good_of hc
  have T := tree_of hc
  have h3 : spanS l a b = 0 := spanS_zero.2 ⟨hc, pa, pb, by rw [orderR_path] at *; exact cmpL_le_trans o1 o2⟩
  refine ⟨fun e => by have := G.pos; rw [e] at this; simp at this, hc, h3, ?_⟩
  unfold textS
  rw [if_neg (by simpa using h3), if_neg (by simpa using h1), if_neg (by simpa using h2)]
  obtain ⟨ma, ha⟩ := ptT_of T pa
  obtain ⟨mp, hp⟩ := ptT_of T pp
  obtain ⟨mb, hb⟩ := ptT_of T pb
  apply ByteArray.ext
  apply Array.ext'
  rw [ByteArray.data_append, Array.toList_append, join_list, join_list, join_list]
  exact (parts_join G ha hp hb o1 o2 _ T.order_trs T.order_sorted).symm
end Go.Proofs.YtpbngckplbnahaaGreatDoor
