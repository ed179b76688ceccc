/-
What a range's cut leaves: the plain law. No program in sight.
-/
import Derived.Test.YtcnogokemilhnaaDoorSpanPartsLaw
namespace Go.Proofs.YtcnogokemilhnaaDoor
open Go.RowKit Go.Cl
set_option linter.unusedVariables false

/-! ### the edits of a cut -/
/-- What is left of a text. -/
def leftB (t : ByteArray) (k : Int) (a b : Pt) : ByteArray := t.extract 0 (if a.node = k then a.at_.toNat else 0) ++ t.extract (if b.node = k then b.at_.toNat else t.size) t.size
/-- Lies one of the two points in a node, or below it? -/
def touB (l : List Nd) (a b : Pt) (k : Int) : Bool := belowB l a.node k || belowB l b.node k
def txtK (l : List Nd) (k : Int) : Bool := decide (kindD l k = 3) || decide (kindD l k = 4)
def inR (l : List Nd) (a b : Pt) (n : Int) (i : Nat) : Bool := decide (orderR l a ⟨n, i⟩ ≤ 0) && decide (orderR l ⟨n, (i : Int) + 1⟩ b ≤ 0)
def zNd : Nd := ⟨0, ⟨#[]⟩, [], ⟨#[]⟩, 0, []⟩
def eText (k : Int) (t : ByteArray) : Edt := ⟨3, k, 0, 0, ⟨#[]⟩, t, zNd⟩
def eRem (k : Int) : Edt := ⟨6, k, 0, 0, ⟨#[]⟩, ⟨#[]⟩, zNd⟩
/-- The edits of one kid. -/
def cutK (l : List Nd) (a b : Pt) (rec : Int → List Edt) (n : Int) (i : Nat) (k : Int) : List Edt :=
  if touB l a b k = true ∧ txtK l k = true then (if leftB (textD l k) k a b ≠ textD l k then [eText k (leftB (textD l k) k a b)] else [])
  else if touB l a b k = true then rec k
  else if inR l a b n i = true then [eRem k] else []
def cutL (f : Nat → Int → List Edt) : Nat → List Int → List Edt
  | _, [] => []
  | i, k :: r => f i k ++ cutL f (i + 1) r
def cutF (l : List Nd) (a b : Pt) : Nat → Int → List Edt
  | 0, _ => []
  | f + 1, n => cutL (fun i k => cutK l a b (cutF l a b f) n i k) 0 (kidsD l n)
theorem mem_cutL {f : Nat → Int → List Edt} {e : Edt} : ∀ {ks : List Int} {i : Nat}, e ∈ cutL f i ks ↔ ∃ j k, ks[j]? = some k ∧ e ∈ f (i + j) k
  | [], i => by simp [cutL]
  | k :: r, i => by
    rw [cutL, List.mem_append, mem_cutL (ks := r)]
    constructor
    · rintro (h | ⟨j, k', h1, h2⟩)
      · exact ⟨0, k, rfl, h⟩
      · exact ⟨j + 1, k', h1, by rw [show i + (j + 1) = i + 1 + j by omega]; exact h2⟩
    · rintro ⟨j, k', h1, h2⟩
      cases j with
      | zero =>
        obtain rfl := Option.some.inj h1
        exact Or.inl h2
      | succ j => exact Or.inr ⟨j, k', h1, by rw [show i + 1 + j = i + (j + 1) by omega]; exact h2⟩
theorem cutL_sub {f : Nat → Int → List Edt} {g : Int → List Int} : ∀ (ks : List Int) (i : Nat), (∀ j k, ks[j]? = some k → ((f (i + j) k).map Edt.at_).Sublist (g k)) → ((cutL f i ks).map Edt.at_).Sublist (ks.flatMap g)
  | [], _, _ => List.Sublist.slnil
  | k :: r, i, h => by
    rw [cutL, List.map_append, List.flatMap_cons]
    exact (h 0 k rfl).append (cutL_sub r (i + 1) fun j k' hj => by rw [show i + 1 + j = i + (j + 1) by omega]; exact h (j + 1) k' hj)

/-! ### below, by ways -/
theorem Tree.bel_way {l : List Nd} (T : Tree l) {m : Nat} (tm : Tr l m) : ∀ u, Tr l u → ∀ r, downP l u = downP l m ++ r → ∃ q, Bel l m u q := by
  intro u tu
  induction tu with
  | root h0 =>
    intro r hr
    rw [down_root T] at hr
    have h1 := (List.append_eq_nil_iff.1 hr.symm).1
    have : 0 = m := T.down_inj (Tr.root h0) tm (by rw [down_root T, h1])
    subst this
    exact ⟨0, Bel.self⟩
  | @step u p hu e tp ih =>
    intro r hr
    rcases List.eq_nil_or_concat r with h0 | ⟨r', v, h0⟩
    · subst h0
      have : u = m := T.down_inj (Tr.step hu e tp) tm (by rw [hr, List.append_nil])
      subst this
      exact ⟨0, Bel.self⟩
    · subst h0
      rw [T.down_step hu e] at hr
      have h1 := List.append_inj' (show downP l p ++ [2 * Lib.idxOf (kidsD l p) u + 1] = (downP l m ++ r') ++ [v] by rw [hr]; simp) rfl
      obtain ⟨q, hq⟩ := ih r' h1.1
      exact ⟨q + 1, Bel.step (by omega) (by rw [e]; exact hq)⟩
theorem Tree.way_bel {l : List Nd} (T : Tree l) {m : Nat} : ∀ u, Tr l u → ∀ q, Bel l m u q → ∃ r, downP l u = downP l m ++ r := by
  intro u tu
  induction tu with
  | root h0 =>
    intro q hb
    cases hb with
    | self => exact ⟨[], (List.append_nil _).symm⟩
    | step h1 _ =>
      have := T.root
      rw [show ((0 : Nat) : Int) = 0 from rfl] at h1
      omega
  | @step u p hu e tp ih =>
    intro q hb
    by_cases hum : u = m
    · subst hum
      exact ⟨[], (List.append_nil _).symm⟩
    · cases hb with
      | self => exact absurd rfl hum
      | @step _ q _ hb =>
        rw [e] at hb
        obtain ⟨r, hr⟩ := ih q hb
        exact ⟨r ++ [2 * Lib.idxOf (kidsD l p) u + 1], by rw [T.down_step hu e, hr]; simp⟩
theorem Good.below_way {l : List Nd} (G : Good l) {u m : Nat} (tu : Tr l u) (tm : Tr l m) : belowB l u m = true ↔ ∃ r, downP l u = downP l m ++ r := by
  have T := tree_of (check_of G)
  rw [G.below_iff tu.lt]
  exact ⟨fun ⟨q, h⟩ => T.way_bel u tu q h, fun ⟨r, h⟩ => T.bel_way tm u tu r h⟩

/-! ### one kid's texts, where it is not touched -/
/-- A text node below a kid: its way. -/
theorem Good.under {l : List Nd} (G : Good l) {p k : Nat} {i : Nat} (tp : Tr l p) (hk : (kidsD l p)[i]? = some (k : Int)) : Tr l k ∧ parD l k = (p : Int) ∧ downP l k = downP l p ++ [2 * (i : Int) + 1] ∧ k < l.length := by
  have T := tree_of (check_of G)
  obtain ⟨m, e, hm, hp⟩ := T.kid tp.lt (List.mem_of_getElem? hk)
  have : k = m := by omega
  subst this
  refine ⟨Tr.step hm hp tp, hp, ?_, hm⟩
  rw [T.down_step hm hp, idx_uniq (T.nodup tp.lt) hk]
/-- A point that is not in a kid, and not ahead of it: it is behind all of it. -/
theorem far_behind {l : List Nd} (G : Good l) {p k i : Nat} (tp : Tr l p) (hk : (kidsD l p)[i]? = some (k : Int)) {a : Pt} {ma : Nat} (ha : PtT l a ma) (ho : ¬ orderR l a ⟨p, i⟩ ≤ 0) (hb : belowB l a.node k = false) (u : List Int) : cmpL (downP l p ++ (2 * (i : Int) + 1) :: u) (pathP l a) < 0 := by
  obtain ⟨tk, hpk, hd, _⟩ := G.under tp hk
  have T := tree_of (check_of G)
  have h1 : cmpL (downP l p ++ [2 * (i : Int)]) (pathP l a) < 0 := by
    rw [orderR_path, path_down] at ho
    have := (cmpL_flip (pathP l a) (downP l p ++ [2 * (i : Int)])).1 (by omega)
    exact this
  by_cases hpre : ∃ r, pathP l a = downP l p ++ r
  · obtain ⟨r, hr⟩ := hpre
    rw [hr, cmpL_pre] at h1 ⊢
    cases r with
    | nil => exact absurd (show (1 : Int) < 0 from h1) (by decide)
    | cons x r =>
      have h2 := cmpL_head (show cmpL [2 * (i : Int)] (x :: r) ≤ 0 by omega)
      have hx1 : x ≠ 2 * (i : Int) := by
        rintro rfl
        rcases List.eq_nil_or_concat r with h0 | ⟨r', v, h0⟩
        · subst h0
          rw [cmpL_self] at h1
          exact absurd h1 (by decide)
        · subst h0
          rw [ha.way] at hr
          have h3 := List.append_inj' (show downP l ma ++ [2 * a.at_] = (downP l p ++ (2 * (i : Int)) :: r') ++ [v] by rw [hr]; simp) rfl
          have := down_odd l ma (2 * (i : Int)) (by rw [h3.1]; simp)
          omega
      have hx2 : x ≠ 2 * (i : Int) + 1 := by
        rintro rfl
        rw [ha.way] at hr
        rcases List.eq_nil_or_concat r with h0 | ⟨r', v, h0⟩
        · subst h0
          have h3 := List.append_inj' hr rfl
          have := (List.cons.inj h3.2).1
          omega
        · subst h0
          have h3 := List.append_inj' (show downP l ma ++ [2 * a.at_] = (downP l p ++ (2 * (i : Int) + 1) :: r') ++ [v] by rw [hr]; simp) rfl
          have h4 := (G.below_way ha.tr tk).2 ⟨r', by rw [h3.1, hd]; simp⟩
          rw [ha.node, h4] at hb
          cases hb
      rw [cmpL, if_pos (by intro e; have := cmpI_zero e; omega)]
      exact cmpI_neg.2 (by omega)
  · rw [cmpL_np (fun r e => hpre ⟨r, e⟩) _ [2 * (i : Int)]]
    exact h1
/-- A point that is not in a kid, and not behind it: it is ahead of all of it. -/
theorem far_ahead {l : List Nd} (G : Good l) {p k i : Nat} (tp : Tr l p) (hk : (kidsD l p)[i]? = some (k : Int)) {b : Pt} {mb : Nat} (hbp : PtT l b mb) (ho : ¬ orderR l ⟨p, (i : Int) + 1⟩ b ≤ 0) (hb : belowB l b.node k = false) (u : List Int) : cmpL (pathP l b) (downP l p ++ (2 * (i : Int) + 1) :: u) < 0 := by
  obtain ⟨tk, hpk, hd, _⟩ := G.under tp hk
  have T := tree_of (check_of G)
  have h1 : cmpL (pathP l b) (downP l p ++ [2 * ((i : Int) + 1)]) < 0 := by
    rw [orderR_path, path_down] at ho
    exact (cmpL_flip (downP l p ++ [2 * ((i : Int) + 1)]) (pathP l b)).1 (by omega)
  by_cases hpre : ∃ r, pathP l b = downP l p ++ r
  · obtain ⟨r, hr⟩ := hpre
    rw [hr, cmpL_pre] at h1 ⊢
    cases r with
    | nil => show (-1 : Int) < 0; decide
    | cons x r =>
      have h2 := cmpL_head (show cmpL (x :: r) [2 * ((i : Int) + 1)] ≤ 0 by omega)
      have hx1 : x ≠ 2 * ((i : Int) + 1) := by
        rintro rfl
        rcases List.eq_nil_or_concat r with h0 | ⟨r', v, h0⟩
        · subst h0
          rw [cmpL_self] at h1
          exact absurd h1 (by decide)
        · subst h0
          rw [hbp.way] at hr
          have h3 := List.append_inj' (show downP l mb ++ [2 * b.at_] = (downP l p ++ (2 * ((i : Int) + 1)) :: r') ++ [v] by rw [hr]; simp) rfl
          have := down_odd l mb (2 * ((i : Int) + 1)) (by rw [h3.1]; simp)
          omega
      have hx2 : x ≠ 2 * (i : Int) + 1 := by
        rintro rfl
        rw [hbp.way] at hr
        rcases List.eq_nil_or_concat r with h0 | ⟨r', v, h0⟩
        · subst h0
          have h3 := List.append_inj' hr rfl
          have := (List.cons.inj h3.2).1
          omega
        · subst h0
          have h3 := List.append_inj' (show downP l mb ++ [2 * b.at_] = (downP l p ++ (2 * (i : Int) + 1) :: r') ++ [v] by rw [hr]; simp) rfl
          have h4 := (G.below_way hbp.tr tk).2 ⟨r', by rw [h3.1, hd]; simp⟩
          rw [hbp.node, h4] at hb
          cases hb
      rw [cmpL, if_pos (by intro e; have := cmpI_zero e; omega)]
      exact cmpI_neg.2 (by omega)
  · have h2 := cmpL_np (s := downP l p) (π := pathP l b) (fun r e => hpre ⟨r, e⟩) ((2 * (i : Int) + 1) :: u) [2 * ((i : Int) + 1)]
    have h3 := cmpL_anti (pathP l b) (downP l p ++ (2 * (i : Int) + 1) :: u)
    have h4 := cmpL_anti (pathP l b) (downP l p ++ [2 * ((i : Int) + 1)])
    omega

/-! ### what is left, in a list -/
def leftK (l : List Nd) (a b : Pt) (n : Nat) : List UInt8 := if kindD l n = 3 then (textD l n).data.toList.take (cutC l n a) ++ (textD l n).data.toList.drop (cutC l n b) else []
theorem left_list (t : ByteArray) (k : Int) (a b : Pt) : (leftB t k a b).data.toList = t.data.toList.take (if a.node = k then a.at_.toNat else 0) ++ t.data.toList.drop (if b.node = k then b.at_.toNat else t.size) := by
  have hx : ∀ (i j : Nat), (t.extract i j).data.toList = (t.data.toList.take j).drop i := fun i j => by
    rw [ByteArray.data_extract, Array.toList_extract]
    simp [List.drop_take]
  unfold leftB
  rw [ByteArray.data_append, Array.toList_append, hx, hx, List.drop_zero, List.take_of_length_le (i := t.size) (Nat.le_of_eq (len_size t))]
/-- Of a text that is touched. -/
theorem left_touched {l : List Nd} (G : Good l) {n : Nat} (hn : TxtN l n) {a b : Pt} {ma mb : Nat} (ha : PtT l a ma) (hb : PtT l b mb) (hab : orderR l a b ≤ 0) (ht : touB l a b n = true) : (leftB (textD l n) n a b).data.toList = leftK l a b n := by
  have T := tree_of (check_of G)
  have hbelow : ∀ {p : Pt} {m : Nat}, PtT l p m → belowB l p.node n = true → p.node = (n : Int) := fun {p m} hp h => by
    rw [hp.node] at h ⊢
    obtain ⟨r, hr⟩ := (G.below_way hp.tr hn.tr).1 h
    rw [T.leaf_pre hn.tr hn.leaf m hp.tr r hr]
  have hor : a.node = (n : Int) ∨ b.node = (n : Int) := by
    unfold touB at ht
    rw [Bool.or_eq_true] at ht
    rcases ht with h | h
    · exact Or.inl (hbelow ha h)
    · exact Or.inr (hbelow hb h)
  unfold leftK
  rw [if_pos hn.kind, left_list]
  have hm := cut_mono T hn ha hb hab
  by_cases g1 : a.node = (n : Int)
  · have c1 : cutC l n a = a.at_.toNat := by unfold cutC; rw [if_pos g1]
    rw [if_pos g1, c1]
    by_cases g2 : b.node = (n : Int)
    · have c2 : cutC l n b = b.at_.toNat := by unfold cutC; rw [if_pos g2]
      rw [if_pos g2, c2]
    · have c2 : cutC l n b = (textD l n).size := by
        unfold cutC
        rw [if_neg g2, if_neg]
        intro hh
        have hbn : mb ≠ n := fun e => g2 (by rw [hb.node, e])
        have h3 := hn.ord T hb hbn [2 * a.at_]
        rw [orderR_path, ha.way, show ma = n by have := ha.node; omega] at hab
        omega
      rw [if_neg g2, c2]
  · have g2 : b.node = (n : Int) := hor.resolve_left g1
    have c2 : cutC l n b = b.at_.toNat := by unfold cutC; rw [if_pos g2]
    have han : ma ≠ n := fun e => g1 (by rw [ha.node, e])
    have c1 : cutC l n a = 0 := by
      unfold cutC
      rw [if_neg g1, if_pos]
      have h3 := hn.ord T ha han [2 * b.at_]
      have h4 := hn.ord_ne T ha han
      rw [orderR_path, hb.way, show mb = n by have := hb.node; omega] at hab
      have h5 := cmpL_anti (pathP l a) (downP l n ++ [2 * b.at_])
      omega
    rw [if_neg g1, if_pos g2, c1, c2]
end Go.Proofs.YtcnogokemilhnaaDoor
