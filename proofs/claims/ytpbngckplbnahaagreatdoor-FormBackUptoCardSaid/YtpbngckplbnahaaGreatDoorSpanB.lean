/-
cmp.Compare and slices.Compare over ints.
-/
import Derived.Test.YtpbngckplbnahaaGreatDoorTreeB
import Derived.Test.YtpbngckplbnahaaGreatDoorEdBase
import Derived.Test.YtpbngckplbnahaaGreatDoorRegionG
import Derived.Deep.DeepCutAuto
namespace Go.Proofs.YtpbngckplbnahaaGreatDoor
open Go.RowKit Go.Cl
attribute [local go_sem ↓] Go.wp_at_zero Go.wp_at_succ

def cmpI (a b : Int) : Int := if a < b then -1 else if b < a then 1 else 0
def cmpL : List Int → List Int → Int
  | [], [] => 0
  | [], _ :: _ => -1
  | _ :: _, [] => 1
  | a :: r, b :: s => if cmpI a b ≠ 0 then cmpI a b else cmpL r s
theorem cmpL_over {xs ys : List Int} {i : Nat} {x : Int} (hx : xs[i]? = some x) (hi : ys.length ≤ i) : cmpL (xs.drop i) (ys.drop i) = 1 := by
  rw [List.drop_eq_getElem_cons (List.getElem?_eq_some_iff.1 hx).1, List.drop_of_length_le hi]
  rfl
theorem cmpL_step {xs ys : List Int} {i : Nat} {x y : Int} (hx : xs[i]? = some x) (hy : ys[i]? = some y) : cmpL (xs.drop i) (ys.drop i) = if cmpI x y ≠ 0 then cmpI x y else cmpL (xs.drop (i + 1)) (ys.drop (i + 1)) := by
  rw [List.drop_eq_getElem_cons (List.getElem?_eq_some_iff.1 hx).1, List.drop_eq_getElem_cons (List.getElem?_eq_some_iff.1 hy).1, (List.getElem?_eq_some_iff.1 hx).2, (List.getElem?_eq_some_iff.1 hy).2, cmpL]
theorem cmpL_end {xs ys : List Int} {i : Nat} (hx : xs.length ≤ i) : cmpL (xs.drop i) (ys.drop i) = if i < ys.length then -1 else 0 := by
  rw [List.drop_of_length_le hx]
  by_cases h : i < ys.length
  · rw [if_pos h, List.drop_eq_getElem_cons h]
    rfl
  · rw [if_neg h, List.drop_of_length_le (by omega)]
    rfl
end Go.Proofs.YtpbngckplbnahaaGreatDoor

/-
Points of a document: their room, their paths; the walks of span's ranger: room, path.
-/
namespace Go.Proofs.YtpbngckplbnahaaGreatDoor
open Go.RowKit Go.Cl
attribute [local go_sem ↓] Go.wp_at_zero Go.wp_at_succ

/-- A point. -/
structure Pt where
  node : Int
  at_ : Int
/-- Behind how much a point may be. -/
def roomD (l : List Nd) (n : Int) : Nat := match l[n.toNat]? with
  | none => 0
  | some x => if x.kind = 3 ∨ x.kind = 4 then x.text.size else x.kids.length
/-- From a node up, kid by kid. -/
def stepsF (l : List Nd) : Nat → Int → List Int
  | 0, _ => []
  | f + 1, z => if z ≤ 0 then [] else (2 * Lib.idxOf (kidsD l (parD l z)) z + 1) :: stepsF l f (parD l z)
def stepsR (l : List Nd) (z : Int) : List Int := stepsF l (depZ l z) z
def pathP (l : List Nd) (p : Pt) : List Int := (2 * p.at_ :: stepsR l p.node).reverse
theorem steps_root {l : List Nd} (T : Tree l) : stepsR l 0 = [] := by
  unfold stepsR
  have := T.dep_par T.pos
  have hr : parD l ((0 : Nat) : Int) = -1 := T.root
  rw [hr] at this
  have h0 : depZ l (-1) = 0 := rfl
  rw [h0] at this
  rw [show depZ l 0 = 1 from this.symm, stepsF, if_pos (by omega)]
theorem Tree.steps_up {l : List Nd} (T : Tree l) {m : Nat} (hm : m < l.length) (h0 : 0 < m) : stepsR l m = (2 * Lib.idxOf (kidsD l (parD l m)) m + 1) :: stepsR l (parD l m) := by
  unfold stepsR
  rw [← T.dep_par hm, stepsF, if_neg (by omega)]
theorem Tree.steps_len {l : List Nd} (T : Tree l) : ∀ (f m : Nat), m < l.length → upN l m < f → (stepsR l m).length ≤ upN l m + 1 := by
  intro f
  induction f with
  | zero => intro m _ h; omega
  | succ f ih =>
    intro m hm hf
    rcases Nat.eq_zero_or_pos m with h0 | h0
    · subst h0
      have := steps_root T
      rw [show ((0 : Nat) : Int) = 0 from rfl, this]
      simp
    · rw [T.steps_up hm h0]
      rcases T.par hm with e | ⟨p, e, hp, _⟩
      · rw [e]
        have : stepsR l (-1) = [] := rfl
        rw [this]
        simp
      · rw [e]
        have h1 := (T.up_par hm e).2
        have h2 := ih p hp (by omega)
        simp only [List.length_cons]
        omega
theorem Tree.path_few {l : List Nd} (T : Tree l) {m : Nat} (hm : m < l.length) (a : Int) : (pathP l ⟨m, a⟩).length ≤ 42 := by
  unfold pathP
  have := T.steps_len _ m hm (Nat.lt_succ_self _)
  have := (T.deep m hm).1
  rw [List.length_reverse, List.length_cons]
  simp only
  omega
theorem Tree.top_loose2 {l : List Nd} (T : Tree l) {m : Nat} (hm : m < l.length) (h : parD l m = -1) : topR l m = (m : Int) := by
  unfold topR
  rw [T.chain_step hm, h, chain_end]
  rfl

/-- What a point's path is, in memory. -/
def PaPost (w : World) (l : List Nd) (p : Pt) (e : Ending) (w' : World) : Prop :=
  Below w.heap.size w w' ∧ ((topR l p.node ≠ 0 ∧ e = .returned (.slice none 0 0)) ∨
    (topR l p.node = 0 ∧ ∃ g c', e = .returned (.slice (some ⟨g, 0, none⟩) (pathP l p).length c') ∧ OwnF (tInt .i64) w' w.heap.size 3 (.slice (some ⟨g, 0, none⟩) (pathP l p).length c') (pathP l p).length (pathP l p)))
end Go.Proofs.YtpbngckplbnahaaGreatDoor

/-
The walks of span's ranger: point, order.
-/
namespace Go.Proofs.YtpbngckplbnahaaGreatDoor
open Go.RowKit Go.Cl
attribute [local go_sem ↓] Go.wp_at_zero Go.wp_at_succ

/-- May a point be? -/
def ptE (l : List Nd) (p : Pt) : Int :=
  if p.node < 0 ∨ (l.length : Int) ≤ p.node ∨ p.at_ < 0 ∨ (roomD l p.node : Int) < p.at_ then 1 else if topR l p.node ≠ 0 then 5 else 0
theorem roomD_le {w : World} {D : Nat → Prop} {A : Option Addr} {n c : Nat} {l : List Nd} (h : Sl tNd w D A n c l) (m : Nat) : roomD l m ≤ 1152921504606846976 := by
  unfold roomD
  cases hx : l[(m : Int).toNat]? with
  | none => simp
  | some x =>
    obtain ⟨_, _, _, _, _, _, _, _, _, _, hnd, _⟩ := Sl.nd h hx
    simp only
    split
    · exact hnd.text
    · have h1 := hnd.kids.small
      have h2 := hnd.kids.hn
      omega
end Go.Proofs.YtpbngckplbnahaaGreatDoor

/-
The walk of span's ranger: order.
-/
namespace Go.Proofs.YtpbngckplbnahaaGreatDoor
open Go.RowKit Go.Cl
attribute [local go_sem ↓] Go.wp_at_zero Go.wp_at_succ

/-- The order of two points. -/
def orderR (l : List Nd) (a b : Pt) : Int := if a.node = b.node then cmpI a.at_ b.at_ else cmpL (pathP l a) (pathP l b)
/-- A point of the tree. -/
structure PtOk (l : List Nd) (m : Nat) (a : Int) : Prop where
  node : m < l.length
  low : 0 ≤ a
  high : a ≤ 1152921504606846976
  top : topR l m = 0
end Go.Proofs.YtpbngckplbnahaaGreatDoor

/-
The walks of package span: points, Less.
-/
namespace Go.Proofs.YtpbngckplbnahaaGreatDoor
open Go.RowKit Go.Cl
attribute [local go_sem ↓] Go.wp_at_zero Go.wp_at_succ

def tPt : Ty Pt := tMap (tPair (tInt .i64) (tInt .i64)) (fun p => (p.node, p.at_)) 16
theorem pt_get {w : World} {D : Nat → Prop} {A : Option Addr} {n c : Nat} {ps : List Pt} (h : Sl tPt w D A n c ps) {i : Nat} {p : Pt} (hp : ps[i]? = some p) :
    ∃ b o, A = some ⟨b, o, none⟩ ∧ D b ∧ w.cell? ⟨b, o + i * 2, none⟩ = some (.int .i64 p.node) ∧ w.cell? ⟨b, o + i * 2 + 1, none⟩ = some (.int .i64 p.at_) := by
  obtain ⟨b, o, cs, e, hD, hr, hc⟩ := h.get hp
  obtain ⟨_, _, rfl, ⟨rfl, _⟩, rfl, _⟩ := hr
  exact ⟨b, o, e, hD, hc 0 _ rfl, by rw [Nat.add_assoc]; exact hc 1 _ rfl⟩
/-- Which of some points is wrong. -/
def ptsF (l : List Nd) : List Pt → Int
  | [] => 0
  | p :: r => if ptE l p ≠ 0 then ptE l p else ptsF l r
def ptsS (l : List Nd) (ps : List Pt) : Int := if checkD l ≠ 0 then checkD l else ptsF l ps
theorem ptsF_bad {l : List Nd} {ps : List Pt} {i : Nat} {p : Pt} (hp : ps[i]? = some p) (h : ptE l p ≠ 0) : ptsF l (ps.drop i) = ptE l p := by
  rw [List.drop_eq_getElem_cons (List.getElem?_eq_some_iff.1 hp).1, (List.getElem?_eq_some_iff.1 hp).2, ptsF, if_pos h]
theorem ptsF_go {l : List Nd} {ps : List Pt} {i : Nat} {p : Pt} (hp : ps[i]? = some p) (h : ptE l p = 0) : ptsF l (ps.drop i) = ptsF l (ps.drop (i + 1)) := by
  rw [List.drop_eq_getElem_cons (List.getElem?_eq_some_iff.1 hp).1, (List.getElem?_eq_some_iff.1 hp).2, ptsF, if_neg (by simpa using h)]
section
variable {w : World} {B : Nat} {A : Option Addr} {k c : Nat} {q : Bool} {l : List Nd} {hg hr : Nat} {u u' : World}
end
end Go.Proofs.YtpbngckplbnahaaGreatDoor

/-
The walk of package span: Less.
-/
namespace Go.Proofs.YtpbngckplbnahaaGreatDoor
open Go.RowKit Go.Cl
attribute [local go_sem ↓] Go.wp_at_zero Go.wp_at_succ

/-- What Less says. -/
def lessS (l : List Nd) (a b : Pt) : Bool × Int := if ptsS l [a, b] ≠ 0 then (false, ptsS l [a, b]) else (decide (orderR l a b < 0), 0)
theorem pts_one {l : List Nd} {ps : List Pt} (h : ptsF l ps = 0) : ∀ p ∈ ps, ptE l p = 0 := by
  induction ps with
  | nil => intro p hp; cases hp
  | cons x r ih =>
    intro p hp
    rw [ptsF] at h
    by_cases he : ptE l x ≠ 0
    · rw [if_pos he] at h; exact absurd h he
    · rw [if_neg he] at h
      rcases List.mem_cons.1 hp with rfl | hp
      · simpa using he
      · exact ih h p hp
theorem pts_ok {l : List Nd} {ps : List Pt} (h : ptsS l ps = 0) : checkD l = 0 ∧ ∀ p ∈ ps, ptE l p = 0 := by
  unfold ptsS at h
  by_cases hc : checkD l = 0
  · rw [if_neg (by simpa using hc)] at h
    exact ⟨hc, pts_one h⟩
  · rw [if_pos hc] at h; exact absurd h hc
theorem pt_ok {l : List Nd} {p : Pt} (h : ptE l p = 0) : ∃ m : Nat, p.node = (m : Int) ∧ m < l.length ∧ 0 ≤ p.at_ ∧ p.at_ ≤ (roomD l m : Int) ∧ topR l m = 0 := by
  unfold ptE at h
  by_cases h1 : p.node < 0 ∨ (l.length : Int) ≤ p.node ∨ p.at_ < 0 ∨ (roomD l p.node : Int) < p.at_
  · rw [if_pos h1] at h; cases h
  · rw [if_neg h1] at h
    by_cases h2 : topR l p.node ≠ 0
    · rw [if_pos h2] at h; cases h
    · obtain ⟨m, hm⟩ : ∃ m : Nat, p.node = (m : Int) := ⟨p.node.toNat, by omega⟩
      rw [hm] at h1 h2
      exact ⟨m, hm, by omega, by omega, by omega, by simpa using h2⟩
theorem pt_ok2 {w : World} {D : Nat → Prop} {A : Option Addr} {n c : Nat} {l : List Nd} (hs : Sl tNd w D A n c l) {p : Pt} (h : ptE l p = 0) : ∃ m : Nat, p.node = (m : Int) ∧ PtOk l m p.at_ := by
  obtain ⟨m, h1, h2, h3, h4, h5⟩ := pt_ok h
  exact ⟨m, h1, h2, h3, by have := roomD_le hs m; omega, h5⟩
theorem two_row {w : World} {D : Nat → Prop} {a b : Pt} (h1 : (Lit.int .i64 a.node).wf = true) (h2 : (Lit.int .i64 a.at_).wf = true) (h3 : (Lit.int .i64 b.node).wf = true) (h4 : (Lit.int .i64 b.at_).wf = true) :
    Row tPt w D [a, b] [.int .i64 a.node, .int .i64 a.at_, .int .i64 b.node, .int .i64 b.at_] :=
  ⟨[.int .i64 a.node, .int .i64 a.at_], _, rfl, ⟨[_], [_], rfl, ⟨rfl, h1⟩, rfl, h2⟩, [.int .i64 b.node, .int .i64 b.at_], [], rfl, ⟨[_], [_], rfl, ⟨rfl, h3⟩, rfl, h4⟩, rfl⟩
end Go.Proofs.YtpbngckplbnahaaGreatDoor

/-
The order of points: a total one.
-/
namespace Go.Proofs.YtpbngckplbnahaaGreatDoor
open Go.RowKit Go.Cl

theorem cmpI_anti (a b : Int) : cmpI a b = - cmpI b a := by
  unfold cmpI
  by_cases h1 : a < b
  · rw [if_pos h1, if_neg (by omega), if_pos h1]
  · by_cases h2 : b < a
    · rw [if_neg h1, if_pos h2, if_pos h2]; rfl
    · rw [if_neg h1, if_neg h2, if_neg h2, if_neg h1]; rfl
theorem cmpI_zero {a b : Int} (h : cmpI a b = 0) : a = b := by
  unfold cmpI at h
  by_cases h1 : a < b
  · rw [if_pos h1] at h; cases h
  · by_cases h2 : b < a
    · rw [if_neg h1, if_pos h2] at h; cases h
    · omega
theorem cmpI_self (a : Int) : cmpI a a = 0 := by
  unfold cmpI
  rw [if_neg (by omega), if_neg (by omega)]
theorem cmpI_neg {a b : Int} : cmpI a b < 0 ↔ a < b := by
  unfold cmpI
  by_cases h1 : a < b
  · rw [if_pos h1]; exact ⟨fun _ => h1, fun _ => by decide⟩
  · rw [if_neg h1]
    by_cases h2 : b < a
    · rw [if_pos h2]; exact ⟨fun h => absurd h (by decide), fun h => absurd h h1⟩
    · rw [if_neg h2]; exact ⟨fun h => absurd h (by decide), fun h => absurd h h1⟩
theorem cmpL_anti : ∀ xs ys : List Int, cmpL xs ys = - cmpL ys xs
  | [], [] => rfl
  | [], _ :: _ => rfl
  | _ :: _, [] => rfl
  | a :: r, b :: s => by
    rw [cmpL, cmpL, cmpI_anti a b]
    by_cases h : cmpI b a = 0
    · rw [if_neg (by omega), if_neg (by omega)]
      exact cmpL_anti r s
    · rw [if_pos (by omega), if_pos (by omega)]
theorem cmpL_zero : ∀ {xs ys : List Int}, cmpL xs ys = 0 → xs = ys
  | [], [], _ => rfl
  | [], _ :: _, h => by cases h
  | _ :: _, [], h => by cases h
  | a :: r, b :: s, h => by
    rw [cmpL] at h
    by_cases h1 : cmpI a b = 0
    · rw [if_neg (by omega)] at h
      rw [cmpI_zero h1, cmpL_zero h]
    · rw [if_pos (by omega)] at h
      exact absurd h h1
theorem cmpL_self : ∀ xs : List Int, cmpL xs xs = 0
  | [] => rfl
  | a :: r => by rw [cmpL, cmpI_self, if_neg (by simp)]; exact cmpL_self r
theorem cmpL_trans : ∀ {xs ys zs : List Int}, cmpL xs ys < 0 → cmpL ys zs < 0 → cmpL xs zs < 0
  | [], [], _, h, _ => absurd (show (0 : Int) < 0 from h) (by decide)
  | [], _ :: _, [], _, h => absurd (show (1 : Int) < 0 from h) (by decide)
  | [], _ :: _, _ :: _, _, _ => show (-1 : Int) < 0 by decide
  | _ :: _, [], _, h, _ => absurd (show (1 : Int) < 0 from h) (by decide)
  | _ :: _, _ :: _, [], _, h => absurd (show (1 : Int) < 0 from h) (by decide)
  | a :: r, b :: s, c :: t, h, g => by
    rw [cmpL] at h g ⊢
    by_cases h1 : cmpI a b = 0
    · have e := cmpI_zero h1
      subst e
      rw [if_neg (by omega)] at h
      by_cases g1 : cmpI a c = 0
      · rw [if_neg (by omega)] at g
        rw [if_neg (by omega)]
        exact cmpL_trans h g
      · rw [if_pos g1] at g
        rw [if_pos g1]
        exact g
    · rw [if_pos h1] at h
      have hab := cmpI_neg.1 h
      by_cases g1 : cmpI b c = 0
      · have e := cmpI_zero g1
        subst e
        rw [if_pos h1]
        exact h
      · rw [if_pos g1] at g
        have hbc := cmpI_neg.1 g
        have hac : cmpI a c < 0 := cmpI_neg.2 (by omega)
        rw [if_pos (by omega)]
        exact hac
theorem cmpL_same (s : List Int) (x y : Int) : cmpL (s ++ [x]) (s ++ [y]) = cmpI x y := by
  induction s with
  | nil =>
    show (if cmpI x y ≠ 0 then cmpI x y else cmpL [] []) = cmpI x y
    by_cases h : cmpI x y = 0
    · rw [if_neg (by omega), h]; rfl
    · rw [if_pos h]
  | cons a r ih =>
    rw [List.cons_append, List.cons_append, cmpL, cmpI_self, if_neg (by simp)]
    exact ih
/-- The order of two points is that of their paths. -/
theorem orderR_path (l : List Nd) (a b : Pt) : orderR l a b = cmpL (pathP l a) (pathP l b) := by
  unfold orderR
  by_cases h : a.node = b.node
  · rw [if_pos h]
    unfold pathP
    rw [List.reverse_cons, List.reverse_cons, h, cmpL_same]
    unfold cmpI
    by_cases h1 : a.at_ < b.at_
    · rw [if_pos h1, if_pos (by omega)]
    · have h3 : ¬ (2 * a.at_ < 2 * b.at_) := by omega
      rw [if_neg h1, if_neg h3]
      by_cases h2 : b.at_ < a.at_
      · rw [if_pos h2, if_pos (by omega)]
      · have h4 : ¬ (2 * b.at_ < 2 * a.at_) := by omega
        rw [if_neg h2, if_neg h4]
  · rw [if_neg h]
theorem Tree.steps_inj {l : List Nd} (T : Tree l) (f : Nat) : ∀ m n : Nat, m < l.length → n < l.length → upN l m < f → topR l m = 0 → topR l n = 0 → stepsR l m = stepsR l n → m = n := by
  induction f with
  | zero => intro m n _ _ h; omega
  | succ f ih =>
    intro m n hm hn hf tm tn h
    have up : ∀ k : Nat, k < l.length → 0 < k → topR l k = 0 → ∃ p : Nat, parD l k = (p : Int) ∧ p < l.length ∧ (k : Int) ∈ kidsD l p := by
      intro k hk h0 tk
      rcases T.par hk with e | h
      · have := T.top_loose2 hk e
        omega
      · exact h
    rcases Nat.eq_zero_or_pos m with m0 | m0
    · rcases Nat.eq_zero_or_pos n with n0 | n0
      · omega
      · subst m0
        rw [show ((0 : Nat) : Int) = 0 from rfl, steps_root T, T.steps_up hn n0] at h
        cases h
    · rcases Nat.eq_zero_or_pos n with n0 | n0
      · subst n0
        rw [show ((0 : Nat) : Int) = 0 from rfl, steps_root T, T.steps_up hm m0] at h
        cases h
      · obtain ⟨p, ep, hp, kp⟩ := up m hm m0 tm
        obtain ⟨q, eq, hq, kq⟩ := up n hn n0 tn
        rw [T.steps_up hm m0, T.steps_up hn n0, ep, eq] at h
        have h1 := (List.cons.inj h).1
        have h2 := (List.cons.inj h).2
        have := (T.up_par hm ep).2
        have hpq := ih p q hp hq (by omega) ((T.top_par hm hp ep).symm.trans tm) ((T.top_par hn hq eq).symm.trans tn) h2
        subst hpq
        obtain ⟨i, ei, gi, _⟩ := idx_of_mem kp
        obtain ⟨j, ej, gj, _⟩ := idx_of_mem kq
        have hij : i = j := by omega
        subst hij
        rw [gi] at gj
        have := Option.some.inj gj
        omega
/-- Points that are not apart are one. -/
theorem order_zero {l : List Nd} (T : Tree l) {a b : Pt} (ha : ptE l a = 0) (hb : ptE l b = 0) (h : orderR l a b = 0) : a.node = b.node ∧ a.at_ = b.at_ := by
  rw [orderR_path] at h
  have h := List.reverse_inj.1 (cmpL_zero h)
  have h1 := (List.cons.inj h).1
  have h2 := (List.cons.inj h).2
  obtain ⟨m, em, hm, _, _, tm⟩ := pt_ok ha
  obtain ⟨n, en, hn, _, _, tn⟩ := pt_ok hb
  rw [em, en] at h2
  have := T.steps_inj _ m n hm hn (Nat.lt_succ_self _) tm tn h2
  exact ⟨by rw [em, en, this], by omega⟩
theorem order_self (l : List Nd) (a : Pt) : orderR l a a = 0 := by rw [orderR_path, cmpL_self]
theorem order_anti (l : List Nd) (a b : Pt) : orderR l a b = - orderR l b a := by rw [orderR_path, orderR_path, cmpL_anti]
theorem order_trans {l : List Nd} {a b c : Pt} (h : orderR l a b < 0) (g : orderR l b c < 0) : orderR l a c < 0 := by
  rw [orderR_path] at *
  exact cmpL_trans h g
/-- Of two points at most one is ahead; if none is, they are one. -/
theorem order_total {l : List Nd} (T : Tree l) {a b : Pt} (ha : ptE l a = 0) (hb : ptE l b = 0) :
    (decide (orderR l a b < 0) != decide (orderR l b a < 0)) = !(decide (a.node = b.node) && decide (a.at_ = b.at_)) ∧ (decide (orderR l a b < 0) && decide (orderR l b a < 0)) = false := by
  have hx := order_anti l a b
  by_cases h : orderR l a b = 0
  · obtain ⟨e1, e2⟩ := order_zero T ha hb h
    rw [show decide (orderR l a b < 0) = false from decide_eq_false (by omega), show decide (orderR l b a < 0) = false from decide_eq_false (by omega), decide_eq_true e1, decide_eq_true e2]
    exact ⟨rfl, rfl⟩
  · have hne : (decide (a.node = b.node) && decide (a.at_ = b.at_)) = false := by
      cases hc : (decide (a.node = b.node) && decide (a.at_ = b.at_)) with
      | false => rfl
      | true =>
        exfalso
        simp only [Bool.and_eq_true, decide_eq_true_eq] at hc
        have e : a = b := by
          cases a; cases b
          simp only at hc
          rw [hc.1, hc.2]
        rw [e] at h
        exact h (order_self l b)
    rw [hne]
    by_cases h1 : orderR l a b < 0
    · rw [decide_eq_true h1, show decide (orderR l b a < 0) = false from decide_eq_false (by omega)]
      exact ⟨rfl, rfl⟩
    · rw [decide_eq_false h1, show decide (orderR l b a < 0) = true from decide_eq_true (by omega)]
      exact ⟨rfl, rfl⟩
theorem ptsF_zero {l : List Nd} : ∀ {ps : List Pt}, (∀ p ∈ ps, ptE l p = 0) → ptsF l ps = 0
  | [], _ => rfl
  | x :: r, h => by
    rw [ptsF, if_neg (by rw [h x (by simp)]; simp)]
    exact ptsF_zero fun p hp => h p (by simp [hp])
theorem ptsS_two {l : List Nd} {a b : Pt} : ptsS l [a, b] = 0 ↔ checkD l = 0 ∧ ptE l a = 0 ∧ ptE l b = 0 := by
  constructor
  · intro h
    obtain ⟨hc, hp⟩ := pts_ok h
    exact ⟨hc, hp a (by simp), hp b (by simp)⟩
  · intro ⟨hc, h1, h2⟩
    unfold ptsS
    rw [if_neg (by rw [hc]; simp)]
    exact ptsF_zero fun p hp => by
      rcases List.mem_cons.1 hp with rfl | hp
      · exact h1
      · rcases List.mem_cons.1 hp with rfl | hp
        · exact h2
        · cases hp
theorem less_ok {l : List Nd} {a b : Pt} (h : ptsS l [a, b] = 0) : lessS l a b = (decide (orderR l a b < 0), 0) := if_neg (by rw [h]; simp)
theorem less_bad {l : List Nd} {a b : Pt} (h : ptsS l [a, b] ≠ 0) : lessS l a b = (false, ptsS l [a, b]) := if_pos h
/-- What SpanOrder says of a document, but for what spanBegun says. -/
theorem span_order_law (l : List Nd) (a b c : Pt) :
    (((lessS l a b).2 ≠ 0 ∨ (lessS l b a).2 ≠ 0) ∧ (lessS l a b).1 = false ∧ (lessS l b a).1 = false) ∨
    ((lessS l a b).2 = 0 ∧ (lessS l b a).2 = 0 ∧
      ((lessS l a b).1 != (lessS l b a).1) = !(decide (a.node = b.node) && decide (a.at_ = b.at_)) ∧ ((lessS l a b).1 && (lessS l b a).1) = false ∧
      ((lessS l b c).2 ≠ 0 ∨ ((lessS l b c).2 = 0 ∧ (lessS l a c).2 = 0 ∧ ((lessS l a b).1 = false ∨ (lessS l b c).1 = false ∨ (lessS l a c).1 = true)))) := by
  by_cases h : ptsS l [a, b] = 0
  · obtain ⟨hc, pa, pb⟩ := ptsS_two.1 h
    have h' : ptsS l [b, a] = 0 := ptsS_two.2 ⟨hc, pb, pa⟩
    have T := tree_of hc
    refine Or.inr ?_
    rw [less_ok h, less_ok h']
    refine ⟨rfl, rfl, (order_total T pa pb).1, (order_total T pa pb).2, ?_⟩
    by_cases g : ptsS l [b, c] = 0
    · obtain ⟨_, _, pc⟩ := ptsS_two.1 g
      have g' : ptsS l [a, c] = 0 := ptsS_two.2 ⟨hc, pa, pc⟩
      rw [less_ok g, less_ok g']
      refine Or.inr ⟨rfl, rfl, ?_⟩
      by_cases x : orderR l a b < 0
      · by_cases z : orderR l b c < 0
        · exact Or.inr (Or.inr (decide_eq_true (order_trans x z)))
        · exact Or.inr (Or.inl (decide_eq_false z))
      · exact Or.inl (decide_eq_false x)
    · rw [less_bad g]
      exact Or.inl g
  · have h' : ptsS l [b, a] ≠ 0 := fun e => by
      obtain ⟨hc, pb, pa⟩ := ptsS_two.1 e
      exact h (ptsS_two.2 ⟨hc, pa, pb⟩)
    rw [less_bad h, less_bad h']
    exact Or.inl ⟨Or.inl h, rfl, rfl⟩
end Go.Proofs.YtpbngckplbnahaaGreatDoor

/-
The walk of span's span.
-/
namespace Go.Proofs.YtpbngckplbnahaaGreatDoor
open Go.RowKit Go.Cl
attribute [local go_sem ↓] Go.wp_at_zero Go.wp_at_succ

/-- What span says of a range. -/
def spanS (l : List Nd) (a b : Pt) : Int := if ptsS l [a, b] ≠ 0 then ptsS l [a, b] else if 0 < orderR l a b then 9 else 0
end Go.Proofs.YtpbngckplbnahaaGreatDoor
