/-
The walks of package dom's editor: make.
-/
import Derived.Test.YtpbpcmmlloholaaDoorEdWalksA
import Derived.Test.YtpbpcmmlloholaaDoorRegionG
import Derived.Test.YtpbpcmmlloholaaDoorTreeB
import Derived.Deep.DeepCutAuto
namespace Go.Proofs.YtpbpcmmlloholaaDoor
open Go.RowKit Go.Cl
attribute [local go_sem ↓] Go.wp_at_zero Go.wp_at_succ

section
variable {w w1 : World} {E g c base : Nat} {l : List Nd} {q : Bool} {made : Int} {ps : List (Value × Value)}
theorem Parts.grown {x : Nd} {p : Value × Value} {v : Value} {n : Nat} {xs : List (List Value)} (hP : Parts w base x p) (hrow : OwnF tN6 w base 33 v n xs) (hg : w.grownBy w1 v.ownBlock) : Parts w1 base x p :=
  ⟨ownF_kept hP.attrs hg (own_ne (by decide) hP.attrs hrow), ownF_kept hP.kids hg (own_ne (by decide) hP.kids hrow), hP.ok⟩
/-- Rows of unlike blocks. -/
def Apart (p q : Value × Value) : Prop := (p.1.ownBlock = none ∨ p.1.ownBlock ≠ q.1.ownBlock) ∧ (p.2.ownBlock = none ∨ p.2.ownBlock ≠ q.2.ownBlock)
/-- A node more. -/
theorem Ed.app {A v' : Value} {y : Nd} {p : Value × Value} (h : Ed w base A l ps) (hP : Parts w base y p) (hap : ∀ (i : Nat) q, ps[i]? = some q → Apart q p ∧ Apart p q) (hl : l.length < 1000) (hg : w.grownBy w1 A.ownBlock) (hrow : OwnF tN6 w1 base 33 v' (l.length + 1) (List.zipWith ndRow l ps ++ [ndRow y p])) :
    Ed w1 base v' (l ++ [y]) (ps ++ [p]) := by
  have hlen := h.len
  have key : ∀ (i : Nat) q, (ps ++ [p])[i]? = some q → (i < l.length ∧ ps[i]? = some q) ∨ (i = l.length ∧ q = p) := fun i q hq => by
    by_cases hi : i < ps.length
    · rw [List.getElem?_append_left hi] at hq
      exact Or.inl ⟨by omega, hq⟩
    · have := (List.getElem?_eq_some_iff.1 hq).1
      rw [List.length_append, List.length_singleton] at this
      have e : i = ps.length := by omega
      subst e
      rw [app_last] at hq
      exact Or.inr ⟨by omega, (Option.some.inj hq).symm⟩
  refine ⟨by simp [hlen], by rw [List.length_append, List.length_singleton]; omega, ?_, fun i x q hx hq => ?_, fun i j a b ha hb hij => ?_⟩
  · rw [List.zipWith_append hlen.symm, List.length_append]
    exact hrow
  · rcases key i q hq with ⟨hi, hq⟩ | ⟨rfl, rfl⟩
    · rw [List.getElem?_append_left hi] at hx
      exact (h.parts i x q hx hq).grown h.row hg
    · rw [app_last] at hx
      obtain rfl := Option.some.inj hx
      exact hP.grown h.row hg
  · rcases key i a ha with ⟨hi, ha2⟩ | ⟨hi, ea⟩
    · rcases key j b hb with ⟨hj, hb2⟩ | ⟨hj, eb⟩
      · exact h.apart i j a b ha2 hb2 hij
      · rw [eb]
        exact (hap i a ha2).1
    · rcases key j b hb with ⟨hj, hb2⟩ | ⟨hj, eb⟩
      · rw [ea]
        exact (hap j b hb2).2
      · omega
/-- What lies elsewhere turns. -/
theorem Ed.other {A : Value} {k : Nat} {cs : Array Value} {e' : TypeId} {fr : Nat × Nat} (h : Ed w base A l ps) (hk : w.heap[k]? = some (.cells cs e' fr)) (h1 : 33 ≠ e') (h2 : 78 ≠ e') (h3 : 3 ≠ e') (hg : w.grownBy w1 (some k)) : Ed w1 base A l ps :=
  ⟨h.len, h.few, ownF_kept h.row hg (Or.inr (own_ne_block h1 h.row hk)), fun i x p hx hp =>
    have hP := h.parts i x p hx hp
    ⟨ownF_kept hP.attrs hg (Or.inr (own_ne_block h2 hP.attrs hk)), ownF_kept hP.kids hg (Or.inr (own_ne_block h3 hP.kids hk)), hP.ok⟩, h.apart⟩
theorem elemN6 : ElemOf Tryd.prog 22 33 tN6.size 96 := elemNd
end
theorem cell_far {w : World} {E i k j : Nat} {v : Value} (h : E ≠ k) (hv : w.cell? ⟨k, j, none⟩ = some v) (u : Value) : (w.setCell ⟨E, i, none⟩ u).cell? ⟨k, j, none⟩ = some v := (World.cell?_setCell_other _ _ _ _ (fun e => h (congrArg Addr.block e))).trans hv
theorem made_err {l : List Nd} {x : Nd} : makeErr l x = if x.kids ≠ [] then 3 else if x.kind = 1 then 7 else if nodeE x ≠ 0 then nodeE x else if l.length = 200 then 2 else 0 := rfl

end Go.Proofs.YtpbpcmmlloholaaDoor

/-
The walks of package dom's editor: below, deep.
-/
namespace Go.Proofs.YtpbpcmmlloholaaDoor
open Go.RowKit Go.Cl
attribute [local go_sem ↓] Go.wp_at_zero Go.wp_at_succ

theorem below_neg (l : List Nd) {z top : Int} (h : z < 0) : belowB l z top = (z == top) := by
  unfold belowB depZ
  rw [if_pos h]
  rfl
theorem below_self {l : List Nd} (z : Int) : belowB l z z = true := by
  unfold belowB
  cases depZ l z with
  | zero => unfold belowF; simp
  | succ f => unfold belowF; simp
theorem Tree.below_up {l : List Nd} (T : Tree l) {m : Nat} {top : Int} (hm : m < l.length) (h : (m : Int) ≠ top) : belowB l m top = belowB l (parD l m) top := by
  unfold belowB
  rw [← T.dep_par hm, belowF]
  have h1 : ((m : Int) == top) = false := by simpa using h
  have h2 : decide (0 ≤ (m : Int)) = true := by simp
  rw [h1, h2, Bool.false_or, Bool.true_and]
/-- What below is at. -/
def BRel (l : List Nd) (n top z : Int) : Prop := (z = -1 ∨ ∃ m : Nat, z = (m : Int) ∧ m < l.length) ∧ belowB l n top = belowB l z top
theorem foldl_max_le : ∀ (xs : List Nat) (a b : Nat), a ≤ b → (∀ x ∈ xs, x ≤ b) → xs.foldl max a ≤ b := by
  intro xs
  induction xs with
  | nil => intro a b h _; exact h
  | cons x xs ih =>
    intro a b h hx
    rw [List.foldl_cons]
    exact ih _ b (Nat.max_le.2 ⟨h, hx x (by simp)⟩) fun y hy => hx y (by simp [hy])
theorem deepF_le (l : List Nd) : ∀ (f : Nat) (z : Int), deepF l f z ≤ f := by
  intro f
  induction f with
  | zero => intro z; exact Nat.le_refl _
  | succ f ih =>
    intro z
    rw [deepF]
    refine foldl_max_le _ _ _ (Nat.zero_le _) fun x hx => ?_
    obtain ⟨k, _, rfl⟩ := List.mem_map.1 hx
    have := ih k
    omega
/-- The greatest one so far. -/
def mostF (F : Int → Nat) (ks : List Int) : Nat := (ks.map F).foldl max 0
theorem most_snoc (F : Int → Nat) (ks : List Int) {j : Nat} {k : Int} (h : ks[j]? = some k) : mostF F (ks.take (j + 1)) = max (mostF F (ks.take j)) (F k) := by
  unfold mostF
  rw [List.take_add_one, h, List.map_append, List.foldl_append]
  rfl
theorem most_le {F : Int → Nat} {b : Nat} (hF : ∀ k, F k ≤ b) (ks : List Int) : mostF F ks ≤ b :=
  foldl_max_le _ _ _ (Nat.zero_le _) fun x hx => by
    obtain ⟨k, _, rfl⟩ := List.mem_map.1 hx
    exact hF k
end Go.Proofs.YtpbpcmmlloholaaDoor

/-
The walks of package dom's editor: insert.
-/
namespace Go.Proofs.YtpbpcmmlloholaaDoor
open Go.RowKit Go.Cl
attribute [local go_sem ↓] Go.wp_at_zero Go.wp_at_succ

/-- A kind that may not be put there. -/
def insKind (x y : Nd) : Prop := parentB x.kind = false ∨ y.kind = 1 ∨ (x.kind = 1 ∧ y.kind = 3)
def insKB (x y : Nd) : Bool := parentB x.kind == false || y.kind == 1 || (x.kind == 1 && y.kind == 3)
theorem insKB_iff {x y : Nd} : insKB x y = true ↔ insKind x y := by
  unfold insKB insKind
  simp [or_assoc]
instance (x y : Nd) : Decidable (insKind x y) := inferInstanceAs (Decidable (_ ∨ _ ∨ _ ∧ _))
theorem insErr_both {l : List Nd} {m t : Nat} {x y : Nd} {before : Int} (hx : l[m]? = some x) (hy : l[t]? = some y) : insErr l m t before =
    if insKind x y then 7 else if 0 ≤ y.parent then 9 else if insAt x.kids before < 0 then 5 else if belowB l m t = true then 8 else if 40 < upN l m + 1 + deepR l t then 2 else 0 := by
  unfold insErr
  rw [nodeAt_nat, nodeAt_nat, hx, hy]
  rfl
theorem insAt_le (ks : List Int) (b : Int) : insAt ks b ≤ ks.length := by
  unfold insAt
  by_cases h : b = -1
  · rw [if_pos h]; omega
  · rw [if_neg h]
    by_cases hm : b ∈ ks
    · obtain ⟨i, hi, hx, _⟩ := idx_of_mem hm
      have := (List.getElem?_eq_some_iff.1 hx).1
      omega
    · have h2 : Lib.idxOf ks b = -1 := Lib.idxFrom_miss b ks 0 fun j hj e => hm (by rw [← e]; rw [List.getD_eq_getElem?_getD, List.getElem?_eq_getElem hj]; exact List.getElem_mem hj)
      omega
theorem Good.kids_few {l : List Nd} (h : Good l) {m : Nat} {x : Nd} (hx : l[m]? = some x) : x.kids.length ≤ 200 := by
  obtain ⟨hn, hk⟩ := h.kr.kids m x hx
  have h1 := few_nats l.length x.kids (fun i j z hij hi hj => by
    have hil := (List.getElem?_eq_some_iff.1 hi)
    have hjl := (List.getElem?_eq_some_iff.1 hj)
    exact List.pairwise_iff_getElem.1 hn i j hil.1 hjl.1 hij (by rw [hil.2, hjl.2])) (fun z hz => by
    obtain ⟨n, y, e, hy, _⟩ := hk z hz
    exact ⟨n, e, (List.getElem?_eq_some_iff.1 hy).1⟩)
  exact Nat.le_trans h1 h.small
end Go.Proofs.YtpbpcmmlloholaaDoor

/-
The walks of package dom's editor: does, edit.
-/
namespace Go.Proofs.YtpbpcmmlloholaaDoor
open Go.RowKit Go.Cl
attribute [local go_sem ↓] Go.wp_at_zero Go.wp_at_succ

/-- A method of an editor's. -/
def methV (E f : Nat) : Value := .func (Fn.func f) #[.pointer (some ⟨E, 0, none⟩)] #[]
theorem edErr_at {l : List Nd} {e : Edt} : edErr l e = if e.do_ = 1 then attrErr l e.at_ e.name e.value else if e.do_ = 2 then dropErr l e.at_ e.name else if e.do_ = 3 then textErr l e.at_ e.value
  else if e.do_ = 4 then makeErr l e.node else if e.do_ = 5 then insErr l e.at_ e.to_ e.before else if e.do_ = 6 then remErr l e.at_ else 1 := rfl
theorem EdtOk.below {w w' : World} {B B' : Nat} {e : Edt} {Aa : Option Addr} {na ca : Nat} {Ak : Option Addr} {nk ck : Nat} (h : EdtOk w (lt B) e Aa na ca Ak nk ck) (hb : Below B' w w') (hB : B ≤ B') : EdtOk w' (lt B) e Aa na ca Ak nk ck :=
  ⟨h.node.below hb hB, h.at_, h.to_, h.before, h.name, h.value⟩
theorem NdAt.up {w : World} {B B' : Nat} {x : Nd} {Aa : Option Addr} {na ca : Nat} {Ak : Option Addr} {nk ck : Nat} (h : NdAt w (lt B) x Aa na ca Ak nk ck) (hB : B ≤ B') : NdAt w (lt B') x Aa na ca Ak nk ck :=
  ⟨h.attrs.up hB, h.kids.up hB, h.kind, h.name, h.text, h.parent⟩
end Go.Proofs.YtpbpcmmlloholaaDoor
