/-
The walks of package dom's editor: node, element, text.
-/
import Derived.Test.YtpbpcmmlloholaaDoorEdBase
import Derived.Test.YtpbpcmmlloholaaDoorTreeB
import Derived.Deep.RegionHeld3
import Derived.Deep.QuietTactic
import Derived.BigQuiet
namespace Go.Proofs.YtpbpcmmlloholaaDoor
open Go.RowKit Go.Cl
attribute [local go_sem ↓] Go.wp_at_zero Go.wp_at_succ

section
variable {w w' : World} {E g c base : Nat} {l : List Nd} {q : Bool} {made : Int} {ps : List (Value × Value)}
/-- One node of it. -/
structure NdIn (w : World) (g base : Nat) (m : Nat) (x : Nd) (p : Value × Value) : Prop where
  c0 : w.cell? ⟨g, m * 6, none⟩ = some (.int .i64 x.kind)
  c1 : w.cell? ⟨g, m * 6 + 1, none⟩ = some (.string x.name)
  c2 : w.cell? ⟨g, m * 6 + 2, none⟩ = some p.1
  c3 : w.cell? ⟨g, m * 6 + 3, none⟩ = some (.string x.text)
  c4 : w.cell? ⟨g, m * 6 + 4, none⟩ = some (.int .i64 x.parent)
  c5 : w.cell? ⟨g, m * 6 + 5, none⟩ = some p.2
  free : ∀ k, w.frozen? ⟨g, k, none⟩ = false
  low : base ≤ g
  lt : g < w.heap.size
  parts : Parts w base x p
theorem NdIn.next {m : Nat} {x : Nd} {p : Value × Value} (h : NdIn w g base m x p) (hb : Below w.heap.size w w') : NdIn w' g base m x p :=
  have hk : ∀ j v, w.cell? ⟨g, j, none⟩ = some v → w'.cell? ⟨g, j, none⟩ = some v := fun j _ hv => (hb.cell (p := ⟨g, j, none⟩) h.lt).trans hv
  ⟨hk _ _ h.c0, hk _ _ h.c1, hk _ _ h.c2, hk _ _ h.c3, hk _ _ h.c4, hk _ _ h.c5, fun k => (hb.frozen (p := ⟨g, k, none⟩) h.lt).trans (h.free k), h.low, Nat.lt_of_lt_of_le h.lt hb.size, h.parts.below hb⟩
end
section
variable {w w1 : World} {E g c base : Nat} {l : List Nd} {q : Bool} {made : Int} {ps : List (Value × Value)}
end
/-- Where a node of a number lies. -/
def ptrN (g : Nat) (l : List Nd) (n : Int) : Value := match nodeAt l n with
  | none => .pointer none
  | some _ => .pointer (some ⟨g, n.toNat * 6, none⟩)
theorem ptr_none {g : Nat} {l : List Nd} {n : Int} (h : nodeAt l n = none) : ptrN g l n = .pointer none := by unfold ptrN; rw [h]
theorem ptr_some {g : Nat} {l : List Nd} {m : Nat} {x : Nd} (h : l[m]? = some x) : ptrN g l (m : Int) = .pointer (some ⟨g, m * 6, none⟩) := by
  unfold ptrN
  rw [nodeAt_nat, h, Int.toNat_natCast]
theorem nodeAt_none {l : List Nd} {n : Int} (h : n < 0 ∨ (l.length : Int) ≤ n) : nodeAt l n = none := by
  unfold nodeAt
  by_cases h1 : n < 0
  · rw [if_pos h1]
  · rw [if_neg h1]
    exact List.getElem?_eq_none (by omega)
theorem nodeAt_out {l : List Nd} {n : Int} (h : nodeAt l n = none) : n < 0 ∨ (l.length : Int) ≤ n := by
  unfold nodeAt at h
  by_cases h1 : n < 0
  · exact Or.inl h1
  · rw [if_neg h1] at h
    have := List.getElem?_eq_none_iff.1 h
    omega

/-- What element says. -/
def elemS (g : Nat) (l : List Nd) (n : Int) : Value × Int := match nodeAt l n with
  | none => (.pointer none, 5)
  | some x => if x.kind ≠ 2 then (.pointer none, 7) else (.pointer (some ⟨g, n.toNat * 6, none⟩), 0)
/-- The cells of an edit. -/
def edtCells (e : Edt) (Aa : Option Addr) (na ca : Nat) (Ak : Option Addr) (nk ck : Nat) : Array Value :=
  #[.int .i64 e.do_, .int .i64 e.at_, .int .i64 e.to_, .int .i64 e.before, .string e.name, .string e.value, .int .i64 e.node.kind, .string e.node.name, .slice Aa na ca, .string e.node.text, .int .i64 e.node.parent, .slice Ak nk ck]
/-- What is known of an edit. -/
structure EdtOk (w : World) (D : Nat → Prop) (e : Edt) (Aa : Option Addr) (na ca : Nat) (Ak : Option Addr) (nk ck : Nat) : Prop where
  node : NdAt w D e.node Aa na ca Ak nk ck
  at_ : (Lit.int .i64 e.at_).wf = true
  to_ : (Lit.int .i64 e.to_).wf = true
  before : (Lit.int .i64 e.before).wf = true
  name : e.name.size ≤ 1152921504606846976
  value : e.value.size ≤ 1152921504606846976
end Go.Proofs.YtpbpcmmlloholaaDoor

/-
The walks of package dom's editor: attr, drop.
-/
namespace Go.Proofs.YtpbpcmmlloholaaDoor
open Go.RowKit Go.Cl
attribute [local go_sem ↓] Go.wp_at_zero Go.wp_at_succ

section
variable {w w' : World} {E g c base : Nat} {l : List Nd} {q : Bool} {made : Int} {ps : List (Value × Value)} {k : Nat} {cells : Array Value} {B : Nat}
end
theorem elem_cases {g : Nat} {l : List Nd} {n : Int} : (nodeAt l n = none ∧ elemS g l n = (.pointer none, 5)) ∨ ∃ (m : Nat) (x : Nd), n = (m : Int) ∧ l[m]? = some x ∧ ((x.kind ≠ 2 ∧ elemS g l n = (.pointer none, 7)) ∨ (x.kind = 2 ∧ elemS g l n = (.pointer (some ⟨g, m * 6, none⟩), 0))) := by
  unfold elemS
  cases hx : nodeAt l n with
  | none => exact Or.inl ⟨rfl, rfl⟩
  | some x =>
    obtain ⟨m, rfl, hm⟩ := nodeAt_some hx
    refine Or.inr ⟨m, x, rfl, hm, ?_⟩
    by_cases h : x.kind = 2
    · exact Or.inr ⟨h, by simp only; rw [if_neg (by omega), Int.toNat_natCast]⟩
    · exact Or.inl ⟨h, by simp only; rw [if_pos h]⟩

end Go.Proofs.YtpbpcmmlloholaaDoor

/-
The walks of package dom's editor: attr.
-/
namespace Go.Proofs.YtpbpcmmlloholaaDoor
open Go.RowKit Go.Cl
attribute [local go_sem ↓] Go.wp_at_zero Go.wp_at_succ

theorem set_last {α : Type} (l : List α) (a b : α) : (l ++ [a]).set l.length b = l ++ [b] := by
  rw [List.set_append, if_neg (by omega), Nat.sub_self]
  rfl
theorem app_last {α : Type} (l : List α) (a : α) : (l ++ [a])[l.length]? = some a := by
  rw [List.getElem?_append_right (Nat.le_refl _), Nat.sub_self]
  rfl

theorem elemDA2 : ElemOf Tryd.prog 30 78 tDA.size 32 := elemDA
/-- What is of another type than a row stays, whatever the row becomes. -/
theorem keep_block {α : Type} {T : Ty α} {w w' : World} {base : Nat} {e e' : TypeId} {v : Value} {n k : Nat} {xs : List α} {cs : Array Value} {fr : Nat × Nat} (h : OwnF T w base e v n xs) (hg : w.grownBy w' v.ownBlock) (he : e ≠ e') (hk : w.heap[k]? = some (.cells cs e' fr)) : w'.heap[k]? = some (.cells cs e' fr) :=
  (hg.block k (Array.getElem?_eq_some_iff.1 hk).1 (fun e2 => own_ne_block he h hk e2.symm)).trans hk

theorem cell_same {w w' : World} {g i : Nat} {v : Value} (h : w'.heap[g]? = w.heap[g]?) (hv : w.cell? ⟨g, i, none⟩ = some v) : w'.cell? ⟨g, i, none⟩ = some v :=
  (World.cell?_of_block (a := ⟨g, i, none⟩) h).trans hv

end Go.Proofs.YtpbpcmmlloholaaDoor

/-
The walks of package dom's editor: remove.
-/
namespace Go.Proofs.YtpbpcmmlloholaaDoor
open Go.RowKit Go.Cl
attribute [local go_sem ↓] Go.wp_at_zero Go.wp_at_succ

/-- A call that leaves all as it is, behind draws. -/
theorem quiet_l {P : Program} {f : FuncId} {args : Array Value} {w : World} {n : Nat} {v : Value} (h : Calls P f args (w.drewN n) fun e w' => e = .returned v ∧ w.drewN n = w') : Calls P f args (w.drewN n) fun e w'' => e = .returned v ∧ ∃ m, w'' = w.drewN m :=
  h.mono fun _ _ ⟨he, hm⟩ => ⟨he, n, hm.symm⟩
theorem sl_drewN {α : Type} {T : Ty α} {w : World} {D : Nat → Prop} {A : Option Addr} {n c : Nat} {xs : List α} (h : Sl T w D A n c xs) (k : Nat) : Sl T (w.drewN k) D A n c xs := h.keep fun _ _ => rfl

end Go.Proofs.YtpbpcmmlloholaaDoor
