/-
A document in its box, in a later world.
-/
import Derived.Test.YtpbngckplbnahaaGreatDoorDomB
namespace Go.Proofs.YtpbngckplbnahaaGreatDoor
open Go.RowKit Go.Cl
/-- A document in its box, in a later world. -/
structure DB (w : World) (B : Nat) (A : Option Addr) (k c : Nat) (q : Bool) (l : List Nd) (u : World) : Prop where
  below : Below w.heap.size w u
  box : u.heap[w.heap.size]? = some (.cells #[.slice A k c, .bool q] 29 (0, 0))
  doc : Sl tNd u (lt B) A k c l
  le : B ≤ u.heap.size
section
variable {w : World} {B : Nat} {A : Option Addr} {k c : Nat} {q : Bool} {l : List Nd} {u u' : World}
theorem DB.next (h : DB w B A k c q l u) (hb : Below u.heap.size u u') : DB w B A k c q l u' :=
  ⟨h.below.trans (hb.mono h.below.size), (hb.block _ (Array.getElem?_eq_some_iff.1 h.box).1).trans h.box, h.doc.below hb h.le, Nat.le_trans h.le hb.size⟩
theorem DB.c0 (h : DB w B A k c q l u) : u.cell? ⟨w.heap.size, 0, none⟩ = some (.slice A k c) := cell_blk h.box rfl
theorem DB.c1 (h : DB w B A k c q l u) : u.cell? ⟨w.heap.size, 1, none⟩ = some (.bool q) := cell_blk h.box rfl
end
end Go.Proofs.YtpbngckplbnahaaGreatDoor
