/-
Documents in boxes, at the walks of package record's laws.
-/
import Derived.Test.YtfeighclpaijoaaGreatDoorRecBegun
import Derived.Test.YtfeighclpaijoaaGreatDoorSameDoc
namespace Go.Proofs.YtfeighclpaijoaaGreatDoor
open Go.RowKit Go.Cl

/-- A document in a box. -/
structure Held (W : World) (X : Nat) (A : Option Addr) (n c : Nat) (q : Bool) (l : List Nd) : Prop where
  box : W.heap[X]? = some (.cells #[.slice A n c, .bool q] 24 (0, 0))
  doc : Sl tNd W (lt W.heap.size) A n c l
section
variable {W W' : World} {X : Nat} {A : Option Addr} {n c : Nat} {q : Bool} {l : List Nd}
theorem Held.lt (h : Held W X A n c q l) : X < W.heap.size := (Array.getElem?_eq_some_iff.1 h.box).1
theorem Held.next (h : Held W X A n c q l) (hb : Below W.heap.size W W') : Held W' X A n c q l := ⟨(hb.block X h.lt).trans h.box, (h.doc.below hb (Nat.le_refl _)).up hb.size⟩
theorem Held.new (h : Sl tNd W (Go.Cl.lt W.heap.size) A n c l) (q : Bool) : Held (W.alloc (.cells #[.slice A n c, .bool q] 24)) W.heap.size A n c q l :=
  ⟨heap_alloc_new W _, (h.al (Nat.le_refl _) _).up (by simp)⟩
theorem Held.c0 (h : Held W X A n c q l) : W.cell? ⟨X, 0, none⟩ = some (.slice A n c) := cell_blk h.box rfl
theorem Held.c1 (h : Held W X A n c q l) : W.cell? ⟨X, 1, none⟩ = some (.bool q) := cell_blk h.box rfl
theorem Held.al (h : Held W X A n c q l) (o : Obj) : Held (W.alloc o) X A n c q l := h.next ((Below.refl _ _).alloc (Nat.le_refl _) _)
theorem Held.drew (h : Held W X A n c q l) : Held W.drew X A n c q l := h.next (Below.refl _ W).drew
end
theorem sl_next {α : Type} {T : Ty α} {W W' : World} {A : Option Addr} {n c : Nat} {xs : List α} (h : Sl T W (lt W.heap.size) A n c xs) (hb : Below W.heap.size W W') : Sl T W' (lt W'.heap.size) A n c xs := (h.below hb (Nat.le_refl _)).up hb.size
/-- What Do says, in one word. -/
theorem do_word {w w' : World} {l : List Nd} {q : Bool} {es : List Edt} {e' : Ending} (h : DoPost w l q es e' w') :
    Below w.heap.size w w' ∧ ((∃ er i, er ≠ 0 ∧ (alR l es).2.2 = er ∧ e' = .returned (.tuple #[.agg #[.slice none 0 0, .bool false], .slice none 0 0, .int .i64 i, .int .i64 er])) ∨
      ∃ d A' c' A5 c5, alR l es = (d, 0, 0) ∧ checkD l = 0 ∧ es.length ≤ 40 ∧ runE l es = some d ∧ e' = .returned (.tuple #[.agg #[.slice A' d.length c', .bool q], .slice A5 es.length c5, .int .i64 0, .int .i64 0]) ∧ Sl tNd w' (lt w'.heap.size) A' d.length c' d ∧ Sl tStp w' (lt w'.heap.size) A5 es.length c5 (stepsD l es)) := by
  obtain ⟨hb, h | ⟨h1, A', c', A5, c5, h2, h3, h4⟩⟩ := h
  · exact ⟨hb, Or.inl ⟨_, _, h.1, rfl, h.2⟩⟩
  · obtain ⟨hc, h40, hr⟩ := al_run h1
    exact ⟨hb, Or.inr ⟨_, A', c', A5, c5, al_of_run hc h40 hr, hc, h40, hr, h2, Sl.ltr h3, Sl.ltr h4⟩⟩
end Go.Proofs.YtfeighclpaijoaaGreatDoor
