/-
The walk of the laws' helper sameDoc, on a document twice.
-/
import Derived.Test.YtomleengbnfikaaDoorSameInts
import Derived.Test.YtomleengbnfikaaDoorRegionG
import Derived.Test.YtomleengbnfikaaDoorDocBox
import Derived.Deep.DeepCutAuto
namespace Go.Proofs.YtomleengbnfikaaDoor
open Go.RowKit Go.Cl
attribute [local go_sem ↓] Go.wp_at_zero Go.wp_at_succ

/-- Two nodes in boxes of their own. -/
def TwoAt (wr : World) (n1 n2 : List Value) (v u : Value) (wx : World) : Prop :=
  ∃ O1 O2, v = .pointer (some ⟨O1, 0, none⟩) ∧ u = .pointer (some ⟨O2, 0, none⟩) ∧ Below wr.heap.size wr wx ∧ wx.heap[O1]? = some (.cells n1.toArray 28 (0, 0)) ∧ wx.heap[O2]? = some (.cells n2.toArray 28 (0, 0))
theorem two_new (wr : World) (a b : Array Value) (e : TypeId) : Below wr.heap.size wr ((wr.alloc (.cells a e)).alloc (.cells b e)).drew ∧ ((wr.alloc (.cells a e)).alloc (.cells b e)).drew.heap[wr.heap.size]? = some (.cells a e (0, 0)) ∧ ((wr.alloc (.cells a e)).alloc (.cells b e)).drew.heap[wr.heap.size + 1]? = some (.cells b e (0, 0)) := by
  refine ⟨(((Below.refl _ wr).alloc (Nat.le_refl _) _).alloc (by simp) _).drew, ?_, ?_⟩
  · exact (Lib.alloc_old _ _ _ (by simp)).trans (heap_alloc_new wr _)
  · have h := heap_alloc_new (wr.alloc (.cells a e)) (.cells b e)
    rw [World.size_alloc] at h
    exact h
end Go.Proofs.YtomleengbnfikaaDoor
