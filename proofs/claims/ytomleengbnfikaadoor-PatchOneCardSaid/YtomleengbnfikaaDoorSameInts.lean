/-
The walk of the laws' helper sameInts.
-/
import Derived.Test.YtomleengbnfikaaDoorEdWalksA
namespace Go.Proofs.YtomleengbnfikaaDoor
open Go.RowKit Go.Cl
attribute [local go_sem ↓] Go.wp_at_zero Go.wp_at_succ

/-- Are two lists one? -/
def sameB (xs ys : List Int) : Bool := decide (xs = ys)
theorem same_true {xs ys : List Int} (h : xs = ys) : sameB xs ys = true := decide_eq_true h
theorem same_false {xs ys : List Int} (h : xs ≠ ys) : sameB xs ys = false := decide_eq_false h
theorem take_eq_step {xs ys : List Int} {j : Nat} {x : Int} (h : xs.take j = ys.take j) (hx : xs[j]? = some x) (hy : ys[j]? = some x) : xs.take (j + 1) = ys.take (j + 1) := by
  rw [List.take_add_one, List.take_add_one, h, hx, hy]
end Go.Proofs.YtomleengbnfikaaDoor
