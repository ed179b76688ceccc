/-
The walk of SpanParts and the reading of its arguments.
-/
import Derived.Test.YtcnogokemilhnaaDoorSpanParts
import Derived.Test.YtcnogokemilhnaaDoorSpanStaysDoc
namespace Go.Proofs.YtcnogokemilhnaaDoor
open Go.RowKit Go.Cl

theorem lifts_pt : Lifts Tryd.prog 57 tPt := lifts_pt2
theorem pt_arg {w : World} {D : Nat → Prop} {x : Pt} {a : Array Value} (h : tPt.rep w D x (Value.agg a).cells.toList) : a = #[.int .i64 x.node, .int .i64 x.at_] ∧ (Lit.int .i64 x.node).wf = true ∧ (Lit.int .i64 x.at_).wf = true := by
  obtain ⟨c1, c2, e, ⟨rfl, h1⟩, rfl, h2⟩ := h
  refine ⟨?_, h1, h2⟩
  have e' : a.toList = [.int .i64 x.node, .int .i64 x.at_] := e
  cases a
  simpa using e'
end Go.Proofs.YtcnogokemilhnaaDoor
