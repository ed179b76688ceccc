/-
The walk of SpanStays and the reading of its arguments.
-/
import Derived.Test.YtcnogokemilhnaaDoorSpanStays
import Derived.Test.YtcnogokemilhnaaDoorEditLift
namespace Go.Proofs.YtcnogokemilhnaaDoor
open Go.RowKit Go.Cl

/-- A range. -/
structure Rg where
  from_ : Pt
  to_ : Pt
def tRg : Ty Rg := tMap (tPair tPt tPt) (fun p => (p.from_, p.to_)) 32
theorem lifts_pt2 : Lifts Tryd.prog 57 tPt :=
  lifts_map (fun a => (⟨a.1, a.2⟩ : Pt)) (fun _ => rfl)
    (lifts_struct (fs := [_, _]) Tryd.underlying57 (by kernel_rfl) (by kernel_rfl)
      (liftsF_cons rfl (lifts_int Tryd.underlying3 (by kernel_rfl) (by kernel_rfl))
        (liftsF_one rfl (lifts_int Tryd.underlying3 (by kernel_rfl) (by kernel_rfl)))))
theorem lifts_rg : Lifts Tryd.prog 63 tRg :=
  lifts_map (fun a => (⟨a.1, a.2⟩ : Rg)) (fun _ => rfl)
    (lifts_struct (fs := [_, _]) Tryd.underlying63 (by kernel_rfl) (by kernel_rfl)
      (liftsF_cons rfl lifts_pt2 (liftsF_one rfl lifts_pt2)))
theorem rg_arg {w : World} {D : Nat → Prop} {x : Rg} {a : Array Value} (h : tRg.rep w D x (Value.agg a).cells.toList) : a = #[.int .i64 x.from_.node, .int .i64 x.from_.at_, .int .i64 x.to_.node, .int .i64 x.to_.at_] ∧ wfP x.from_ ∧ wfP x.to_ := by
  obtain ⟨c1, c2, e, ⟨d1, d2, e1, ⟨rfl, h1⟩, rfl, h2⟩, ⟨d3, d4, e2, ⟨rfl, h3⟩, rfl, h4⟩⟩ := h
  refine ⟨?_, ⟨h1, h2⟩, ⟨h3, h4⟩⟩
  subst e1 e2
  have e' : a.toList = [.int .i64 x.from_.node, .int .i64 x.from_.at_, .int .i64 x.to_.node, .int .i64 x.to_.at_] := e
  cases a
  simpa using e'
end Go.Proofs.YtcnogokemilhnaaDoor
