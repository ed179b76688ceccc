/-
The walk of DomCopy, on Copy's own, and the reading of its document.
-/
import Derived.Test.YtcnogokemilhnaaDoorDomCopy
import Derived.Test.YtcnogokemilhnaaDoorCopyWalk
import Derived.Test.YtcnogokemilhnaaDoorDocLift
namespace Go.Proofs.YtcnogokemilhnaaDoor
open Go.RowKit Go.Cl
theorem copy_said : CopySaid := copy_any
theorem domCopy_walk (A : Option Addr) (n c : Nat) (l : List Nd) (q : Bool) (b : Int) (w : World) (B : Nat) (hl : Sl tNd w (lt B) A n c l) (hB : B ≤ w.heap.size) (hbw : (Lit.int .i64 b).wf = true) :
    Calls Tryd.prog 4 #[.agg #[.slice A n c, .bool q], .int .i64 b] w fun e w' => e = .returned (.bool true) ∧ Below w.heap.size w w' := domCopy_walk0 copy_said A n c l q b w B hl hB hbw
end Go.Proofs.YtcnogokemilhnaaDoor
