/-
Maps of ints that a call has made: what keeps them.
-/
import Derived.Test.YtomleengbnfikaaGreatDoorEdBase
import Derived.Maps.OwnOps
import Derived.Maps.OwnSet
import Derived.Maps.Views
import Derived.Carry
namespace Go.Proofs.YtomleengbnfikaaGreatDoor
open Go.RowKit Go.Cl
open Go.Maps (Keyed IsMap int_keyed)

/-! ### the map -/
noncomputable abbrev mpE : Value → Option (DataW Unit × List MemPlace) := plainElem Tryz.prog 3
theorem lawI : Keyed Tryz.prog 3 := int_keyed Tryz.underlying3
theorem zeroI (w : World) : (zeroValue 3).run Tryz.prog w = .ok (.int .i64 0) w := by kernel_rfl
theorem own_no_map {α : Type} {T : Ty α} {w : World} {base : Nat} {e : TypeId} {D : Nat → Prop} {v : Value} {n k im : Nat} {xs : List α} {X : DataW Unit} (h : Own T w base e D v n xs) (hk : w.ownsMap Tryz.prog 3 mpE k im X) : v.ownBlock ≠ some k := fun e2 => by
  obtain ⟨c1, k1⟩ := own_block_at h e2
  obtain ⟨es, clock, hb, _⟩ := hk
  rw [k1] at hb
  cases hb
theorem map_no_cells {w : World} {k j im : Nat} {X : DataW Unit} {cs : Array Value} {e : TypeId} {fr : Nat × Nat} (hk : w.ownsMap Tryz.prog 3 mpE k im X) (hj : w.heap[j]? = some (.cells cs e fr)) : k ≠ j := fun e2 => by
  obtain ⟨es, clock, hb, _⟩ := hk
  rw [e2, hj] at hb
  cases hb
theorem map_next {w w' : World} {k im : Nat} {X : DataW Unit} (h : w.ownsMap Tryz.prog 3 mpE k im X) (hb : Below w.heap.size w w') : w'.ownsMap Tryz.prog 3 mpE k im X := by
  have hlt := h.lt
  obtain ⟨es, clock, h1, F, hs, hD⟩ := h
  exact ⟨es, clock, (hb.block k hlt).trans h1, F, hs, hD⟩
end Go.Proofs.YtomleengbnfikaaGreatDoor
