/-
A set of strings that a call has made: what it holds, how it is asked and written.
-/
import Derived.Test.YtbddnohbkafagaaGreatDoorBase
import Derived.Test.YtbddnohbkafagaaGreatDoorShelf
import Derived.Maps.OwnOps
import Derived.Maps.OwnSet
import Derived.Maps.Views
import Derived.StringKeys
import Derived.Carry
namespace Go.Proofs.YtbddnohbkafagaaGreatDoor
open Go.RowKit Go.Cl
open Go.WideMaps (keyOf_string_mk)
open Go.Maps (Keyed string_keyed setOf has_setOf setOf_snoc)

theorem lawS : Keyed Tryz.prog 9 := string_keyed Tryz.underlying9
theorem zeroU (w : World) : (zeroValue 74).run Tryz.prog w = .ok (.agg #[]) w := by kernel_rfl
def unitD : DataW Unit := .agg []
def keyS (s : ByteArray) : Lit := .string s.data.toList
/-- Block b is a set: that of the strings told. -/
def SetAt (w : World) (b : Nat) (seen : List ByteArray) : Prop := ∃ n, n ≤ seen.length ∧ w.ownsMap Tryz.prog 9 (unitElem (H := Unit)) b n (setOf unitD (seen.map keyS))
theorem SetAt.made (w : World) : SetAt (w.alloc (.map #[] 0)) w.heap.size [] := ⟨0, Nat.le_refl _, World.ownsMap_made _ _ _ _⟩
theorem SetAt.kept {w w' : World} {b : Nat} {seen : List ByteArray} {row : Option Nat} (h : SetAt w b seen) (hg : w.grownBy w' row) (hne : some b ≠ row) : SetAt w' b seen := by
  obtain ⟨n, h1, h2⟩ := h
  exact ⟨n, h1, h2.kept hg hne⟩
theorem SetAt.lt {w : World} {b : Nat} {seen : List ByteArray} (h : SetAt w b seen) : b < w.heap.size := by
  obtain ⟨n, _, h⟩ := h
  exact h.lt
theorem SetAt.obj {w : World} {b : Nat} {seen : List ByteArray} (h : SetAt w b seen) : ∃ es clock, w.heap[b]? = some (.map es clock) := by
  obtain ⟨n, _, es, clock, h, _⟩ := h
  exact ⟨es, clock, h⟩
theorem SetAt.next {w w' : World} {b : Nat} {seen : List ByteArray} (h : SetAt w b seen) (hb : w'.heap[b]? = w.heap[b]?) : SetAt w' b seen := by
  obtain ⟨n, h1, es, clock, h2, F, hs, hD⟩ := h
  exact ⟨n, h1, es, clock, hb.trans h2, F, hs, hD⟩
theorem seen_has (seen : List ByteArray) (x : ByteArray) : Maps.has (setOf unitD (seen.map keyS)) (keyS x) = seen.any (fun z => z.toList == x.toList) := by
  rw [has_setOf unitD (keyS x) _ (fun y hy => by obtain ⟨z, _, rfl⟩ := List.mem_map.1 hy; trivial), List.any_map]
  apply congrArg (fun p => seen.any p)
  funext z
  show (z.data.toList == x.data.toList) = _
  rw [ByteArray.toList_eq, ByteArray.toList_eq]
/-- Asked with ok. -/
theorem SetAt.look {w : World} {b : Nat} {seen : List ByteArray} (h : SetAt w b seen) {x : ByteArray} (hx : x.size ≤ 1000000) :
    (Instr.lookup 73 (.map (some b)) (.string x) true).run Tryz.prog w = .ok (.tuple #[.agg #[], .bool (seen.any (fun z => z.toList == x.toList))]) w := by
  obtain ⟨n, _, h⟩ := h
  obtain ⟨v, ps, hrun, hv⟩ := h.look_ok lawS Tryz.underlying73 (zeroU w) (unitElem_mk (H := Unit)) (keyOf_string_mk Tryz.underlying9 (s := x) (by unfold maxLen; omega))
  rw [← seen_has]
  rw [(unitElem_inv hv).1] at hrun
  exact hrun
/-- One more. -/
theorem SetAt.put {w : World} {b : Nat} {seen : List ByteArray} (h : SetAt w b seen) (hs : seen.length ≤ 1000000) {x : ByteArray} (hx : x.size ≤ 1000000) :
    ∃ w', (Instr.mapUpdate 73 (.map (some b)) (.string x) (.agg #[])).run Tryz.prog w = .ok () w' ∧ SetAt w' b (seen ++ [x]) ∧ w.grownBy w' (some b) := by
  obtain ⟨n, hn, h⟩ := h
  obtain ⟨w', h1, h2, h3⟩ := h.update lawS Tryz.underlying73 (by unfold maxLen; omega) (val := .agg #[]) (keyOf_string_mk Tryz.underlying9 (s := x) (by unfold maxLen; omega)) (unitElem_mk (H := Unit))
  exact ⟨w', h1, ⟨n + 1, by rw [List.length_append, List.length_singleton]; omega, by rw [List.map_append, List.map_cons, List.map_nil, setOf_snoc]; exact h2⟩, h3⟩
end Go.Proofs.YtbddnohbkafagaaGreatDoor
