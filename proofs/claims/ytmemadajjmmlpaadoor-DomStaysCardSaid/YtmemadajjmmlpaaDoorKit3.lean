/-
A row of cells written in place: the block behind it; slices.Delete's and clear's ways with it. No program in sight.
-/
import Derived.Test.YtmemadajjmmlpaaDoorKit2
import Derived.Laws.IdiomCopy
import Derived.Lib.SliceRun
import Derived.Deep.RegionLaw
namespace Go.Cl
open Go.RowKit

theorem heap_setCells {b : Nat} {e : TypeId} {fr : Nat × Nat} : ∀ (vs : List Value) (o : Nat) (w : World) (cur : Array Value), w.heap[b]? = some (.cells cur e fr) → o + vs.length ≤ cur.size →
    ∃ cur', (w.setCells b o vs).heap[b]? = some (.cells cur' e fr) ∧ cur'.size = cur.size ∧ cur'.toList = cur.toList.take o ++ vs ++ cur.toList.drop (o + vs.length)
  | [], o, w, cur, h, _ => ⟨cur, h, rfl, by simp⟩
  | v :: r, o, w, cur, h, hl => by
    have h1 : (w.setCell ⟨b, o, none⟩ v).heap[b]? = some (.cells (cur.setIfInBounds o v) e fr) := by simp [World.setCell, Array.getElem?_modify, h]
    obtain ⟨cur', h2, h3, h4⟩ := heap_setCells r (o + 1) _ _ h1 (by simp at hl ⊢; omega)
    refine ⟨cur', h2, by simpa using h3, ?_⟩
    have hlt : o < cur.toList.length := by simp at hl ⊢; omega
    rw [h4, Array.toList_setIfInBounds]
    have e1 : (cur.toList.set o v).take (o + 1) = cur.toList.take o ++ [v] := by
      rw [List.take_add_one, List.take_set_of_le (by omega), List.getElem?_set_self hlt]
      rfl
    have e2 : (cur.toList.set o v).drop (o + 1 + r.length) = cur.toList.drop (o + 1 + r.length) := List.drop_set_of_lt (by omega)
    rw [e1, e2]
    simp [Nat.add_comm 1, Nat.add_assoc]
theorem heap_setCells_other {b k : Nat} (hk : k ≠ b) : ∀ (vs : List Value) (o : Nat) (w : World), (w.setCells b o vs).heap[k]? = w.heap[k]?
  | [], _, _ => rfl
  | v :: r, o, w => by
    rw [World.setCells, heap_setCells_other hk r]
    exact Below.heap_setCell _ _ _ _ hk
theorem grown_setCells (b : Nat) : ∀ (vs : List Value) (o : Nat) (w : World), w.grownBy (w.setCells b o vs) (some b)
  | [], _, w => World.grownBy.refl w _
  | v :: r, o, w => by
    have h1 : w.grownBy (w.setCell ⟨b, o, none⟩ v) (some b) := ⟨rfl, rfl, rfl, by simp, fun k _ hk => Below.heap_setCell _ _ _ _ (fun e => hk (by rw [e]))⟩
    have h2 := grown_setCells b r (o + 1) (w.setCell ⟨b, o, none⟩ v)
    exact ⟨h2.os.trans h1.os, h2.tape.trans h1.tape, h2.output.trans h1.output, Nat.le_trans h1.size h2.size, fun k hk hn => (h2.block k (Nat.lt_of_lt_of_le hk h1.size) hn).trans (h1.block k hk hn)⟩
theorem grownBy.trans' {a b c : World} {row : Option Nat} (h1 : a.grownBy b row) (h2 : b.grownBy c row) : a.grownBy c row :=
  ⟨h2.os.trans h1.os, h2.tape.trans h1.tape, h2.output.trans h1.output, Nat.le_trans h1.size h2.size, fun k hk hn => (h2.block k (Nat.lt_of_lt_of_le hk h1.size) hn).trans (h1.block k hk hn)⟩

/-- clear on one element. -/
theorem run_clear_one {P : Program} (w : World) (t e ty : TypeId) (z : Value) (zs : List Value) (ht : P.underlying t = some (.slice e)) (hv : ∀ w, (zeroValue e).run P w = .ok z w) (hz : (Builtin.zeroCells z.cells 1).toList = zs) (h1 : ∀ v ∈ zs, v.oneCell' = true) (b o c : Nat)
    (hc : ∀ j, j < zs.length → (w.cell? ⟨b, o + j, none⟩).isSome = true) (hf : ∀ j, j < zs.length → w.frozen? ⟨b, o + j, none⟩ = false) :
    (Builtin.clear_ #[t] ty #[.slice (some ⟨b, o, none⟩) 1 c]).run P w = .ok (.tuple #[]) (w.setCells b o zs) := by
  have hst := run_storeCells_cells (P := P) b o zs 0 w (by simpa using hc) (by simpa using hf) h1
  simp only [Nat.add_zero] at hst
  simp [Builtin.clear_, run_underlying ht, hv, hz, hst]

/-- Behind 'append(s[:i], s[i+1:]...)' and 'clear' of the last one: the row without that element. -/
theorem ownsRow_cut {w : World} {base g n c size i : Nat} {e : TypeId} {cells zs : List Value} (h : w.ownsRow base e size (.slice (some ⟨g, 0, none⟩) n c) n cells) (hi : i < n) (hz : zs.length = size) :
    ((w.drew.setCells g (0 + i * size) (cells.drop ((i + 1) * size))).setCells g ((n - 1) * size) zs).ownsRow base e size (.slice (some ⟨g, 0, none⟩) (n - 1) c) (n - 1) (cells.take (i * size) ++ cells.drop ((i + 1) * size)) := by
  have hlen := h.1
  rcases h.2 with ⟨hv, _⟩ | ⟨g', cap, cur, hv, hb, hh, hnc, hcm, hsz, htk⟩
  · cases hv
  · simp only [Value.slice.injEq, Option.some.injEq, Addr.mk.injEq, and_true, true_and] at hv
    obtain ⟨rfl, rfl⟩ := hv
    have m1 : (i + 1) * size ≤ n * size := Nat.mul_le_mul_right _ (by omega)
    have m2 : n * size ≤ c * size := Nat.mul_le_mul_right _ hnc
    have m3 : (n - 1) * size + size = n * size := by rw [← Nat.succ_mul]; congr 1; omega
    have m4 : i * size + size = (i + 1) * size := by rw [Nat.succ_mul]
    have hcl : cur.toList.length = c * size := by simpa using hsz
    have hn1 : (cells.drop ((i + 1) * size)).length = n * size - (i + 1) * size := by rw [List.length_drop, hlen]
    obtain ⟨cur1, h1, h2, h3⟩ := heap_setCells (cells.drop ((i + 1) * size)) (0 + i * size) w.drew cur hh (by omega)
    obtain ⟨cur2, h4, h5, h6⟩ := heap_setCells zs ((n - 1) * size) _ cur1 h1 (by omega)
    refine ⟨by rw [List.length_append, List.length_take, hn1]; omega, .inr ⟨g, c, cur2, rfl, hb, h4, by omega, hcm, by omega, ?_⟩⟩
    rw [h6, List.append_assoc, List.take_append_of_le_length (by rw [List.length_take]; simp; omega), List.take_take, Nat.min_self, h3, ← htk, List.take_append_of_le_length (by simp; omega)]
    rw [List.take_of_length_le (by simp; omega), Nat.zero_add, List.take_take, Nat.min_eq_left (by omega)]
theorem List.take_drop_erase {α : Type} (l : List α) (i : Nat) : l.take i ++ l.drop (i + 1) = l.eraseIdx i := (List.eraseIdx_eq_take_drop_succ l i).symm

end Go.Cl
