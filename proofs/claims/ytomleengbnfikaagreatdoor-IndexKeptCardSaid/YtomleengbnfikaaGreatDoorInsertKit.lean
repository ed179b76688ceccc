/-
What slices.Insert does, at elements of whatever size: copy at such elements, and the rows that come of it.
-/
import Derived.Test.YtomleengbnfikaaGreatDoorBase
import Derived.Shelf.Spec.SlicesInsertGrow
namespace Go.Proofs.YtomleengbnfikaaGreatDoor
open Go.RowKit Go.Cl

/-- copy(dst, src) at elements of z cells. -/
theorem run_copy_sized {P : Program} (w : World) (dT sT ty elem : TypeId) (b o dLen dCap : Nat) (a : Addr) (sLen sCap z n : Nat) (cs : List Value)
    (hu : P.underlying dT = some (.slice elem)) (hs : (P.info? elem).map (·.size) = some z) (hn : Nat.min sLen dLen = n) (hl : cs.length = n * z)
    (hsrc : ∀ j v, cs[j]? = some v → w.cell? (a.add j) = some v) (hc : ∀ j, j < cs.length → (w.cell? ⟨b, o + j, none⟩).isSome = true) (hf : ∀ j, j < cs.length → w.frozen? ⟨b, o + j, none⟩ = false) (h1 : ∀ v ∈ cs, v.oneCell' = true) :
    (Builtin.copy_ #[dT, sT] ty #[.slice (some ⟨b, o, none⟩) dLen dCap, .slice (some a) sLen sCap]).run P w = .ok (goInt n) (w.setCells b o cs) := by
  have hl1 := run_loadCells_list (P := P) w a cs hsrc
  have hst := run_storeCells_cells (P := P) b o cs 0 w (by simpa using hc) (by simpa using hf) h1
  cases hq : P.info? elem with
  | none => simp [hq] at hs
  | some i =>
    have hi : i.size = z := by simpa [hq] using hs
    rw [hl] at hl1
    simp [Builtin.copy_, run_underlying hu, Builtin.lenOf, Builtin.firstCells, sizeOf, typeInfo, hq, hi, hn, hl1, hst]
theorem ins_list1 {α : Type} {L D ys : List α} {a z b : Nat} (hz : ys.length = z) (hb : D.length = b) (hL : a + z + b ≤ L.length) :
    (((L.take (a + z) ++ D ++ L.drop (a + z + b)).take a ++ ys ++ (L.take (a + z) ++ D ++ L.drop (a + z + b)).drop (a + z)).take (a + z + b)) = L.take a ++ ys ++ D := by
  have l1 : (L.take (a + z)).length = a + z := by rw [List.length_take]; omega
  have t1 : (L.take (a + z) ++ D ++ L.drop (a + z + b)).take a = L.take a := by
    rw [List.append_assoc, List.take_append_of_le_length (by omega), List.take_take, Nat.min_eq_left (by omega)]
  have t2 : (L.take (a + z) ++ D ++ L.drop (a + z + b)).drop (a + z) = D ++ L.drop (a + z + b) := by
    rw [List.append_assoc]
    exact List.drop_left' l1
  rw [t1, t2, ← List.append_assoc]
  have l3 : (L.take a ++ ys ++ D).length = a + z + b := by rw [List.length_append, List.length_append, List.length_take]; omega
  exact List.take_left' l3
theorem ins_list2 {α : Type} {L D ys : List α} {a z b : Nat} (hz : ys.length = z) (hb : D.length = b) (hL : a + z + b ≤ L.length) :
    (((L.take a ++ ys ++ L.drop (a + z)).take (a + z) ++ D ++ (L.take a ++ ys ++ L.drop (a + z)).drop (a + z + b)).take (a + z + b)) = L.take a ++ ys ++ D := by
  have l1 : (L.take a ++ ys).length = a + z := by rw [List.length_append, List.length_take]; omega
  have t1 : (L.take a ++ ys ++ L.drop (a + z)).take (a + z) = L.take a ++ ys := List.take_left' l1
  rw [t1]
  have l3 : (L.take a ++ ys ++ D).length = a + z + b := by rw [List.length_append, l1]; omega
  exact List.take_left' l3
/-- The row behind an insert in place. -/
theorem ins_room {w : World} {g c n i z : Nat} {e : TypeId} {cur : Array Value} {cells ys : List Value} (hh : w.heap[g]? = some (.cells cur e (0, 0))) (hsz : cur.size = c * z) (htk : cur.toList.take (n * z) = cells) (hi : i ≤ n) (hroom : n + 1 ≤ c) (hy : ys.length = z) :
    ∃ cur2, ((w.setCells g ((i + 1) * z) (cells.drop (i * z))).setCells g (i * z) ys).heap[g]? = some (.cells cur2 e (0, 0)) ∧ cur2.size = c * z ∧ cur2.toList.take ((n + 1) * z) = cells.take (i * z) ++ ys ++ cells.drop (i * z) := by
  have hcl : cur.toList.length = c * z := by simpa using hsz
  have h1 : (n + 1) * z ≤ c * z := Nat.mul_le_mul_right z hroom
  have h2 : i * z ≤ n * z := Nat.mul_le_mul_right z hi
  have e1 : (i + 1) * z = i * z + z := Nat.succ_mul i z
  have e2 : (n + 1) * z = n * z + z := Nat.succ_mul n z
  have hlen : cells.length = n * z := by rw [← htk, List.length_take]; omega
  have hdl : (cells.drop (i * z)).length = n * z - i * z := by rw [List.length_drop, hlen]
  obtain ⟨cur1, a1, a2, a3⟩ := heap_setCells (cells.drop (i * z)) ((i + 1) * z) w cur hh (by rw [hdl, e1]; omega)
  obtain ⟨cur2, b1, b2, b3⟩ := heap_setCells ys (i * z) _ cur1 a1 (by rw [a2, hy]; omega)
  refine ⟨cur2, b1, by omega, ?_⟩
  rw [b3, a3, hdl, hy, e1, e2, show n * z + z = i * z + z + (n * z - i * z) from by omega, ins_list1 hy hdl (by omega)]
  rw [← htk, List.take_take, Nat.min_eq_left h2]
/-- The row behind an insert into a new one. -/
theorem ins_grow {w : World} {N n i z : Nat} {e : TypeId} {cur : Array Value} {cells ys : List Value} (hh : w.heap[N]? = some (.cells cur e (0, 0))) (hi : i ≤ n) (hlen : cells.length = n * z) (hsz : (n + 1) * z ≤ cur.size) (hold : cur.toList.take (i * z) = cells.take (i * z)) (hy : ys.length = z) :
    ∃ cur2, (((w.setCells N (i * z) ys).drew).setCells N ((i + 1) * z) (cells.drop (i * z))).heap[N]? = some (.cells cur2 e (0, 0)) ∧ cur2.size = cur.size ∧ cur2.toList.take ((n + 1) * z) = cells.take (i * z) ++ ys ++ cells.drop (i * z) := by
  have hcl : cur.toList.length = cur.size := by simp
  have h2 : i * z ≤ n * z := Nat.mul_le_mul_right z hi
  have e1 : (i + 1) * z = i * z + z := Nat.succ_mul i z
  have e2 : (n + 1) * z = n * z + z := Nat.succ_mul n z
  have hdl : (cells.drop (i * z)).length = n * z - i * z := by rw [List.length_drop, hlen]
  obtain ⟨cur1, a1, a2, a3⟩ := heap_setCells ys (i * z) w cur hh (by rw [hy]; omega)
  obtain ⟨cur2, b1, b2, b3⟩ := heap_setCells (cells.drop (i * z)) ((i + 1) * z) (w.setCells N (i * z) ys).drew cur1 a1 (by rw [hdl, e1, a2]; omega)
  refine ⟨cur2, b1, by omega, ?_⟩
  rw [b3, a3, hdl, hy, e1, e2, show n * z + z = i * z + z + (n * z - i * z) from by omega, ins_list2 hy hdl (by omega), hold]
end Go.Proofs.YtomleengbnfikaaGreatDoor
