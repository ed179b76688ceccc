/-
A row of bytes that the call owns: append of bytes, and string(b).
-/
import Derived.Test.YtbddnohbkafagaaGreatDoorRegionW
import Derived.Test.YtbddnohbkafagaaGreatDoorDomB
import Derived.Maps.AppendAt
import Derived.Laws.IdiomStrings
namespace Go.Proofs.YtbddnohbkafagaaGreatDoor
open Go.RowKit Go.Cl

/-- A row of bytes that the call owns. -/
def OwnB (w : World) (base : Nat) (v : Value) (xs : List UInt8) : Prop := w.ownsRow base 5 1 v xs.length (Lib.byteCells xs)
theorem elemB : ElemOf Tryz.prog 36 5 1 1 := mkElem Tryz.underlying36 (by kernel_rfl) (z := .int .u8 0) rfl (by decide)
theorem OwnB.nil (w : World) (base : Nat) : OwnB w base (.slice none 0 0) [] := World.ownsRow_nil _ _ _ _
theorem OwnB.alloc {w : World} {base : Nat} {v : Value} {xs : List UInt8} (h : OwnB w base v xs) (o : Obj) : OwnB (w.alloc o) base v xs := World.ownsRow.alloc h o
theorem OwnB.keep {w w' : World} {base : Nat} {v : Value} {xs : List UInt8} (h : OwnB w base v xs) (hk : ∀ (k : Nat) (o : Obj), w.heap[k]? = some o → w'.heap[k]? = some o) : OwnB w' base v xs := by
  refine ⟨h.1, ?_⟩
  rcases h.2 with h4 | ⟨g, cap, cur, e, hg, hc, r⟩
  · exact Or.inl h4
  · exact Or.inr ⟨g, cap, cur, e, hg, hk g _ hc, r⟩
theorem OwnB.next {w w' : World} {base : Nat} {v : Value} {xs : List UInt8} (h : OwnB w base v xs) (hb : Below w.heap.size w w') : OwnB w' base v xs :=
  h.keep fun k _ hk => (hb.block k (Array.getElem?_eq_some_iff.1 hk).1).trans hk
theorem OwnB.drew {w : World} {base : Nat} {v : Value} {xs : List UInt8} (h : OwnB w base v xs) : OwnB w.drew base v xs := h.keep fun _ _ h => h
theorem cells_one (l : List UInt8) : ∀ u ∈ Lib.byteCells l, u.oneCell' = true := fun u hu => by
  simp only [Lib.byteCells, List.mem_map] at hu
  obtain ⟨b, _, rfl⟩ := hu
  rfl
theorem own_byte_new (w : World) (b : Nat) (base : Nat) (hb : base ≤ w.heap.size) (h : b < 256) : OwnB (w.alloc (.cells #[.int .u8 (b : Int)] 5)) base (.slice (some ⟨w.heap.size, 0, none⟩) 1 1) [UInt8.ofNat b] := by
  refine ⟨rfl, Or.inr ⟨w.heap.size, 1, _, rfl, hb, heap_alloc_new w _, Nat.le_refl _, by decide, rfl, ?_⟩⟩
  have : (UInt8.ofNat b).toNat = b := by simp; omega
  simp [Lib.byteCells, this]
section
variable {P : Program} (w : World)
theorem run_apB {t ty : TypeId} (hE : ElemOf P t 5 1 1) {base : Nat} {v : Value} {xs ys : List UInt8} (hown : OwnB w base v xs) {b off m c : Nat} (hm : m = ys.length)
    (hcell : ∀ j u, (Lib.byteCells ys)[j]? = some u → w.cell? ⟨b, off + j, none⟩ = some u) (h63 : xs.length + ys.length ≤ 140737488355328) (hbase : base ≤ w.heap.size) :
    ∃ v' w', (Builtin.append_ #[t, t] ty #[v, .slice (some ⟨b, off, none⟩) m c]).run P w = .ok v' w' ∧ OwnB w' base v' (xs ++ ys) ∧ w.grownBy w' v.ownBlock ∧ Below base w w' ∧ (v'.ownBlock = v.ownBlock ∨ v'.ownBlock = some w.heap.size) := by
  subst hm
  obtain ⟨i, z, hi, hz, hsize, hby, hzs⟩ := hE.info
  obtain ⟨v', w', hrun, ho', hg, _, hb⟩ := run_append_own_at (P := P) w base t ty 5 i z 1 1 hE.under hi hz hsize hby hzs hE.pos v xs.length (Lib.byteCells xs) hown ⟨b, off, none⟩ ys.length c (Lib.byteCells ys) (by rw [Lib.byteCells_length]; omega)
    (fun j u hu => by
      rw [← hcell j u hu]
      congr 1
      unfold Addr.add
      split
      · rename_i h; subst h; rfl
      · rfl) (cells_one ys) (by unfold maxLen; omega) (by omega) hbase
  refine ⟨v', w', hrun, ?_, hg, (Below.refl base w).grown hg hbase fun k hk => (World.ownsRow.lt hown k hk).1, hb⟩
  unfold OwnB
  rw [Lib.byteCells_append, List.length_append]
  exact ho'
theorem list_apB {ops : Array Oper} {rest : List Oper} {o : Oper} {a : Act} {Q : Exit → Act → World → Prop} (hgd : o.guard = none) (s x : Operand) (t : TypeId)
    (ho : o.op = .call { callee := .builtin .append, args := #[s, x], argTypes := #[t, t] }) (hE : ElemOf P t 5 1 1) {base : Nat} {v : Value} {xs ys : List UInt8} (hv : a.eval s = v) (hown : OwnB w base v xs) {b off m c : Nat}
    (hx : a.eval x = .slice (some ⟨b, off, none⟩) m c) (hm : m = ys.length) (hcell : ∀ j u, (Lib.byteCells ys)[j]? = some u → w.cell? ⟨b, off + j, none⟩ = some u) (h63 : xs.length + ys.length ≤ 140737488355328) (hbase : base ≤ w.heap.size)
    (h : ∀ v' w', OwnB w' base v' (xs ++ ys) → Below base w w' → wpList P ops Q rest (a.put o.dst v') w') : wpList P ops Q (o :: rest) a w := by
  obtain ⟨v', w', hrun, h1, _, h3, _⟩ := run_apB (P := P) (t := t) (ty := o.type) (c := c) w hE hown hm hcell h63 hbase
  refine wpList_plain hgd fun K hK => ?_
  unfold Oper.wp execOp
  simp only [ho, resolve, invoke, builtin, Sem.run_bind, Sem.run_pure, Result.andThen_ok, List.map_toArray, List.map_cons, List.map_nil, hv, hx, hrun]
  exact hK _ _ (h v' w' h1 h3)
theorem step_apB {ops : Array Oper} {o : Oper} {a : Act} {K : Act → World → Prop} {Q : Exit → Act → World → Prop} {E : Prop} (hgd : o.guard = none) (s x : Operand) (t : TypeId)
    (ho : o.op = .call { callee := .builtin .append, args := #[s, x], argTypes := #[t, t] }) (hE : ElemOf P t 5 1 1) {base : Nat} {v : Value} {xs ys : List UInt8} (hv : a.eval s = v) (hown : OwnB w base v xs) {b off m c : Nat}
    (hx : a.eval x = .slice (some ⟨b, off, none⟩) m c) (hm : m = ys.length) (hcell : ∀ j u, (Lib.byteCells ys)[j]? = some u → w.cell? ⟨b, off + j, none⟩ = some u) (h63 : xs.length + ys.length ≤ 140737488355328) (hbase : base ≤ w.heap.size)
    (h : ∀ v' w', OwnB w' base v' (xs ++ ys) → Below base w w' → K (a.put o.dst v') w') :
    if Region.wanted o (yielded ops a.tmps) = true then Oper.wp P o a w K Q else E := by
  obtain ⟨v', w', hrun, h1, _, h3, _⟩ := run_apB (P := P) (t := t) (ty := o.type) (c := c) w hE hown hm hcell h63 hbase
  rw [if_pos (by simp [Region.wanted, hgd])]
  unfold Oper.wp execOp
  simp only [ho, resolve, invoke, builtin, Sem.run_bind, Sem.run_pure, Result.andThen_ok, List.map_toArray, List.map_cons, List.map_nil, hv, hx, hrun]
  exact h v' w' h1 h3
end
/-- string(b). -/
theorem strB {w : World} {base : Nat} {v : Value} {xs : List UInt8} (h : OwnB w base v xs) : (convert 36 9 v).run Tryz.prog w = .ok (.string ⟨xs.toArray⟩) w := by
  rcases h.2 with ⟨rfl, h0⟩ | ⟨g, cap, cur, rfl, hg, hc, hnc, hcm, hcs, htake⟩
  · obtain rfl : xs = [] := List.eq_nil_of_length_eq_zero h0
    exact run_convert_bytes_nil w _ _ Tryz.underlying36 Tryz.underlying5 0 0 _ Tryz.underlying9
  · refine run_convert_bytes_back w _ _ _ ⟨g, 0, none⟩ cap xs Tryz.underlying36 Tryz.underlying5 Tryz.underlying9 fun j hj => ?_
    exact World.ownsRow.cells h (g := g) rfl j _ (by simp [Lib.byteCells, hj])
end Go.Proofs.YtbddnohbkafagaaGreatDoor
