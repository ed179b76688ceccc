/-
A strings.Builder that stands at the head of package serial's writer: WriteString, String.
-/
import Derived.Test.YtfgmfmkibjfknaaDoorBuilder
import Derived.Test.YtfgmfmkibjfknaaDoorDomB
import Derived.Lib.UnsafeStr
import Derived.Shelf.Strings.Builder1
import Derived.Shelf.RegionOpen
namespace Go.Proofs.YtfgmfmkibjfknaaDoor
open Go.RowKit Go.Cl

theorem grown_cell (w : World) (E i : Nat) (v : Value) : w.grownBy (w.setCell ⟨E, i, none⟩ v) (some E) :=
  ⟨rfl, rfl, rfl, by simp, fun k _ hk => Below.heap_setCell _ _ _ k (fun e => hk (by rw [e]))⟩
/-- A writer: its block, its document, what is written so far. -/
structure WrAt (W : World) (E B : Nat) (A : Option Addr) (n c : Nat) (q : Bool) (bs : List UInt8) : Prop where
  le : B ≤ E
  box : ∃ p v, W.heap[E]? = some (.cells #[p, v, .slice A n c, .bool q] 117 (0, 0)) ∧ (p = .pointer none ∨ p = .pointer (some ⟨E, 0, none⟩)) ∧ W.ownsRow B 5 1 v bs.length (Lib.byteCells bs)
theorem liesWr : liesAt Tryd.prog Tryd.prog.depth 117 (4 / Tryd.prog.cellsOf 117) 0 99 1 = true := by kernel_rfl
theorem own_wr {W : World} {B n E : Nat} {v : Value} {xs : List Value} {cs : Array Value} {fr : Nat × Nat} (h : W.ownsRow B 5 1 v n xs) (hE : W.heap[E]? = some (.cells cs 117 fr)) : v.ownBlock ≠ some E := by
  intro e
  rcases h.2 with ⟨rfl, _⟩ | ⟨g, cap, cur, rfl, _, hc, _⟩
  · cases e
  · simp only [Value.ownBlock, Option.some.injEq] at e
    subst e
    rw [hc] at hE
    injection hE with hE
    injection hE with _ h2
    exact absurd h2 (by decide)
/-- Whatever is no writer and no row of bytes lies as it lay. -/
structure WKeep (w w' : World) : Prop where
  size : w.heap.size ≤ w'.heap.size
  same : ∀ (k : Nat) (o : Obj), w.heap[k]? = some o → (∀ cs t fr, o = .cells cs t fr → t ≠ 117 ∧ t ≠ 5) → w'.heap[k]? = some o
theorem WKeep.refl (w : World) : WKeep w w := ⟨Nat.le_refl _, fun _ _ h _ => h⟩
theorem WKeep.trans {a b c : World} (h : WKeep a b) (k : WKeep b c) : WKeep a c := ⟨Nat.le_trans h.size k.size, fun i o hi ho => k.same i o (h.same i o hi ho) ho⟩
theorem WKeep.below {w w' : World} (h : Below w.heap.size w w') : WKeep w w' := ⟨h.size, fun k _ hk _ => (h.block k (Array.getElem?_eq_some_iff.1 hk).1).trans hk⟩
theorem WKeep.grown {w w' : World} {row : Option Nat} (hg : w.grownBy w' row) (hr : ∀ k, row = some k → ∃ cs t fr, w.heap[k]? = some (.cells cs t fr) ∧ (t = 117 ∨ t = 5)) : WKeep w w' :=
  ⟨hg.size, fun k o hk ho => (hg.block k (Array.getElem?_eq_some_iff.1 hk).1 (fun e => by
    obtain ⟨cs, t, fr, h1, h2⟩ := hr k e.symm
    rw [hk] at h1
    obtain rfl := Option.some.inj h1
    have h3 := ho cs t fr rfl
    rcases h2 with h2 | h2
    · exact h3.1 h2
    · exact h3.2 h2)).trans hk⟩
theorem WKeep.own {w w' : World} {B n : Nat} {v : Value} {xs : List Value} (h : w.ownsRow B 5 1 v n xs) (hg : w.grownBy w' v.ownBlock) : WKeep w w' :=
  .grown hg fun k hk => by
    rcases h.2 with ⟨rfl, _⟩ | ⟨g, cap, cur, rfl, _, hc, _⟩
    · cases hk
    · simp only [Value.ownBlock, Option.some.injEq] at hk
      subst hk
      exact ⟨_, _, _, hc, Or.inr rfl⟩
/-- A block that the writer has nothing to do with. -/
theorem WKeep.blk {w w' : World} (h : WKeep w w') {k : Nat} {cs : Array Value} {t : TypeId} {fr : Nat × Nat} (hk : w.heap[k]? = some (.cells cs t fr)) (ht : t ≠ 117 ∧ t ≠ 5) : w'.heap[k]? = some (.cells cs t fr) :=
  h.same k _ hk fun cs' t' fr' e => by
    injection e with _ e2
    rw [← e2]
    exact ht
theorem WrAt.lt {W : World} {E B : Nat} {A : Option Addr} {n c : Nat} {q : Bool} {bs : List UInt8} (h : WrAt W E B A n c q bs) : E < W.heap.size := by
  obtain ⟨p, v, h1, _⟩ := h.box
  exact (Array.getElem?_eq_some_iff.1 h1).1
theorem WrAt.d0 {W : World} {E B : Nat} {A : Option Addr} {n c : Nat} {q : Bool} {bs : List UInt8} (h : WrAt W E B A n c q bs) : W.cell? ⟨E, 2, none⟩ = some (.slice A n c) := by
  obtain ⟨p, v, h1, _⟩ := h.box
  exact cell_blk h1 rfl
theorem WrAt.al {W : World} {E B : Nat} {A : Option Addr} {n c : Nat} {q : Bool} {bs : List UInt8} (h : WrAt W E B A n c q bs) (o : Obj) : WrAt (W.alloc o) E B A n c q bs := by
  obtain ⟨p, v, h1, h2, h3⟩ := h.box
  exact ⟨h.le, p, v, (Lib.alloc_old W o E (Array.getElem?_eq_some_iff.1 h1).1).trans h1, h2, h3.alloc o⟩
theorem WrAt.next {W W' : World} {E B : Nat} {A : Option Addr} {n c : Nat} {q : Bool} {bs : List UInt8} (h : WrAt W E B A n c q bs) (hb : Below W.heap.size W W') : WrAt W' E B A n c q bs := by
  obtain ⟨p, v, h1, h2, h3⟩ := h.box
  refine ⟨h.le, p, v, (hb.block E (Array.getElem?_eq_some_iff.1 h1).1).trans h1, h2, h3.1, ?_⟩
  rcases h3.2 with h4 | ⟨g, cap, cur, e, hg, hc, r⟩
  · exact Or.inl h4
  · exact Or.inr ⟨g, cap, cur, e, hg, (hb.block g (Array.getElem?_eq_some_iff.1 hc).1).trans hc, r⟩
theorem WrAt.drew {W : World} {E B : Nat} {A : Option Addr} {n c : Nat} {q : Bool} {bs : List UInt8} (h : WrAt W E B A n c q bs) : WrAt W.drew E B A n c q bs := h.next (Below.refl _ W).drew

set_option maxRecDepth 100000 in
theorem copyW_any (E : Nat) (cs : Array Value) (p : Value) (w : World) (hE : w.heap[E]? = some (.cells cs 117 (0, 0))) (h4 : cs.size = 4) (h0 : cs[0]? = some p) (hp : p = .pointer none ∨ p = .pointer (some ⟨E, 0, none⟩)) :
    Calls Tryd.prog 79 #[.pointer (some ⟨E, 0, none⟩)] w fun e w' => e = .returned (.tuple #[]) ∧ w'.heap[E]? = some (.cells (cs.setIfInBounds 0 (.pointer (some ⟨E, 0, none⟩))) 117 (0, 0)) ∧ w.grownBy w' (some E) := by
  have hc0 : w.cell? ⟨E, 0, none⟩ = some p := cell_blk hE h0
  have hsh : w.shape? E = some (117, 4) := by simp [World.shape?, hE, h4]
  have hfz : w.frozen? ⟨E, 0, none⟩ = false := free_blk hE
  obtain ⟨j, hj, hjs⟩ := Option.map_eq_some_iff.1 Tryd.Builder_Extra_169.sizeBuilder
  rcases hp with rfl | rfl
  · have hset := set_blk (i := 0) hE (.pointer (some ⟨E, 0, none⟩))
    have HS := Lib.hid hset
    clear hset hE h4 h0
    go_enter Tryd.func79, Tryd.ntmps79
    go_wp2_with fail
    rw [Lib.run_to_unsafe w ⟨E, 0, none⟩ Tryd.underlying96 Tryd.underlying183 hj (by rw [hjs]; decide) hsh (by show 0 < 4; decide)]
    simp only [Result.andThen]
    rw [Oper.upon_value]
    go_wp2_with fail
    rw [run_callFunc_extern Tryd.func121 (by kernel_rfl) (by kernel_rfl) (by kernel_rfl) (e := Extern.AbiNoEscape.same) (by kernel_rfl)]
    rw [Lib.run_noEscape]
    simp only [Result.andThen]
    rw [Oper.upon_value]
    go_wp2_with fail
    rw [Lib.run_from_unsafe w ⟨E, 0, none⟩ Tryd.underlying183 Tryd.underlying96 hj hsh liesWr]
    simp only [Result.andThen]
    rw [Oper.upon_value]
    go_wp2_with fail
    go_end0
    exact ⟨rfl, HS.out, grown_cell _ _ _ _⟩
  · have hset : cs.setIfInBounds 0 (.pointer (some ⟨E, 0, none⟩)) = cs := by
      apply Array.ext'
      rw [Array.toList_setIfInBounds]
      exact set_same (by simpa using h0)
    have HE := Lib.hid hE
    clear hE h4
    go_enter Tryd.func79, Tryd.ntmps79
    go_wp2_with fail
    rw [Lib.run_neq_ptr_same w _ Tryd.underlying96 hj]
    go_wp2_with fail
    go_end0
    exact ⟨rfl, by rw [hset]; exact HE.out, World.grownBy.refl _ _⟩

set_option maxRecDepth 100000 in
theorem writeW (E B : Nat) (A : Option Addr) (n c : Nat) (q : Bool) (bs : List UInt8) (s : ByteArray) (w : World) (h : WrAt w E B A n c q bs) (hlen : bs.length + s.size ≤ 140737488355328) (hB : B ≤ w.heap.size) :
    Calls Tryd.prog 47 #[.pointer (some ⟨E, 0, none⟩), .string s] w fun e w' => e = .returned (.tuple #[.int .i64 s.size, .nilIface]) ∧ WrAt w' E B A n c q (bs ++ s.data.toList) ∧ Below B w w' ∧ WKeep w w' := by
  obtain ⟨i0, hi, hz0, hz1, hz2⟩ := info_parts Tryd.Builder_Extra_169.infoByte
  have hBE := h.le
  obtain ⟨p, v, hbk, hp, hown⟩ := h.box
  have hne := own_wr hown hbk
  have HC := Lib.hid (copyW_any E _ p w hbk rfl rfl hp)
  have HBK := Lib.hid hbk
  clear h hbk hp
  go_enter Tryd.func47, Tryd.ntmps47
  go_wp2_with fail
  refine HC.out.mono ?_
  rintro e w1 ⟨rfl, h1, hg1⟩
  have h1 : w1.heap[E]? = some (.cells #[.pointer (some ⟨E, 0, none⟩), v, .slice A n c, .bool q] 117 (0, 0)) := h1
  have hown1 : w1.ownsRow B 5 1 v bs.length (Lib.byteCells bs) := hown.kept hg1 (Or.inr hne)
  have hb1 : Below B w w1 := (Below.refl B w).grown hg1 hB (fun k e => by cases e; exact hBE)
  have c1 : w1.cell? ⟨E, 1, none⟩ = some v := cell_blk h1 rfl
  have hl : (Lib.byteCells bs).length = bs.length := Lib.byteCells_length bs
  go_wp2_with (at_builtin; refine Lib.wpList_append_own_string _ rfl _ _ 97 9 rfl B 5 i0 Tryd.underlying97 Tryd.underlying9 hi hz0 hz1 hz2 _ _ _ rfl hown1 s rfl ?c3 ?c4 ?c5 ?_)
  case c3 => unfold maxLen; omega
  case c4 => omega
  case c5 => have := hb1.size; omega
  intro v' w2 hown' hgrow _
  have hb2 : w2.heap[E]? = some (.cells #[.pointer (some ⟨E, 0, none⟩), v, .slice A n c, .bool q] 117 (0, 0)) := by
    rw [hgrow.block E (Array.getElem?_eq_some_iff.1 h1).1 (fun e => hne e.symm)]
    exact h1
  have d0 : w2.cell? ⟨E, 0, none⟩ = some (.pointer (some ⟨E, 0, none⟩)) := cell_blk hb2 rfl
  have d1 : w2.cell? ⟨E, 1, none⟩ = some v := cell_blk hb2 rfl
  have f1 : w2.frozen? ⟨E, 1, none⟩ = false := free_blk hb2
  have hb2b : Below B w w2 := hb1.grown hgrow (by have := hb1.size; omega) (fun k hk => (hown1.lt k hk).1)
  obtain ⟨ao, n', cap, rfl⟩ : ∃ ao n' cap, v' = .slice ao n' cap := by
    rcases hown'.2 with ⟨hv, _⟩ | ⟨g, cap, cur, hv, _⟩
    · exact ⟨_, _, _, hv⟩
    · exact ⟨_, _, _, hv⟩
  go_wp2_with fail
  go_ret2
  refine ⟨rfl, ⟨hBE, _, _, (set_blk hb2 _), Or.inr rfl, ?_⟩, hb2b.setCell (p := ⟨E, 1, none⟩) hBE _, ((WKeep.grown hg1 fun k e => by cases e; exact ⟨_, _, _, HBK.out, Or.inl rfl⟩).trans (WKeep.own hown1 hgrow)).trans (WKeep.grown (grown_cell w2 E 1 _) fun k e => by cases e; exact ⟨_, _, _, hb2, Or.inl rfl⟩)⟩
  have hne2 := own_wr hown' hb2
  have h5 : (w2.setCell ⟨E, 1, none⟩ (.slice ao n' cap)).ownsRow B 5 1 (.slice ao n' cap) (bs.length + s.size) (Lib.byteCells bs ++ Lib.strCells s) := hown'.kept (grown_cell w2 E 1 _) (Or.inr hne2)
  have e5 : Lib.byteCells (bs ++ s.data.toList) = Lib.byteCells bs ++ Lib.strCells s := by rw [Lib.byteCells_append]; rfl
  rw [e5, List.length_append, show s.data.toList.length = s.size from by simp]
  exact h5
end Go.Proofs.YtfgmfmkibjfknaaDoor
