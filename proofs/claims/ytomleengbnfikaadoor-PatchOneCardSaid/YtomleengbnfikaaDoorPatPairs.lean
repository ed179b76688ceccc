/-
Patches: the walk of pairs.
-/
import Derived.Test.YtomleengbnfikaaDoorPatWorth
namespace Go.Proofs.YtomleengbnfikaaDoor
open Go.RowKit Go.Cl
attribute [local go_sem ↓] Go.wp_at_zero Go.wp_at_succ

/-! ### rows of ints, of rows -/
theorem madeOne (z : Value) (n : Nat) (hz : z.cells = #[z]) : madeCells z.cells n = (List.replicate n z).toArray := by
  apply Array.toList_inj.1
  rw [hz, toList_madeCells_one]
theorem make_ints (w : World) (n : Nat) (hn : n ≤ 100000) : (Instr.makeSlice 26 (.int .i64 (n : Int)) (.int .i64 (n : Int))).run Tryd.prog w = .ok (.slice (some ⟨w.heap.size, 0, none⟩) n n) (w.alloc (.cells (List.replicate n (Value.int .i64 0)).toArray 3)) := by
  obtain ⟨i0, hi, hz0, hz1, hz2⟩ := info_parts (show (Tryd.prog.info? 3).map (fun i => (i.zero, i.size, i.bytes)) = some (some (.int .i64 0), 1, 8) from by kernel_rfl)
  have h := run_makeSlice (P := Tryd.prog) w 26 3 i0 (.int .i64 0) Tryd.underlying26 hi hz0 .i64 .i64 (n : Int) (n : Int) (by omega) (Int.le_refl _) (by rw [hz1]; simp; omega) (by rw [hz2]; omega) (by omega)
  rw [h, hz1, madeOne _ _ rfl, Int.toNat_natCast, Nat.mul_one]
theorem make_rows (w : World) (n : Nat) (hn : n ≤ 100000) : (Instr.makeSlice 91 (.int .i64 (n : Int)) (.int .i64 (n : Int))).run Tryd.prog w = .ok (.slice (some ⟨w.heap.size, 0, none⟩) n n) (w.alloc (.cells (List.replicate n (Value.slice none 0 0)).toArray 26)) := by
  obtain ⟨i0, hi, hz0, hz1, hz2⟩ := info_parts (show (Tryd.prog.info? 26).map (fun i => (i.zero, i.size, i.bytes)) = some (some (.slice none 0 0), 1, 24) from by kernel_rfl)
  have h := run_makeSlice (P := Tryd.prog) w 91 26 i0 (.slice none 0 0) Tryd.underlying91 hi hz0 .i64 .i64 (n : Int) (n : Int) (by omega) (Int.le_refl _) (by rw [hz1]; simp; omega) (by rw [hz2]; omega) (by omega)
  rw [h, hz1, madeOne _ _ rfl, Int.toNat_natCast, Nat.mul_one]
/-- A row of values in a block of its own, told by a function. -/
def RowF (w : World) (g n : Nat) (e : TypeId) (F : Nat → Value) : Prop := w.heap[g]? = some (.cells ((List.range n).map F).toArray e (0, 0))
section
variable {w w' : World} {g n : Nat} {e : TypeId} {F : Nat → Value}
theorem RowF.at_ (h : RowF w g n e F) {k : Nat} (hk : k < n) : w.cell? ⟨g, k, none⟩ = some (F k) := cell_blk h (by simp [hk])
theorem RowF.free (h : RowF w g n e F) (k : Nat) : w.frozen? ⟨g, k, none⟩ = false := free_blk h
theorem RowF.lt (h : RowF w g n e F) : g < w.heap.size := (Array.getElem?_eq_some_iff.1 h).1
theorem RowF.set (h : RowF w g n e F) (k : Nat) (v : Value) : RowF (w.setCell ⟨g, k, none⟩ v) g n e (fun j => if j = k then v else F j) := by
  show (w.setCell _ _).heap[g]? = _
  rw [set_blk h]
  congr 2
  apply Array.toList_inj.1
  rw [Array.toList_setIfInBounds]
  refine List.ext_getElem? fun j => ?_
  rw [List.getElem?_set]
  simp only [List.length_map, List.length_range, List.getElem?_map]
  by_cases e1 : k = j
  · subst e1
    by_cases h1 : k < n <;> simp [h1]
  · by_cases h1 : j < n
    · simp [e1, h1, Ne.symm e1]
    · simp [e1, h1]
theorem RowF.next (h : RowF w g n e F) (hb : Below w.heap.size w w') : RowF w' g n e F := (hb.block g h.lt).trans h
theorem RowF.far (h : RowF w g n e F) {b i : Nat} {v : Value} (hb : b ≠ g) : RowF (w.setCell ⟨b, i, none⟩ v) g n e F := (Below.heap_setCell _ _ _ _ (Ne.symm hb)).trans h
theorem RowF.congr {F' : Nat → Value} (h : RowF w g n e F) (hf : ∀ k, k < n → F k = F' k) : RowF w g n e F' := by
  unfold RowF at h ⊢
  rw [h]
  congr 3
  exact List.map_congr_left fun k hk => hf k (List.mem_range.1 hk)
theorem RowF.made (v : Value) : RowF (w.alloc (.cells (List.replicate n v).toArray e)) w.heap.size n e (fun _ => v) := by
  show (w.alloc _).heap[w.heap.size]? = _
  rw [heap_alloc_new w _]
  congr 3
  refine List.ext_getElem? fun j => ?_
  simp only [List.getElem?_replicate, List.getElem?_map]
  by_cases h : j < n <;> simp [h]
theorem RowF.ne {g' n' : Nat} {e' : TypeId} {F' : Nat → Value} (h : RowF w g n e F) (h' : RowF w g' n' e' F') (he : e ≠ e') : g ≠ g' := by
  rintro rfl
  have h2 := h.symm.trans h'
  injection h2 with h2
  injection h2 with _ h2
  exact he h2
end
/-- The table. -/
structure Tab (w : World) (lo T L M : Nat) (R : Nat → Nat) (F : Nat → Nat → Int) : Prop where
  outer : RowF w T (L + 1) 26 fun i => .slice (some ⟨R i, 0, none⟩) (M + 1) (M + 1)
  inner : ∀ i, i ≤ L → RowF w (R i) (M + 1) 3 fun k => .int .i64 (F i k)
  inj : ∀ i j, i ≤ L → j ≤ L → R i = R j → i = j
  low : ∀ i, i ≤ L → lo ≤ R i
def upd2 (F : Nat → Nat → Int) (i k : Nat) (v : Int) : Nat → Nat → Int := fun a b => if a = i ∧ b = k then v else F a b
section
variable {w w' : World} {lo T L M : Nat} {R : Nat → Nat} {F F' : Nat → Nat → Int}
theorem Tab.next (h : Tab w lo T L M R F) (hb : Below w.heap.size w w') : Tab w' lo T L M R F := ⟨h.outer.next hb, fun i hi => (h.inner i hi).next hb, h.inj, h.low⟩
theorem Tab.congr (h : Tab w lo T L M R F) (hf : ∀ i k, i ≤ L → k ≤ M → F i k = F' i k) : Tab w lo T L M R F' := ⟨h.outer, fun i hi => (h.inner i hi).congr fun k hk => by rw [hf i k hi (by omega)], h.inj, h.low⟩
theorem Tab.set (h : Tab w lo T L M R F) {i k : Nat} (hi : i ≤ L) (v : Int) : Tab (w.setCell ⟨R i, k, none⟩ (.int .i64 v)) lo T L M R (upd2 F i k v) := by
  refine ⟨h.outer.far fun e => (h.outer.ne (h.inner i hi) (by decide)) e.symm, fun j hj => ?_, h.inj, h.low⟩
  by_cases e : j = i
  · subst e
    exact ((h.inner j hj).set k (.int .i64 v)).congr fun b hb => by
      unfold upd2
      by_cases e2 : b = k
      · simp [e2]
      · simp [e2]
  · exact ((h.inner j hj).far fun e2 => e (h.inj _ _ hj hi e2.symm)).congr fun b hb => by
      unfold upd2
      simp [e]
theorem Tab.row (h : Tab w lo T L M R F) {i : Nat} (hi : i ≤ L) : w.cell? ⟨T, i, none⟩ = some (.slice (some ⟨R i, 0, none⟩) (M + 1) (M + 1)) := h.outer.at_ (by omega)
theorem Tab.at_ (h : Tab w lo T L M R F) {i k : Nat} (hi : i ≤ L) (hk : k ≤ M) : w.cell? ⟨R i, k, none⟩ = some (.int .i64 (F i k)) := (h.inner i hi).at_ (by omega)
theorem Tab.free (h : Tab w lo T L M R F) {i : Nat} (hi : i ≤ L) (k : Nat) : w.frozen? ⟨R i, k, none⟩ = false := (h.inner i hi).free k
end
/-- What the table holds, half done. -/
def dpG (W : Nat → Nat → Int) (L M a b : Nat) : Nat → Nat → Int := fun r k => if a ≤ r ∨ (a = r + 1 ∧ b ≤ k) then dpF W L M r k else 0
theorem dpG_start {W : Nat → Nat → Int} {L M r k : Nat} : dpG W L M L M r k = 0 := by
  unfold dpG
  split
  · exact dp_out (by omega)
  · rfl
theorem dpG_row {W : Nat → Nat → Int} {L M a r k : Nat} : dpG W L M (a + 1) 0 r k = dpG W L M a M r k := by
  unfold dpG
  by_cases h1 : a ≤ r
  · rw [if_pos (by omega), if_pos (by omega)]
  · rw [if_neg (by omega)]
    split
    · exact (dp_out (by omega)).symm
    · rfl
theorem dpG_step {W : Nat → Nat → Int} {L M i k : Nat} {v : Int} (hv : v = dpF W L M i k) (F : Nat → Nat → Int) (hF : ∀ r c, ¬ (r = i ∧ c = k) → F r c = dpG W L M (i + 1) (k + 1) r c) : ∀ r c, upd2 F i k v r c = dpG W L M (i + 1) k r c := by
  intro r c
  unfold upd2
  by_cases h : r = i ∧ c = k
  · rw [if_pos h, h.1, h.2, hv]
    unfold dpG
    rw [if_pos (by omega)]
  · rw [if_neg h, hF r c h]
    unfold dpG
    by_cases h1 : i + 1 ≤ r ∨ (i + 1 = r + 1 ∧ k + 1 ≤ c)
    · rw [if_pos h1, if_pos (by omega)]
    · rw [if_neg h1, if_neg (by omega)]
/-- While the table is made. -/
structure Ini (w : World) (lo T L M j : Nat) (R : Nat → Nat) : Prop where
  outer : RowF w T (L + 1) 26 fun i => if i < j then .slice (some ⟨R i, 0, none⟩) (M + 1) (M + 1) else .slice none 0 0
  inner : ∀ i, i < j → RowF w (R i) (M + 1) 3 fun _ => .int .i64 0
  inj : ∀ i k, i < j → k < j → R i = R k → i = k
  low : ∀ i, i < j → lo ≤ R i
theorem Ini.next {w w' : World} {lo T L M j : Nat} {R : Nat → Nat} (h : Ini w lo T L M j R) (hb : Below w.heap.size w w') : Ini w' lo T L M j R := ⟨h.outer.next hb, fun i hi => (h.inner i hi).next hb, h.inj, h.low⟩
theorem Ini.step {w : World} {lo T L M j : Nat} {R : Nat → Nat} (h : Ini w lo T L M j R) (hlo : lo ≤ w.heap.size) :
    Ini ((w.alloc (.cells (List.replicate (M + 1) (Value.int .i64 0)).toArray 3)).setCell ⟨T, j, none⟩ (.slice (some ⟨w.heap.size, 0, none⟩) (M + 1) (M + 1))) lo T L M (j + 1) (fun i => if i = j then w.heap.size else R i) := by
  have hb : Below w.heap.size w (w.alloc (.cells (List.replicate (M + 1) (Value.int .i64 0)).toArray 3)) := (Below.refl _ _).alloc (Nat.le_refl _) _
  have h1 := h.next hb
  have hm : RowF (w.alloc (.cells (List.replicate (M + 1) (Value.int .i64 0)).toArray 3)) w.heap.size (M + 1) 3 fun _ => .int .i64 0 := RowF.made _
  refine ⟨(h1.outer.set j _).congr fun k hk => ?_, fun i hi => ?_, fun i k hi hk e => ?_, fun i hi => ?_⟩
  · by_cases e : k = j
    · subst e
      simp
    · by_cases h2 : k < j
      · simp [e, h2, Nat.lt_succ_of_lt h2]
      · have h3 : ¬ k < j + 1 := by omega
        simp [e, h2, h3]
  · by_cases e : i = j
    · subst e
      rw [if_pos rfl]
      exact hm.far fun e2 => (h1.outer.ne hm (by decide)) e2
    · rw [if_neg e]
      exact (h1.inner i (by omega)).far fun e2 => (h1.outer.ne (h1.inner i (by omega)) (by decide)) e2
  · have hlt : ∀ i, i < j → R i < w.heap.size := fun i hi => (h.inner i hi).lt
    by_cases e1 : i = j
    · by_cases e2 : k = j
      · omega
      · rw [if_pos e1, if_neg e2] at e
        have := hlt k (by omega)
        omega
    · by_cases e2 : k = j
      · rw [if_neg e1, if_pos e2] at e
        have := hlt i (by omega)
        omega
      · rw [if_neg e1, if_neg e2] at e
        exact h.inj i k (by omega) (by omega) e
  · by_cases e : i = j
    · rw [if_pos e]; exact hlo
    · rw [if_neg e]; exact h.low i (by omega)
theorem Ini.tab {w : World} {lo T L M : Nat} {R : Nat → Nat} (h : Ini w lo T L M (L + 1) R) : Tab w lo T L M R fun _ _ => 0 :=
  ⟨h.outer.congr fun k hk => by rw [if_pos hk], fun i hi => h.inner i (by omega), fun i j hi hj => h.inj i j (by omega) (by omega), fun i hi => h.low i (by omega)⟩
end Go.Proofs.YtomleengbnfikaaDoor
