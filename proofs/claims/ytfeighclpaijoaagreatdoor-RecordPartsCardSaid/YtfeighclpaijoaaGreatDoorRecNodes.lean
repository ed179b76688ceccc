/-
The walks of package record: nodes, the nodes that a step touches.
-/
import Derived.Test.YtfeighclpaijoaaGreatDoorRecDo
namespace Go.Proofs.YtfeighclpaijoaaGreatDoor
open Go.RowKit Go.Cl
attribute [local go_sem ↓] Go.wp_at_zero Go.wp_at_succ

/-- What nodes answers: a new row. -/
def NodesPost (w : World) (xs : List Int) (e : Ending) (w' : World) : Prop :=
  Below w.heap.size w w' ∧ ∃ k, w.heap.size ≤ k ∧ e = .returned (.slice (some ⟨k, 0, none⟩) xs.length xs.length) ∧ w'.heap[k]? = some (.cells (xs.map (Value.int .i64)).toArray 3 (0, 0))
set_option maxRecDepth 100000 in
set_option maxHeartbeats 2000000 in
theorem nodes1 (w : World) (s : Stp) (Aa : Option Addr) (na ca : Nat) (Ak : Option Addr) (nk ck : Nat) (hd : s.edit.do_ = 1) :
    Calls Tryz.prog 23 #[.agg (stpCells s Aa na ca Ak nk ck)] w (NodesPost w [s.edit.at_]) := by
  obtain ⟨w0, hw0⟩ : ∃ w0, w0 = w.alloc (.cells (stpCells s Aa na ca Ak nk ck) 48) := ⟨_, rfl⟩
  have hbx : w0.heap[w.heap.size]? = some (.cells (stpCells s Aa na ca Ak nk ck) 48 (0, 0)) := by rw [hw0]; exact heap_alloc_new w _
  have hb0 : Below w.heap.size w w0 := by rw [hw0]; exact (Below.refl _ _).alloc (Nat.le_refl _) _
  have hz0 : w0.heap.size = w.heap.size + 1 := by rw [hw0]; exact World.size_alloc w _
  have s0 : w0.cell? ⟨w.heap.size, 0, none⟩ = some (.int .i64 s.edit.do_) := cell_blk hbx rfl
  have s1 : w0.cell? ⟨w.heap.size, 1, none⟩ = some (.int .i64 s.edit.at_) := cell_blk hbx rfl
  rw [hd] at s0
  have HB0 := Lib.hid hb0
  have HZ0 := Lib.hid hz0
  unfold stpCells at hw0
  clear hbx hb0 hd hz0
  go_enter Tryz.func23, Tryz.ntmps23
  unfold stpCells
  go_upto_region 1 with fail
  rw [← hw0]
  clear hw0
  go_wp2_with fail
  go_ret
  exact ⟨HB0.out.alloc (by have := HZ0.out; omega) _, w0.heap.size, by have := HZ0.out; omega, rfl, heap_alloc_new w0 _⟩
set_option maxRecDepth 100000 in
set_option maxHeartbeats 2000000 in
theorem nodes2 (w : World) (s : Stp) (Aa : Option Addr) (na ca : Nat) (Ak : Option Addr) (nk ck : Nat) (hd : s.edit.do_ = 2) :
    Calls Tryz.prog 23 #[.agg (stpCells s Aa na ca Ak nk ck)] w (NodesPost w [s.edit.at_]) := by
  obtain ⟨w0, hw0⟩ : ∃ w0, w0 = w.alloc (.cells (stpCells s Aa na ca Ak nk ck) 48) := ⟨_, rfl⟩
  have hbx : w0.heap[w.heap.size]? = some (.cells (stpCells s Aa na ca Ak nk ck) 48 (0, 0)) := by rw [hw0]; exact heap_alloc_new w _
  have hb0 : Below w.heap.size w w0 := by rw [hw0]; exact (Below.refl _ _).alloc (Nat.le_refl _) _
  have hz0 : w0.heap.size = w.heap.size + 1 := by rw [hw0]; exact World.size_alloc w _
  have s0 : w0.cell? ⟨w.heap.size, 0, none⟩ = some (.int .i64 s.edit.do_) := cell_blk hbx rfl
  have s1 : w0.cell? ⟨w.heap.size, 1, none⟩ = some (.int .i64 s.edit.at_) := cell_blk hbx rfl
  rw [hd] at s0
  have HB0 := Lib.hid hb0
  have HZ0 := Lib.hid hz0
  unfold stpCells at hw0
  clear hbx hb0 hd hz0
  go_enter Tryz.func23, Tryz.ntmps23
  unfold stpCells
  go_upto_region 1 with fail
  rw [← hw0]
  clear hw0
  go_wp2_with fail
  go_ret
  exact ⟨HB0.out.alloc (by have := HZ0.out; omega) _, w0.heap.size, by have := HZ0.out; omega, rfl, heap_alloc_new w0 _⟩
set_option maxRecDepth 100000 in
set_option maxHeartbeats 2000000 in
theorem nodes3 (w : World) (s : Stp) (Aa : Option Addr) (na ca : Nat) (Ak : Option Addr) (nk ck : Nat) (hd : s.edit.do_ = 3) :
    Calls Tryz.prog 23 #[.agg (stpCells s Aa na ca Ak nk ck)] w (NodesPost w [s.edit.at_]) := by
  obtain ⟨w0, hw0⟩ : ∃ w0, w0 = w.alloc (.cells (stpCells s Aa na ca Ak nk ck) 48) := ⟨_, rfl⟩
  have hbx : w0.heap[w.heap.size]? = some (.cells (stpCells s Aa na ca Ak nk ck) 48 (0, 0)) := by rw [hw0]; exact heap_alloc_new w _
  have hb0 : Below w.heap.size w w0 := by rw [hw0]; exact (Below.refl _ _).alloc (Nat.le_refl _) _
  have hz0 : w0.heap.size = w.heap.size + 1 := by rw [hw0]; exact World.size_alloc w _
  have s0 : w0.cell? ⟨w.heap.size, 0, none⟩ = some (.int .i64 s.edit.do_) := cell_blk hbx rfl
  have s1 : w0.cell? ⟨w.heap.size, 1, none⟩ = some (.int .i64 s.edit.at_) := cell_blk hbx rfl
  rw [hd] at s0
  have HB0 := Lib.hid hb0
  have HZ0 := Lib.hid hz0
  unfold stpCells at hw0
  clear hbx hb0 hd hz0
  go_enter Tryz.func23, Tryz.ntmps23
  unfold stpCells
  go_upto_region 1 with fail
  rw [← hw0]
  clear hw0
  go_wp2_with fail
  go_ret
  exact ⟨HB0.out.alloc (by have := HZ0.out; omega) _, w0.heap.size, by have := HZ0.out; omega, rfl, heap_alloc_new w0 _⟩
set_option maxRecDepth 100000 in
set_option maxHeartbeats 2000000 in
theorem nodes5 (w : World) (s : Stp) (Aa : Option Addr) (na ca : Nat) (Ak : Option Addr) (nk ck : Nat) (hd : s.edit.do_ = 5) :
    Calls Tryz.prog 23 #[.agg (stpCells s Aa na ca Ak nk ck)] w (NodesPost w [s.edit.at_, s.edit.to_]) := by
  obtain ⟨w0, hw0⟩ : ∃ w0, w0 = w.alloc (.cells (stpCells s Aa na ca Ak nk ck) 48) := ⟨_, rfl⟩
  have hbx : w0.heap[w.heap.size]? = some (.cells (stpCells s Aa na ca Ak nk ck) 48 (0, 0)) := by rw [hw0]; exact heap_alloc_new w _
  have hb0 : Below w.heap.size w w0 := by rw [hw0]; exact (Below.refl _ _).alloc (Nat.le_refl _) _
  have hz0 : w0.heap.size = w.heap.size + 1 := by rw [hw0]; exact World.size_alloc w _
  have s0 : w0.cell? ⟨w.heap.size, 0, none⟩ = some (.int .i64 s.edit.do_) := cell_blk hbx rfl
  have s1 : w0.cell? ⟨w.heap.size, 1, none⟩ = some (.int .i64 s.edit.at_) := cell_blk hbx rfl
  have s2 : w0.cell? ⟨w.heap.size, 2, none⟩ = some (.int .i64 s.edit.to_) := cell_blk hbx rfl
  rw [hd] at s0
  have HB0 := Lib.hid hb0
  have HZ0 := Lib.hid hz0
  unfold stpCells at hw0
  clear hbx hb0 hd hz0
  go_enter Tryz.func23, Tryz.ntmps23
  unfold stpCells
  go_upto_region 1 with fail
  rw [← hw0]
  clear hw0
  go_wp2_with fail
  go_ret
  exact ⟨HB0.out.alloc (by have := HZ0.out; omega) _, w0.heap.size, by have := HZ0.out; omega, rfl, heap_alloc_new w0 _⟩
set_option maxRecDepth 100000 in
set_option maxHeartbeats 2000000 in
theorem nodes6 (w : World) (s : Stp) (Aa : Option Addr) (na ca : Nat) (Ak : Option Addr) (nk ck : Nat) (hd : s.edit.do_ = 6) :
    Calls Tryz.prog 23 #[.agg (stpCells s Aa na ca Ak nk ck)] w (NodesPost w [s.edit.at_, s.parent]) := by
  obtain ⟨w0, hw0⟩ : ∃ w0, w0 = w.alloc (.cells (stpCells s Aa na ca Ak nk ck) 48) := ⟨_, rfl⟩
  have hbx : w0.heap[w.heap.size]? = some (.cells (stpCells s Aa na ca Ak nk ck) 48 (0, 0)) := by rw [hw0]; exact heap_alloc_new w _
  have hb0 : Below w.heap.size w w0 := by rw [hw0]; exact (Below.refl _ _).alloc (Nat.le_refl _) _
  have hz0 : w0.heap.size = w.heap.size + 1 := by rw [hw0]; exact World.size_alloc w _
  have s0 : w0.cell? ⟨w.heap.size, 0, none⟩ = some (.int .i64 s.edit.do_) := cell_blk hbx rfl
  have s1 : w0.cell? ⟨w.heap.size, 1, none⟩ = some (.int .i64 s.edit.at_) := cell_blk hbx rfl
  have s14 : w0.cell? ⟨w.heap.size, 14, none⟩ = some (.int .i64 s.parent) := cell_blk hbx rfl
  rw [hd] at s0
  have HB0 := Lib.hid hb0
  have HZ0 := Lib.hid hz0
  unfold stpCells at hw0
  clear hbx hb0 hd hz0
  go_enter Tryz.func23, Tryz.ntmps23
  unfold stpCells
  go_upto_region 1 with fail
  rw [← hw0]
  clear hw0
  go_wp2_with fail
  go_ret
  exact ⟨HB0.out.alloc (by have := HZ0.out; omega) _, w0.heap.size, by have := HZ0.out; omega, rfl, heap_alloc_new w0 _⟩
set_option maxRecDepth 100000 in
set_option maxHeartbeats 2000000 in
theorem nodes4 (w : World) (s : Stp) (Aa : Option Addr) (na ca : Nat) (Ak : Option Addr) (nk ck : Nat) (hd : s.edit.do_ = 4) :
    Calls Tryz.prog 23 #[.agg (stpCells s Aa na ca Ak nk ck)] w (NodesPost w [s.place]) := by
  obtain ⟨w0, hw0⟩ : ∃ w0, w0 = w.alloc (.cells (stpCells s Aa na ca Ak nk ck) 48) := ⟨_, rfl⟩
  have hbx : w0.heap[w.heap.size]? = some (.cells (stpCells s Aa na ca Ak nk ck) 48 (0, 0)) := by rw [hw0]; exact heap_alloc_new w _
  have hb0 : Below w.heap.size w w0 := by rw [hw0]; exact (Below.refl _ _).alloc (Nat.le_refl _) _
  have hz0 : w0.heap.size = w.heap.size + 1 := by rw [hw0]; exact World.size_alloc w _
  have s0 : w0.cell? ⟨w.heap.size, 0, none⟩ = some (.int .i64 s.edit.do_) := cell_blk hbx rfl
  have s15 : w0.cell? ⟨w.heap.size, 15, none⟩ = some (.int .i64 s.place) := cell_blk hbx rfl
  rw [hd] at s0
  have HB0 := Lib.hid hb0
  have HZ0 := Lib.hid hz0
  unfold stpCells at hw0
  clear hbx hb0 hd hz0
  go_enter Tryz.func23, Tryz.ntmps23
  unfold stpCells
  go_upto_region 1 with fail
  rw [← hw0]
  clear hw0
  go_wp2_with fail
  go_ret
  exact ⟨HB0.out.alloc (by have := HZ0.out; omega) _, w0.heap.size, by have := HZ0.out; omega, rfl, heap_alloc_new w0 _⟩
theorem nodes_any (w : World) (s : Stp) (Aa : Option Addr) (na ca : Nat) (Ak : Option Addr) (nk ck : Nat) (h1 : 1 ≤ s.edit.do_) (h6 : s.edit.do_ ≤ 6) :
    Calls Tryz.prog 23 #[.agg (stpCells s Aa na ca Ak nk ck)] w (NodesPost w (nodesD s)) := by
  have hc : s.edit.do_ = 1 ∨ s.edit.do_ = 2 ∨ s.edit.do_ = 3 ∨ s.edit.do_ = 4 ∨ s.edit.do_ = 5 ∨ s.edit.do_ = 6 := by omega
  unfold nodesD
  rcases hc with hd | hd | hd | hd | hd | hd
  · rw [hd]; exact nodes1 w s Aa na ca Ak nk ck hd
  · rw [hd]; exact nodes2 w s Aa na ca Ak nk ck hd
  · rw [hd]; exact nodes3 w s Aa na ca Ak nk ck hd
  · rw [hd]; exact nodes4 w s Aa na ca Ak nk ck hd
  · rw [hd]; exact nodes5 w s Aa na ca Ak nk ck hd
  · rw [hd]; exact nodes6 w s Aa na ca Ak nk ck hd
end Go.Proofs.YtfeighclpaijoaaGreatDoor
