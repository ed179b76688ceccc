/-
The walks of package record's undoer: undone.
-/
import Derived.Test.YtfeighclpaijoaaGreatDoorUnText
namespace Go.Proofs.YtfeighclpaijoaaGreatDoor
open Go.RowKit Go.Cl
attribute [local go_sem ↓] Go.wp_at_zero Go.wp_at_succ

set_option maxRecDepth 100000 in
set_option maxHeartbeats 4000000 in
theorem undone1 (w : World) (E g c base : Nat) (l l' : List Nd) (q : Bool) (ps : List (Value × Value)) (s : Stp) (Aa : Option Addr) (na ca : Nat) (Ak : Option Addr) (nk ck : Nat) (h : UnAt w E g c base l q ps) (hd : s.edit.do_ = 1)
    (hC : ∀ w0, Below w.heap.size w w0 → Calls Tryz.prog 32 #[.pointer (some ⟨E, 0, none⟩), .agg (stpCells s Aa na ca Ak nk ck)] w0 (UnPost w0 E base q l')) :
    Calls Tryz.prog 18 #[.pointer (some ⟨E, 0, none⟩), .agg (stpCells s Aa na ca Ak nk ck)] w (UnPost w E base q l') := by
  obtain ⟨w0, hw0⟩ : ∃ w0, w0 = w.alloc (.cells (stpCells s Aa na ca Ak nk ck) 48) := ⟨_, rfl⟩
  have hbx : w0.heap[w.heap.size]? = some (.cells (stpCells s Aa na ca Ak nk ck) 48 (0, 0)) := by rw [hw0]; exact heap_alloc_new w _
  have hb0 : Below w.heap.size w w0 := by rw [hw0]; exact (Below.refl _ _).alloc (Nat.le_refl _) _
  have HBE : Hid (base ≤ w.heap.size) := Nat.le_trans h.le (Nat.le_of_lt h.lt)
  have HC := Lib.hid (hC w0 hb0)
  have s0 : w0.cell? ⟨w.heap.size, 0, none⟩ = some (.int .i64 s.edit.do_) := cell_blk hbx rfl
  have s1 : w0.cell? ⟨w.heap.size, 1, none⟩ = some (.int .i64 s.edit.at_) := cell_blk hbx rfl
  have s2 : w0.cell? ⟨w.heap.size, 2, none⟩ = some (.int .i64 s.edit.to_) := cell_blk hbx rfl
  have s3 : w0.cell? ⟨w.heap.size, 3, none⟩ = some (.int .i64 s.edit.before) := cell_blk hbx rfl
  have s4 : w0.cell? ⟨w.heap.size, 4, none⟩ = some (.string s.edit.name) := cell_blk hbx rfl
  have s5 : w0.cell? ⟨w.heap.size, 5, none⟩ = some (.string s.edit.value) := cell_blk hbx rfl
  have s6 : w0.cell? ⟨w.heap.size, 6, none⟩ = some (.int .i64 s.edit.node.kind) := cell_blk hbx rfl
  have s7 : w0.cell? ⟨w.heap.size, 7, none⟩ = some (.string s.edit.node.name) := cell_blk hbx rfl
  have s8 : w0.cell? ⟨w.heap.size, 8, none⟩ = some (.slice Aa na ca) := cell_blk hbx rfl
  have s9 : w0.cell? ⟨w.heap.size, 9, none⟩ = some (.string s.edit.node.text) := cell_blk hbx rfl
  have s10 : w0.cell? ⟨w.heap.size, 10, none⟩ = some (.int .i64 s.edit.node.parent) := cell_blk hbx rfl
  have s11 : w0.cell? ⟨w.heap.size, 11, none⟩ = some (.slice Ak nk ck) := cell_blk hbx rfl
  have s12 : w0.cell? ⟨w.heap.size, 12, none⟩ = some (.bool s.had) := cell_blk hbx rfl
  have s13 : w0.cell? ⟨w.heap.size, 13, none⟩ = some (.string s.was) := cell_blk hbx rfl
  have s14 : w0.cell? ⟨w.heap.size, 14, none⟩ = some (.int .i64 s.parent) := cell_blk hbx rfl
  have s15 : w0.cell? ⟨w.heap.size, 15, none⟩ = some (.int .i64 s.place) := cell_blk hbx rfl
  rw [hd] at s0
  have HB0 := Lib.hid hb0
  unfold stpCells at hw0 HC
  rw [hd] at hw0 HC
  clear hbx hb0 hC h
  go_enter Tryz.func18, Tryz.ntmps18
  unfold stpCells
  rw [hd]
  go_upto_region 1 with fail
  rw [← hw0]
  clear hw0 hd
  go_wp2_with (go_at_call 32; refine HC.out.mono ?_; rintro e' w1 ⟨rfl, hb1, hx1⟩; have HB1 := Lib.hid hb1; have HX1 := Lib.hid hx1; clear hb1 hx1)
  refine bodyPost_ret (v := .bool true) (by simp [results, Tryz.results18, go_sem]) rfl ⟨rfl, ⟨(HB0.out.mono HBE.out).trans HB1.out.1, (Leaves.below HB0.out).trans HB1.out.2⟩, HX1.out⟩
set_option maxRecDepth 100000 in
set_option maxHeartbeats 4000000 in
theorem undone2 (w : World) (E g c base : Nat) (l l' : List Nd) (q : Bool) (ps : List (Value × Value)) (s : Stp) (Aa : Option Addr) (na ca : Nat) (Ak : Option Addr) (nk ck : Nat) (h : UnAt w E g c base l q ps) (hd : s.edit.do_ = 2)
    (hC : ∀ w0, Below w.heap.size w w0 → Calls Tryz.prog 33 #[.pointer (some ⟨E, 0, none⟩), .agg (stpCells s Aa na ca Ak nk ck)] w0 (UnPost w0 E base q l')) :
    Calls Tryz.prog 18 #[.pointer (some ⟨E, 0, none⟩), .agg (stpCells s Aa na ca Ak nk ck)] w (UnPost w E base q l') := by
  obtain ⟨w0, hw0⟩ : ∃ w0, w0 = w.alloc (.cells (stpCells s Aa na ca Ak nk ck) 48) := ⟨_, rfl⟩
  have hbx : w0.heap[w.heap.size]? = some (.cells (stpCells s Aa na ca Ak nk ck) 48 (0, 0)) := by rw [hw0]; exact heap_alloc_new w _
  have hb0 : Below w.heap.size w w0 := by rw [hw0]; exact (Below.refl _ _).alloc (Nat.le_refl _) _
  have HBE : Hid (base ≤ w.heap.size) := Nat.le_trans h.le (Nat.le_of_lt h.lt)
  have HC := Lib.hid (hC w0 hb0)
  have s0 : w0.cell? ⟨w.heap.size, 0, none⟩ = some (.int .i64 s.edit.do_) := cell_blk hbx rfl
  have s1 : w0.cell? ⟨w.heap.size, 1, none⟩ = some (.int .i64 s.edit.at_) := cell_blk hbx rfl
  have s2 : w0.cell? ⟨w.heap.size, 2, none⟩ = some (.int .i64 s.edit.to_) := cell_blk hbx rfl
  have s3 : w0.cell? ⟨w.heap.size, 3, none⟩ = some (.int .i64 s.edit.before) := cell_blk hbx rfl
  have s4 : w0.cell? ⟨w.heap.size, 4, none⟩ = some (.string s.edit.name) := cell_blk hbx rfl
  have s5 : w0.cell? ⟨w.heap.size, 5, none⟩ = some (.string s.edit.value) := cell_blk hbx rfl
  have s6 : w0.cell? ⟨w.heap.size, 6, none⟩ = some (.int .i64 s.edit.node.kind) := cell_blk hbx rfl
  have s7 : w0.cell? ⟨w.heap.size, 7, none⟩ = some (.string s.edit.node.name) := cell_blk hbx rfl
  have s8 : w0.cell? ⟨w.heap.size, 8, none⟩ = some (.slice Aa na ca) := cell_blk hbx rfl
  have s9 : w0.cell? ⟨w.heap.size, 9, none⟩ = some (.string s.edit.node.text) := cell_blk hbx rfl
  have s10 : w0.cell? ⟨w.heap.size, 10, none⟩ = some (.int .i64 s.edit.node.parent) := cell_blk hbx rfl
  have s11 : w0.cell? ⟨w.heap.size, 11, none⟩ = some (.slice Ak nk ck) := cell_blk hbx rfl
  have s12 : w0.cell? ⟨w.heap.size, 12, none⟩ = some (.bool s.had) := cell_blk hbx rfl
  have s13 : w0.cell? ⟨w.heap.size, 13, none⟩ = some (.string s.was) := cell_blk hbx rfl
  have s14 : w0.cell? ⟨w.heap.size, 14, none⟩ = some (.int .i64 s.parent) := cell_blk hbx rfl
  have s15 : w0.cell? ⟨w.heap.size, 15, none⟩ = some (.int .i64 s.place) := cell_blk hbx rfl
  rw [hd] at s0
  have HB0 := Lib.hid hb0
  unfold stpCells at hw0 HC
  rw [hd] at hw0 HC
  clear hbx hb0 hC h
  go_enter Tryz.func18, Tryz.ntmps18
  unfold stpCells
  rw [hd]
  go_upto_region 1 with fail
  rw [← hw0]
  clear hw0 hd
  go_wp2_with (go_at_call 33; refine HC.out.mono ?_; rintro e' w1 ⟨rfl, hb1, hx1⟩; have HB1 := Lib.hid hb1; have HX1 := Lib.hid hx1; clear hb1 hx1)
  refine bodyPost_ret (v := .bool true) (by simp [results, Tryz.results18, go_sem]) rfl ⟨rfl, ⟨(HB0.out.mono HBE.out).trans HB1.out.1, (Leaves.below HB0.out).trans HB1.out.2⟩, HX1.out⟩
set_option maxRecDepth 100000 in
set_option maxHeartbeats 4000000 in
theorem undone3 (w : World) (E g c base : Nat) (l l' : List Nd) (q : Bool) (ps : List (Value × Value)) (s : Stp) (Aa : Option Addr) (na ca : Nat) (Ak : Option Addr) (nk ck : Nat) (h : UnAt w E g c base l q ps) (hd : s.edit.do_ = 3)
    (hC : ∀ w0, Below w.heap.size w w0 → Calls Tryz.prog 34 #[.pointer (some ⟨E, 0, none⟩), .agg (stpCells s Aa na ca Ak nk ck)] w0 (UnPost w0 E base q l')) :
    Calls Tryz.prog 18 #[.pointer (some ⟨E, 0, none⟩), .agg (stpCells s Aa na ca Ak nk ck)] w (UnPost w E base q l') := by
  obtain ⟨w0, hw0⟩ : ∃ w0, w0 = w.alloc (.cells (stpCells s Aa na ca Ak nk ck) 48) := ⟨_, rfl⟩
  have hbx : w0.heap[w.heap.size]? = some (.cells (stpCells s Aa na ca Ak nk ck) 48 (0, 0)) := by rw [hw0]; exact heap_alloc_new w _
  have hb0 : Below w.heap.size w w0 := by rw [hw0]; exact (Below.refl _ _).alloc (Nat.le_refl _) _
  have HBE : Hid (base ≤ w.heap.size) := Nat.le_trans h.le (Nat.le_of_lt h.lt)
  have HC := Lib.hid (hC w0 hb0)
  have s0 : w0.cell? ⟨w.heap.size, 0, none⟩ = some (.int .i64 s.edit.do_) := cell_blk hbx rfl
  have s1 : w0.cell? ⟨w.heap.size, 1, none⟩ = some (.int .i64 s.edit.at_) := cell_blk hbx rfl
  have s2 : w0.cell? ⟨w.heap.size, 2, none⟩ = some (.int .i64 s.edit.to_) := cell_blk hbx rfl
  have s3 : w0.cell? ⟨w.heap.size, 3, none⟩ = some (.int .i64 s.edit.before) := cell_blk hbx rfl
  have s4 : w0.cell? ⟨w.heap.size, 4, none⟩ = some (.string s.edit.name) := cell_blk hbx rfl
  have s5 : w0.cell? ⟨w.heap.size, 5, none⟩ = some (.string s.edit.value) := cell_blk hbx rfl
  have s6 : w0.cell? ⟨w.heap.size, 6, none⟩ = some (.int .i64 s.edit.node.kind) := cell_blk hbx rfl
  have s7 : w0.cell? ⟨w.heap.size, 7, none⟩ = some (.string s.edit.node.name) := cell_blk hbx rfl
  have s8 : w0.cell? ⟨w.heap.size, 8, none⟩ = some (.slice Aa na ca) := cell_blk hbx rfl
  have s9 : w0.cell? ⟨w.heap.size, 9, none⟩ = some (.string s.edit.node.text) := cell_blk hbx rfl
  have s10 : w0.cell? ⟨w.heap.size, 10, none⟩ = some (.int .i64 s.edit.node.parent) := cell_blk hbx rfl
  have s11 : w0.cell? ⟨w.heap.size, 11, none⟩ = some (.slice Ak nk ck) := cell_blk hbx rfl
  have s12 : w0.cell? ⟨w.heap.size, 12, none⟩ = some (.bool s.had) := cell_blk hbx rfl
  have s13 : w0.cell? ⟨w.heap.size, 13, none⟩ = some (.string s.was) := cell_blk hbx rfl
  have s14 : w0.cell? ⟨w.heap.size, 14, none⟩ = some (.int .i64 s.parent) := cell_blk hbx rfl
  have s15 : w0.cell? ⟨w.heap.size, 15, none⟩ = some (.int .i64 s.place) := cell_blk hbx rfl
  rw [hd] at s0
  have HB0 := Lib.hid hb0
  unfold stpCells at hw0 HC
  rw [hd] at hw0 HC
  clear hbx hb0 hC h
  go_enter Tryz.func18, Tryz.ntmps18
  unfold stpCells
  rw [hd]
  go_upto_region 1 with fail
  rw [← hw0]
  clear hw0 hd
  go_wp2_with (go_at_call 34; refine HC.out.mono ?_; rintro e' w1 ⟨rfl, hb1, hx1⟩; have HB1 := Lib.hid hb1; have HX1 := Lib.hid hx1; clear hb1 hx1)
  refine bodyPost_ret (v := .bool true) (by simp [results, Tryz.results18, go_sem]) rfl ⟨rfl, ⟨(HB0.out.mono HBE.out).trans HB1.out.1, (Leaves.below HB0.out).trans HB1.out.2⟩, HX1.out⟩
set_option maxRecDepth 100000 in
set_option maxHeartbeats 4000000 in
theorem undone4 (w : World) (E g c base : Nat) (l l' : List Nd) (q : Bool) (ps : List (Value × Value)) (s : Stp) (Aa : Option Addr) (na ca : Nat) (Ak : Option Addr) (nk ck : Nat) (h : UnAt w E g c base l q ps) (hd : s.edit.do_ = 4)
    (hC : ∀ w0, Below w.heap.size w w0 → Calls Tryz.prog 35 #[.pointer (some ⟨E, 0, none⟩), .agg (stpCells s Aa na ca Ak nk ck)] w0 (UnPost w0 E base q l')) :
    Calls Tryz.prog 18 #[.pointer (some ⟨E, 0, none⟩), .agg (stpCells s Aa na ca Ak nk ck)] w (UnPost w E base q l') := by
  obtain ⟨w0, hw0⟩ : ∃ w0, w0 = w.alloc (.cells (stpCells s Aa na ca Ak nk ck) 48) := ⟨_, rfl⟩
  have hbx : w0.heap[w.heap.size]? = some (.cells (stpCells s Aa na ca Ak nk ck) 48 (0, 0)) := by rw [hw0]; exact heap_alloc_new w _
  have hb0 : Below w.heap.size w w0 := by rw [hw0]; exact (Below.refl _ _).alloc (Nat.le_refl _) _
  have HBE : Hid (base ≤ w.heap.size) := Nat.le_trans h.le (Nat.le_of_lt h.lt)
  have HC := Lib.hid (hC w0 hb0)
  have s0 : w0.cell? ⟨w.heap.size, 0, none⟩ = some (.int .i64 s.edit.do_) := cell_blk hbx rfl
  have s1 : w0.cell? ⟨w.heap.size, 1, none⟩ = some (.int .i64 s.edit.at_) := cell_blk hbx rfl
  have s2 : w0.cell? ⟨w.heap.size, 2, none⟩ = some (.int .i64 s.edit.to_) := cell_blk hbx rfl
  have s3 : w0.cell? ⟨w.heap.size, 3, none⟩ = some (.int .i64 s.edit.before) := cell_blk hbx rfl
  have s4 : w0.cell? ⟨w.heap.size, 4, none⟩ = some (.string s.edit.name) := cell_blk hbx rfl
  have s5 : w0.cell? ⟨w.heap.size, 5, none⟩ = some (.string s.edit.value) := cell_blk hbx rfl
  have s6 : w0.cell? ⟨w.heap.size, 6, none⟩ = some (.int .i64 s.edit.node.kind) := cell_blk hbx rfl
  have s7 : w0.cell? ⟨w.heap.size, 7, none⟩ = some (.string s.edit.node.name) := cell_blk hbx rfl
  have s8 : w0.cell? ⟨w.heap.size, 8, none⟩ = some (.slice Aa na ca) := cell_blk hbx rfl
  have s9 : w0.cell? ⟨w.heap.size, 9, none⟩ = some (.string s.edit.node.text) := cell_blk hbx rfl
  have s10 : w0.cell? ⟨w.heap.size, 10, none⟩ = some (.int .i64 s.edit.node.parent) := cell_blk hbx rfl
  have s11 : w0.cell? ⟨w.heap.size, 11, none⟩ = some (.slice Ak nk ck) := cell_blk hbx rfl
  have s12 : w0.cell? ⟨w.heap.size, 12, none⟩ = some (.bool s.had) := cell_blk hbx rfl
  have s13 : w0.cell? ⟨w.heap.size, 13, none⟩ = some (.string s.was) := cell_blk hbx rfl
  have s14 : w0.cell? ⟨w.heap.size, 14, none⟩ = some (.int .i64 s.parent) := cell_blk hbx rfl
  have s15 : w0.cell? ⟨w.heap.size, 15, none⟩ = some (.int .i64 s.place) := cell_blk hbx rfl
  rw [hd] at s0
  have HB0 := Lib.hid hb0
  unfold stpCells at hw0 HC
  rw [hd] at hw0 HC
  clear hbx hb0 hC h
  go_enter Tryz.func18, Tryz.ntmps18
  unfold stpCells
  rw [hd]
  go_upto_region 1 with fail
  rw [← hw0]
  clear hw0 hd
  go_wp2_with (go_at_call 35; refine HC.out.mono ?_; rintro e' w1 ⟨rfl, hb1, hx1⟩; have HB1 := Lib.hid hb1; have HX1 := Lib.hid hx1; clear hb1 hx1)
  refine bodyPost_ret (v := .bool true) (by simp [results, Tryz.results18, go_sem]) rfl ⟨rfl, ⟨(HB0.out.mono HBE.out).trans HB1.out.1, (Leaves.below HB0.out).trans HB1.out.2⟩, HX1.out⟩
set_option maxRecDepth 100000 in
set_option maxHeartbeats 4000000 in
theorem undone5 (w : World) (E g c base : Nat) (l l' : List Nd) (q : Bool) (ps : List (Value × Value)) (s : Stp) (Aa : Option Addr) (na ca : Nat) (Ak : Option Addr) (nk ck : Nat) (h : UnAt w E g c base l q ps) (hd : s.edit.do_ = 5)
    (hC : ∀ w0, Below w.heap.size w w0 → Calls Tryz.prog 36 #[.pointer (some ⟨E, 0, none⟩), .agg (stpCells s Aa na ca Ak nk ck)] w0 (UnPost w0 E base q l')) :
    Calls Tryz.prog 18 #[.pointer (some ⟨E, 0, none⟩), .agg (stpCells s Aa na ca Ak nk ck)] w (UnPost w E base q l') := by
  obtain ⟨w0, hw0⟩ : ∃ w0, w0 = w.alloc (.cells (stpCells s Aa na ca Ak nk ck) 48) := ⟨_, rfl⟩
  have hbx : w0.heap[w.heap.size]? = some (.cells (stpCells s Aa na ca Ak nk ck) 48 (0, 0)) := by rw [hw0]; exact heap_alloc_new w _
  have hb0 : Below w.heap.size w w0 := by rw [hw0]; exact (Below.refl _ _).alloc (Nat.le_refl _) _
  have HBE : Hid (base ≤ w.heap.size) := Nat.le_trans h.le (Nat.le_of_lt h.lt)
  have HC := Lib.hid (hC w0 hb0)
  have s0 : w0.cell? ⟨w.heap.size, 0, none⟩ = some (.int .i64 s.edit.do_) := cell_blk hbx rfl
  have s1 : w0.cell? ⟨w.heap.size, 1, none⟩ = some (.int .i64 s.edit.at_) := cell_blk hbx rfl
  have s2 : w0.cell? ⟨w.heap.size, 2, none⟩ = some (.int .i64 s.edit.to_) := cell_blk hbx rfl
  have s3 : w0.cell? ⟨w.heap.size, 3, none⟩ = some (.int .i64 s.edit.before) := cell_blk hbx rfl
  have s4 : w0.cell? ⟨w.heap.size, 4, none⟩ = some (.string s.edit.name) := cell_blk hbx rfl
  have s5 : w0.cell? ⟨w.heap.size, 5, none⟩ = some (.string s.edit.value) := cell_blk hbx rfl
  have s6 : w0.cell? ⟨w.heap.size, 6, none⟩ = some (.int .i64 s.edit.node.kind) := cell_blk hbx rfl
  have s7 : w0.cell? ⟨w.heap.size, 7, none⟩ = some (.string s.edit.node.name) := cell_blk hbx rfl
  have s8 : w0.cell? ⟨w.heap.size, 8, none⟩ = some (.slice Aa na ca) := cell_blk hbx rfl
  have s9 : w0.cell? ⟨w.heap.size, 9, none⟩ = some (.string s.edit.node.text) := cell_blk hbx rfl
  have s10 : w0.cell? ⟨w.heap.size, 10, none⟩ = some (.int .i64 s.edit.node.parent) := cell_blk hbx rfl
  have s11 : w0.cell? ⟨w.heap.size, 11, none⟩ = some (.slice Ak nk ck) := cell_blk hbx rfl
  have s12 : w0.cell? ⟨w.heap.size, 12, none⟩ = some (.bool s.had) := cell_blk hbx rfl
  have s13 : w0.cell? ⟨w.heap.size, 13, none⟩ = some (.string s.was) := cell_blk hbx rfl
  have s14 : w0.cell? ⟨w.heap.size, 14, none⟩ = some (.int .i64 s.parent) := cell_blk hbx rfl
  have s15 : w0.cell? ⟨w.heap.size, 15, none⟩ = some (.int .i64 s.place) := cell_blk hbx rfl
  rw [hd] at s0
  have HB0 := Lib.hid hb0
  unfold stpCells at hw0 HC
  rw [hd] at hw0 HC
  clear hbx hb0 hC h
  go_enter Tryz.func18, Tryz.ntmps18
  unfold stpCells
  rw [hd]
  go_upto_region 1 with fail
  rw [← hw0]
  clear hw0 hd
  go_wp2_with (go_at_call 36; refine HC.out.mono ?_; rintro e' w1 ⟨rfl, hb1, hx1⟩; have HB1 := Lib.hid hb1; have HX1 := Lib.hid hx1; clear hb1 hx1)
  refine bodyPost_ret (v := .bool true) (by simp [results, Tryz.results18, go_sem]) rfl ⟨rfl, ⟨(HB0.out.mono HBE.out).trans HB1.out.1, (Leaves.below HB0.out).trans HB1.out.2⟩, HX1.out⟩
set_option maxRecDepth 100000 in
set_option maxHeartbeats 4000000 in
theorem undone6 (w : World) (E g c base : Nat) (l l' : List Nd) (q : Bool) (ps : List (Value × Value)) (s : Stp) (Aa : Option Addr) (na ca : Nat) (Ak : Option Addr) (nk ck : Nat) (h : UnAt w E g c base l q ps) (hd : s.edit.do_ = 6)
    (hC : ∀ w0, Below w.heap.size w w0 → Calls Tryz.prog 37 #[.pointer (some ⟨E, 0, none⟩), .agg (stpCells s Aa na ca Ak nk ck)] w0 (UnPost w0 E base q l')) :
    Calls Tryz.prog 18 #[.pointer (some ⟨E, 0, none⟩), .agg (stpCells s Aa na ca Ak nk ck)] w (UnPost w E base q l') := by
  obtain ⟨w0, hw0⟩ : ∃ w0, w0 = w.alloc (.cells (stpCells s Aa na ca Ak nk ck) 48) := ⟨_, rfl⟩
  have hbx : w0.heap[w.heap.size]? = some (.cells (stpCells s Aa na ca Ak nk ck) 48 (0, 0)) := by rw [hw0]; exact heap_alloc_new w _
  have hb0 : Below w.heap.size w w0 := by rw [hw0]; exact (Below.refl _ _).alloc (Nat.le_refl _) _
  have HBE : Hid (base ≤ w.heap.size) := Nat.le_trans h.le (Nat.le_of_lt h.lt)
  have HC := Lib.hid (hC w0 hb0)
  have s0 : w0.cell? ⟨w.heap.size, 0, none⟩ = some (.int .i64 s.edit.do_) := cell_blk hbx rfl
  have s1 : w0.cell? ⟨w.heap.size, 1, none⟩ = some (.int .i64 s.edit.at_) := cell_blk hbx rfl
  have s2 : w0.cell? ⟨w.heap.size, 2, none⟩ = some (.int .i64 s.edit.to_) := cell_blk hbx rfl
  have s3 : w0.cell? ⟨w.heap.size, 3, none⟩ = some (.int .i64 s.edit.before) := cell_blk hbx rfl
  have s4 : w0.cell? ⟨w.heap.size, 4, none⟩ = some (.string s.edit.name) := cell_blk hbx rfl
  have s5 : w0.cell? ⟨w.heap.size, 5, none⟩ = some (.string s.edit.value) := cell_blk hbx rfl
  have s6 : w0.cell? ⟨w.heap.size, 6, none⟩ = some (.int .i64 s.edit.node.kind) := cell_blk hbx rfl
  have s7 : w0.cell? ⟨w.heap.size, 7, none⟩ = some (.string s.edit.node.name) := cell_blk hbx rfl
  have s8 : w0.cell? ⟨w.heap.size, 8, none⟩ = some (.slice Aa na ca) := cell_blk hbx rfl
  have s9 : w0.cell? ⟨w.heap.size, 9, none⟩ = some (.string s.edit.node.text) := cell_blk hbx rfl
  have s10 : w0.cell? ⟨w.heap.size, 10, none⟩ = some (.int .i64 s.edit.node.parent) := cell_blk hbx rfl
  have s11 : w0.cell? ⟨w.heap.size, 11, none⟩ = some (.slice Ak nk ck) := cell_blk hbx rfl
  have s12 : w0.cell? ⟨w.heap.size, 12, none⟩ = some (.bool s.had) := cell_blk hbx rfl
  have s13 : w0.cell? ⟨w.heap.size, 13, none⟩ = some (.string s.was) := cell_blk hbx rfl
  have s14 : w0.cell? ⟨w.heap.size, 14, none⟩ = some (.int .i64 s.parent) := cell_blk hbx rfl
  have s15 : w0.cell? ⟨w.heap.size, 15, none⟩ = some (.int .i64 s.place) := cell_blk hbx rfl
  rw [hd] at s0
  have HB0 := Lib.hid hb0
  unfold stpCells at hw0 HC
  rw [hd] at hw0 HC
  clear hbx hb0 hC h
  go_enter Tryz.func18, Tryz.ntmps18
  unfold stpCells
  rw [hd]
  go_upto_region 1 with fail
  rw [← hw0]
  clear hw0 hd
  go_wp2_with (go_at_call 37; refine HC.out.mono ?_; rintro e' w1 ⟨rfl, hb1, hx1⟩; have HB1 := Lib.hid hb1; have HX1 := Lib.hid hx1; clear hb1 hx1)
  refine bodyPost_ret (v := .bool true) (by simp [results, Tryz.results18, go_sem]) rfl ⟨rfl, ⟨(HB0.out.mono HBE.out).trans HB1.out.1, (Leaves.below HB0.out).trans HB1.out.2⟩, HX1.out⟩
end Go.Proofs.YtfeighclpaijoaaGreatDoor
