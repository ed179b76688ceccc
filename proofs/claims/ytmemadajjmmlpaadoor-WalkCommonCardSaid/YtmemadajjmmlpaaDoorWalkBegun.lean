/-
The walks of the laws' helpers: few, walkBegun.
-/
import Derived.Test.YtmemadajjmmlpaaDoorWalkBefore
namespace Go.Proofs.YtmemadajjmmlpaaDoor
open Go.RowKit Go.Cl
attribute [local go_sem ↓] Go.wp_at_zero Go.wp_at_succ

set_option maxRecDepth 100000 in
theorem few_any (A : Option Addr) (n c k : Nat) (q : Bool) (m : Int) (w : World) (hk : min (n : Int) m = (k : Int)) (hkc : k ≤ c) :
    Calls Tryd.prog 12 #[.agg #[.slice A n c, .bool q], .int .i64 m] w fun e w' => e = .returned (.agg #[.slice A k c, .bool q]) ∧ Below w.heap.size w w' := by
  go_enter Tryd.func12, Tryd.ntmps12
  go_wp2_with fail
  refine bodyPost_ret (v := .agg #[.slice A k c, .bool q]) (by simp [results, Tryd.results12, go_sem]) rfl ⟨rfl, ?_⟩
  exact ((Below.refl _ _).alloc (Nat.le_refl _) _).alloc (by simp) _
/-- The document of walkBegun. -/
def d0 : List Nd := [⟨1, ⟨#[]⟩, [], ⟨#[]⟩, -1, [1, 2]⟩, ⟨4, ⟨#[]⟩, [], ⟨#[]⟩, 0, []⟩, ⟨5, ⟨#[]⟩, [], ⟨#[]⟩, 0, []⟩]
theorem d0_step : stepS d0 1 3 = (2, true, 0) := by decide +kernel
theorem d0_bef : beforeS d0 1 2 = (true, 0) := by decide +kernel
theorem d0_row {w : World} {B b : Nat} (h : Sl (tInt .i64) w (lt B) (some ⟨b, 0, none⟩) 2 2 [1, 2]) :
    Row tNd w (lt B) d0 [.int .i64 1, .string ⟨#[]⟩, .slice none 0 0, .string ⟨#[]⟩, .int .i64 (-1), .slice (some ⟨b, 0, none⟩) 2 2, .int .i64 4, .string ⟨#[]⟩, .slice none 0 0, .string ⟨#[]⟩, .int .i64 0, .slice none 0 0, .int .i64 5, .string ⟨#[]⟩, .slice none 0 0, .string ⟨#[]⟩, .int .i64 0, .slice none 0 0] :=
  ⟨ndCells ⟨1, ⟨#[]⟩, [], ⟨#[]⟩, -1, [1, 2]⟩ none 0 0 (some ⟨b, 0, none⟩) 2 2, _, rfl, nd_rep ⟨Sl.nil, h, by decide, by decide, by decide, by decide⟩,
    ndCells ⟨4, ⟨#[]⟩, [], ⟨#[]⟩, 0, []⟩ none 0 0 none 0 0, _, rfl, nd_rep ⟨Sl.nil, Sl.nil, by decide, by decide, by decide, by decide⟩,
    ndCells ⟨5, ⟨#[]⟩, [], ⟨#[]⟩, 0, []⟩ none 0 0 none 0 0, _, rfl, nd_rep ⟨Sl.nil, Sl.nil, by decide, by decide, by decide, by decide⟩, rfl⟩
set_option maxRecDepth 100000 in
set_option maxHeartbeats 4000000 in
theorem walkBegun_any (w : World) :
    Calls Tryd.prog 14 #[] w fun e w' => e = .returned (.bool true) ∧ Below w.heap.size w w' := by
  obtain ⟨w1, hw1⟩ : ∃ w1, w1 = w.alloc (.cells #[.int .i64 1, .int .i64 2] 3) := ⟨_, rfl⟩
  have hz1 : w1.heap.size = w.heap.size + 1 := by rw [hw1]; exact World.size_alloc w _
  have h12 : Sl (tInt .i64) w1 (lt (w.heap.size + 1)) (some ⟨w.heap.size, 0, none⟩) 2 2 [1, 2] := by rw [hw1]; exact ints_two (by decide) (by decide)
  have hb1 : Below w.heap.size w w1 := by rw [hw1]; exact (Below.refl _ _).alloc (Nat.le_refl _) _
  obtain ⟨w2, hw2⟩ : ∃ w2, w2 = w1.alloc (.cells #[.int .i64 1, .string ⟨#[]⟩, .slice none 0 0, .string ⟨#[]⟩, .int .i64 (-1), .slice (some ⟨w.heap.size, 0, none⟩) 2 2, .int .i64 4, .string ⟨#[]⟩, .slice none 0 0, .string ⟨#[]⟩, .int .i64 0, .slice none 0 0, .int .i64 5, .string ⟨#[]⟩, .slice none 0 0, .string ⟨#[]⟩, .int .i64 0, .slice none 0 0] 35) := ⟨_, rfl⟩
  have hz2 : w2.heap.size = w.heap.size + 2 := by rw [hw2, World.size_alloc, hz1]
  have hd : Sl tNd w2 (lt (w.heap.size + 2)) (some ⟨w.heap.size + 1, 0, none⟩) 3 3 d0 := by
    have := Sl.fresh (n := 3) 35 (d0_row h12) (by omega) rfl (by decide)
    rw [hz1] at this
    rw [hw2]
    exact this
  have hb2 : Below w.heap.size w w2 := by rw [hw2]; exact hb1.alloc (by omega) _
  obtain ⟨w3, hw3⟩ : ∃ w3, w3 = w2.alloc (.cells #[.slice (some ⟨w.heap.size + 1, 0, none⟩) 3 3, .bool false] 24) := ⟨_, rfl⟩
  have hbx : w3.heap[w.heap.size + 1 + 1]? = some (.cells #[.slice (some ⟨w.heap.size + 1, 0, none⟩) 3 3, .bool false] 24 (0, 0)) := by
    rw [hw3, show w.heap.size + 1 + 1 = w2.heap.size from hz2.symm]
    exact heap_alloc_new w2 _
  have y0 : w3.cell? ⟨w.heap.size + 1 + 1, 0, none⟩ = some (.slice (some ⟨w.heap.size + 1, 0, none⟩) 3 3) := cell_blk hbx rfl
  have y1 : w3.cell? ⟨w.heap.size + 1 + 1, 1, none⟩ = some (.bool false) := cell_blk hbx rfl
  have hb3 : Below w.heap.size w w3 := by rw [hw3]; exact hb2.alloc (by omega) _
  have hz3 : w3.heap.size = w.heap.size + 3 := by rw [hw3, World.size_alloc, hz2]
  have hd3 : Sl tNd w3 (lt (w.heap.size + 2)) (some ⟨w.heap.size + 1, 0, none⟩) 3 3 d0 := by rw [hw3]; exact hd.al (by omega) _
  have HS := Lib.hid (stepS_any (some ⟨w.heap.size + 1, 0, none⟩) 3 3 d0 false 1 3 w3 (w.heap.size + 2) hd3 (by omega) (by decide))
  rw [d0_step] at HS
  have HB3 := Lib.hid hb3
  have HBX := Lib.hid hbx
  have HD3 := Lib.hid hd3
  have HZ3 := Lib.hid hz3
  go_enter Tryd.func14, Tryd.ntmps14
  go_upto_region 2 with fail
  rw [← hw1, ← hw2, ← hw3]
  clear hw1 hw2 hw3 h12 hd hb1 hb2 hb3 hbx hd3 hz1 hz2 hz3
  go_upto_region 3 with (go_at_call 39; refine HS.out.mono ?_; rintro e w4 ⟨rfl, hb4⟩)
  have hbx4 : w4.heap[w.heap.size + 1 + 1]? = some (.cells #[.slice (some ⟨w.heap.size + 1, 0, none⟩) 3 3, .bool false] 24 (0, 0)) := (hb4.block _ (by have := HZ3.out; omega)).trans HBX.out
  have z0 : w4.cell? ⟨w.heap.size + 1 + 1, 0, none⟩ = some (.slice (some ⟨w.heap.size + 1, 0, none⟩) 3 3) := cell_blk hbx4 rfl
  have z1 : w4.cell? ⟨w.heap.size + 1 + 1, 1, none⟩ = some (.bool false) := cell_blk hbx4 rfl
  have HBE := Lib.hid (before_any (some ⟨w.heap.size + 1, 0, none⟩) 3 3 d0 false 1 2 w4 (w.heap.size + 2) (HD3.out.below hb4 (by have := HZ3.out; omega)) (by have := HZ3.out; have := hb4.size; omega) (by decide) (by decide))
  rw [d0_bef] at HBE
  have HB4 := Lib.hid (HB3.out.trans (hb4.mono (by have := HZ3.out; omega)))
  clear y0 y1 hbx4 hb4
  go_wp2_with (go_at_call 40; refine HBE.out.mono ?_; rintro e w5 ⟨rfl, hb5⟩)
  refine bodyPost_ret (v := .bool true) (by simp [results, Tryd.results14, go_sem]) rfl ⟨rfl, ?_⟩
  exact HB4.out.trans (hb5.mono HB4.out.size)
end Go.Proofs.YtmemadajjmmlpaaDoor
