/-
The statements' sameToken, of two tokens that say the same.
-/
import Derived.Test.YtbddnohbkafagaaGreatDoorTkE
namespace Go.Proofs.YtbddnohbkafagaaGreatDoor
open Go.RowKit Go.Cl
attribute [local go_sem ↓] Go.wp_at_zero Go.wp_at_succ
set_option maxRecDepth 100000 in
set_option maxHeartbeats 4000000 in
theorem tkSame_any (x y : TkP) (A A' : Option Addr) (n c n' c' : Nat) (w : World) (B : Nat) (hB : B ≤ w.heap.size) (hxy : x.1 = y.1) (hx : Sl tDA w (lt B) A n c x.1.attrs) (hy : Sl tDA w (lt B) A' n' c' y.1.attrs) :
    Calls Tryz.prog 10 #[.agg (tokC x.1.kind x.1.name (.slice A n c) x.1.text x.1.self x.2.1 x.2.2), .agg (tokC y.1.kind y.1.name (.slice A' n' c') y.1.text y.1.self y.2.1 y.2.2)] w fun e w' => e = .returned (.bool true) ∧ Below w.heap.size w w' := by
  obtain ⟨⟨k, nm, at_, tx, sf⟩, f, t⟩ := x
  obtain ⟨y1, f2, t2⟩ := y
  obtain rfl : (⟨k, nm, at_, tx, sf⟩ : Tk) = y1 := hxy
  dsimp only at hx hy ⊢
  obtain rfl : n = n' := hx.hn.trans hy.hn.symm
  have HX := Lib.hid hx
  have HY := Lib.hid hy
  have HN := Lib.hid hx.hn
  have hn6 := hx.small
  clear hx hy
  obtain ⟨w1, hw1⟩ : ∃ w1, w1 = w.alloc (.cells (tokC k nm (.slice A n c) tx sf f t) 32) := ⟨_, rfl⟩
  obtain ⟨w2, hw2⟩ : ∃ w2, w2 = w1.alloc (.cells (tokC k nm (.slice A' n c') tx sf f2 t2) 32) := ⟨_, rfl⟩
  have z1 : w1.heap.size = w.heap.size + 1 := by rw [hw1]; exact World.size_alloc _ _
  have HX2 := Lib.hid (show w2.heap[w.heap.size]? = some (.cells (tokC k nm (.slice A n c) tx sf f t) 32 (0, 0)) from by rw [hw2, Lib.alloc_old _ _ _ (by omega), hw1]; exact heap_alloc_new w _)
  have HY2 := Lib.hid (show w2.heap[w.heap.size + 1]? = some (.cells (tokC k nm (.slice A' n c') tx sf f2 t2) 32 (0, 0)) from by rw [hw2, ← z1]; exact heap_alloc_new w1 _)
  have HB2 := Lib.hid (show Below w.heap.size w w2 from by rw [hw2, hw1]; exact tal (tal (Below.refl _ _) _) _)
  go_enter Tryz.func10, Tryz.ntmps10
  go_upto_region 1 with fail
  rw [← hw1, ← hw2]
  clear hw1 hw2 z1
  have x0 := cell_blk (i := 0) HX2.out rfl
  have x1 := cell_blk (i := 1) HX2.out rfl
  have x2 := cell_blk (i := 2) HX2.out rfl
  have x3 := cell_blk (i := 3) HX2.out rfl
  have x4 := cell_blk (i := 4) HX2.out rfl
  have x5 := cell_blk (i := 5) HX2.out rfl
  have x6 := cell_blk (i := 6) HX2.out rfl
  have y0 := cell_blk (i := 0) HY2.out rfl
  have y1 := cell_blk (i := 1) HY2.out rfl
  have y2 := cell_blk (i := 2) HY2.out rfl
  have y3 := cell_blk (i := 3) HY2.out rfl
  have y4 := cell_blk (i := 4) HY2.out rfl
  have y5 := cell_blk (i := 5) HY2.out rfl
  have y6 := cell_blk (i := 6) HY2.out rfl
  go_wp2_with fail
  go_loopw [5] (fun i wr => ∃ j : Nat, j ≤ n ∧ i = .int .i64 (j : Int) ∧ Below w2.heap.size w2 wr) (fun i _ => n - (intOf i).toNat)
  case atStart => exact ⟨0, Nat.zero_le _, rfl, Below.refl _ _⟩
  case round =>
    obtain ⟨j, hj, rfl, hb⟩ := hrel
    have x2 := cell_be x2 hb
    have y2 := cell_be y2 hb
    by_cases hlt : j < n
    · obtain ⟨a, ha⟩ : ∃ a, at_[j]? = some a := get_some (by have := HN.out; omega)
      have hbw := HB2.out.trans (hb.mono HB2.out.size)
      obtain ⟨b1, o1, rfl, _, c1, c2, _, _⟩ := da_cells (HX.out.below hbw hB) ha
      obtain ⟨b2, o2, rfl, _, d1, d2, _, _⟩ := da_cells (HY.out.below hbw hB) ha
      obtain ⟨a1, a2⟩ := a
      dsimp only at c1 c2 d1 d2
      have HBW := Lib.hid hbw
      clear ha hbw
      go_wp2_with fail
      go_quiet (fail)
      go_wp2_with fail
      go_roundw
      case rel => exact ⟨j + 1, by omega, by first | rfl | (congr 1; omega), tst hb (tdrewN _ _)⟩
      case measure => simp [intOf]; omega
    · go_wp2_with fail
      go_ret
      exact ⟨rfl, HB2.out.trans (hb.mono HB2.out.size)⟩
end Go.Proofs.YtbddnohbkafagaaGreatDoor
