/-
Two lists of words that are one: the walks that say so.
-/
import Derived.Test.YtomleengbnfikaaGreatDoorIdxFind
import Derived.BigQuiet
namespace Go.Proofs.YtomleengbnfikaaGreatDoor
open Go.RowKit Go.Cl
attribute [local go_sem ↓] Go.wp_at_zero Go.wp_at_succ
theorem bstep0 {a b c : World} (h1 : Below a.heap.size a b) (h2 : Below b.heap.size b c) : Below a.heap.size a c := h1.trans (h2.mono h1.size)

set_option maxRecDepth 100000 in
set_option maxHeartbeats 2000000 in
/-- slices.Equal at two lists that are one. -/
theorem eqInts_any (A : Option Addr) (n c : Nat) (xs : List Int) (A2 : Option Addr) (c2 : Nat) (w : World) (B : Nat) (hx : Sl (tInt .i64) w (lt B) A n c xs) (hy : Sl (tInt .i64) w (lt B) A2 n c2 xs) (hB : B ≤ w.heap.size) :
    Calls Tryz.prog 25 #[.slice A n c, .slice A2 n c2] w fun e w' => e = .returned (.bool true) ∧ Below w.heap.size w w' := by
  have hn1 := hx.small
  have HX := Lib.hid hx
  have HY := Lib.hid hy
  have HXN := Lib.hid hx.hn
  have hnn : ((n : Int) != (n : Int)) = false := by simp
  clear hx hy
  go_enter Tryz.func25, Tryz.ntmps25
  go_wp2_with fail
  go_loopw [13] (fun s wr => ∃ j : Nat, j ≤ n ∧ s = .int .i64 (j : Int) ∧ Hid (Below w.heap.size w wr)) (fun s _ => n - (intOf s).toNat)
  case atStart => exact ⟨0, Nat.zero_le _, rfl, Lib.hid (Below.refl _ _)⟩
  case round =>
    obtain ⟨j, hj, rfl, HR⟩ := hrel
    by_cases hlt : j < n
    · obtain ⟨x, hx⟩ : ∃ x, xs[j]? = some x := get_some (by have := HXN.out; omega)
      obtain ⟨b1, o1, rfl, _, cx⟩ := sl_int (HX.out.below HR.out hB) hx
      obtain ⟨b2, o2, rfl, _, cy⟩ := sl_int (HY.out.below HR.out hB) hx
      have i1 : (0 : Int) ≤ (j : Int) := by omega
      have i2 : (j : Int) < (n : Int) := by omega
      have hq : (x != x) = false := by simp
      clear hx
      go_upto_region 6 with fail
      go_quiet (fail)
      generalize hw2 : wr.drewN _ = w2
      have HB2 : Hid (Below w.heap.size w w2) := by rw [← hw2]; exact below_dN HR.out _
      clear hw2
      go_wp2_with fail
      go_roundw
      case rel => exact ⟨j + 1, by omega, by go_num, HB2⟩
      case measure => simp [intOf]; omega
    · obtain rfl : n = j := by omega
      go_wp2_with fail
      go_ret
      exact ⟨rfl, HR.out⟩
set_option maxRecDepth 100000 in
set_option maxHeartbeats 2000000 in
theorem same1_any (s : ByteArray) (A : Option Addr) (n c : Nat) (xs : List Int) (A2 : Option Addr) (c2 : Nat) (w : World) (B : Nat) (hx : Sl (tInt .i64) w (lt B) A n c xs) (hy : Sl (tInt .i64) w (lt B) A2 n c2 xs) (hB : B ≤ w.heap.size) :
    Calls Tryz.prog 24 #[.agg #[.string s, .slice A n c], .agg #[.string s, .slice A2 n c2]] w fun e w' => e = .returned (.bool true) ∧ Below w.heap.size w w' := by
  obtain ⟨wa, hwa⟩ : ∃ wa, wa = w.alloc (.cells #[.string s, .slice A n c] 50) := ⟨_, rfl⟩
  obtain ⟨w0, hw0⟩ : ∃ w0, w0 = wa.alloc (.cells #[.string s, .slice A2 n c2] 50) := ⟨_, rfl⟩
  have za : wa.heap.size = w.heap.size + 1 := by rw [hwa]; exact World.size_alloc w _
  have hb0 : Below w.heap.size w w0 := by rw [hw0, hwa]; exact ((Below.refl _ _).alloc (Nat.le_refl _) _).alloc (by simp) _
  have hx1 : w0.heap[w.heap.size]? = some (.cells #[.string s, .slice A n c] 50 (0, 0)) := by rw [hw0, Lib.alloc_old _ _ _ (by omega), hwa]; exact heap_alloc_new w _
  have hx2 : w0.heap[w.heap.size + 1]? = some (.cells #[.string s, .slice A2 n c2] 50 (0, 0)) := by rw [hw0, ← za]; exact heap_alloc_new wa _
  have HE := Lib.hid (fun k => eqInts_any A n c xs A2 c2 (w0.drewN k) B ((hx.below hb0 hB).below (below_dN (Below.refl B w0) k) (Nat.le_refl _)) ((hy.below hb0 hB).below (below_dN (Below.refl B w0) k) (Nat.le_refl _)) (Nat.le_trans hB hb0.size))
  have HE0 := Lib.hid (eqInts_any A n c xs A2 c2 w0 B (hx.below hb0 hB) (hy.below hb0 hB) (Nat.le_trans hB hb0.size))
  have HB0 := Lib.hid hb0
  have x0 := cell_blk (i := 0) hx1 rfl
  have x1 := cell_blk (i := 1) hx1 rfl
  have y0 := cell_blk (i := 0) hx2 rfl
  have y1 := cell_blk (i := 1) hx2 rfl
  have hsl : (s.toList == s.toList) = true := by simp

  clear za hb0 hx1 hx2 hx hy
  go_enter Tryz.func24, Tryz.ntmps24
  go_upto_region 1 with fail
  rw [← hwa, ← hw0]
  clear hwa hw0
  go_wp2_with (go_at_call 25; refine HE0.out.mono ?_; rintro e w1 ⟨rfl, hb1⟩)
  go_ret
  exact ⟨rfl, bstep0 HB0.out hb1⟩
set_option maxRecDepth 100000 in
set_option maxHeartbeats 4000000 in
/-- slices.EqualFunc at two lists that are one. -/
theorem eqRefs_any (A : Option Addr) (n c : Nat) (l : List Ref) (A2 : Option Addr) (c2 : Nat) (w : World) (B : Nat) (hx : Sl tRef w (lt B) A n c l) (hy : Sl tRef w (lt B) A2 n c2 l) (hB : B ≤ w.heap.size) :
    Calls Tryz.prog 23 #[.slice A n c, .slice A2 n c2, .func (.func 24) #[] #[]] w fun e w' => e = .returned (.bool true) ∧ Below w.heap.size w w' := by
  have hn1 := hx.small
  have HX := Lib.hid hx
  have HY := Lib.hid hy
  have HXN := Lib.hid hx.hn
  have hnn : ((n : Int) != (n : Int)) = false := by simp
  clear hx hy
  go_enter Tryz.func23, Tryz.ntmps23
  go_wp2_with fail
  go_loopw [17] (fun s wr => ∃ j : Nat, j ≤ n ∧ s = .int .i64 (j : Int) ∧ Hid (Below w.heap.size w wr)) (fun s _ => n - (intOf s).toNat)
  case atStart => exact ⟨0, Nat.zero_le _, rfl, Lib.hid (Below.refl _ _)⟩
  case round =>
    obtain ⟨j, hj, rfl, HR⟩ := hrel
    by_cases hlt : j < n
    · obtain ⟨r, hr⟩ : ∃ r, l[j]? = some r := get_some (by have := HXN.out; omega)
      obtain ⟨b1, o1, Av, cv, rfl, _, cx0, cx1, _, hs1⟩ := ref_cells (HX.out.below HR.out hB) hr
      obtain ⟨b2, o2, Av2, cv2, rfl, _, cy0, cy1, _, hs2⟩ := ref_cells (HY.out.below HR.out hB) hr
      have i1 : (0 : Int) ≤ (j : Int) := by omega
      have i2 : (j : Int) < (n : Int) := by omega
      have hb2 : Below wr.heap.size wr ((wr.alloc (.cells #[.string r.1, .slice Av r.2.length cv] 50)).alloc (.cells #[.string r.1, .slice Av2 r.2.length cv2] 50)) := ((Below.refl _ _).alloc (Nat.le_refl _) _).alloc (by simp) _
      have hz := HR.out.size
      have HS := Lib.hid (same1_any r.1 Av r.2.length cv r.2 Av2 cv2 _ B (hs1.below hb2 (Nat.le_trans hB hz)) (hs2.below hb2 (Nat.le_trans hB hz)) (Nat.le_trans hB (Nat.le_trans hz hb2.size)))
      have HB2 := Lib.hid (bstep0 HR.out hb2)
      have d0 := cell_al (w := wr) cy0 (.cells #[.string r.1, .slice Av r.2.length cv] 50)
      have d1 := cell_al (w := wr) cy1 (.cells #[.string r.1, .slice Av r.2.length cv] 50)
      clear hr hb2 hs1 hs2 hz
      go_wp2_with (go_at_call 24; refine HS.out.mono ?_; rintro e w1 ⟨rfl, hb1⟩)
      go_roundw
      case rel => exact ⟨j + 1, by omega, by go_num, Lib.hid (bstep0 HB2.out hb1)⟩
      case measure => simp [intOf]; omega
    · obtain rfl : n = j := by omega
      go_wp2_with fail
      go_ret
      exact ⟨rfl, HR.out⟩
set_option maxRecDepth 100000 in
theorem sameW_any (A : Option Addr) (n c : Nat) (l : List Ref) (A2 : Option Addr) (c2 : Nat) (w : World) (B : Nat) (hx : Sl tRef w (lt B) A n c l) (hy : Sl tRef w (lt B) A2 n c2 l) (hB : B ≤ w.heap.size) :
    Calls Tryz.prog 13 #[.slice A n c, .slice A2 n c2] w fun e w' => e = .returned (.bool true) ∧ Below w.heap.size w w' := by
  have HS := Lib.hid (eqRefs_any A n c l A2 c2 w B hx hy hB)
  clear hx hy
  go_enter Tryz.func13, Tryz.ntmps13
  go_wp2_with (go_at_call 23; refine HS.out.mono ?_; rintro e w1 ⟨rfl, hb1⟩)
  go_ret
  exact ⟨rfl, hb1⟩
end Go.Proofs.YtomleengbnfikaaGreatDoor
