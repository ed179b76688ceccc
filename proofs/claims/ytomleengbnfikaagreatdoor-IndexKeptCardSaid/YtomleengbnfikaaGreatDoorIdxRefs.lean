/-
The walk of the law's helper sameRefs, at two lists that are one.
-/
import Derived.Test.YtomleengbnfikaaGreatDoorIdxSame
import Derived.Test.YtomleengbnfikaaGreatDoorSameInts
namespace Go.Proofs.YtomleengbnfikaaGreatDoor
open Go.RowKit Go.Cl
attribute [local go_sem ↓] Go.wp_at_zero Go.wp_at_succ

set_option maxRecDepth 100000 in
set_option maxHeartbeats 2000000 in
theorem sameIntsQ_any (A : Option Addr) (n c : Nat) (xs : List Int) (A2 : Option Addr) (c2 : Nat) (w : World) (B : Nat) (hx : Sl (tInt .i64) w (lt B) A n c xs) (hy : Sl (tInt .i64) w (lt B) A2 n c2 xs) (hB : B ≤ w.heap.size) :
    Calls Tryz.prog 20 #[.slice A n c, .slice A2 n c2] w fun e w' => e = .returned (.bool true) ∧ ∃ m, w' = w.drewN m := by
  have hn1 := hx.small
  have HX := Lib.hid hx
  have HY := Lib.hid hy
  have HXN := Lib.hid hx.hn
  have hnn : ((n : Int) != (n : Int)) = false := by simp
  clear hx hy
  go_enter Tryz.func20, Tryz.ntmps20
  go_upto_region 4 with fail
  go_loopw [5] (fun s wr => ∃ j : Nat, j ≤ n ∧ s = .int .i64 (j : Int) ∧ Hid (∃ k, wr = w.drewN k)) (fun s _ => n - (intOf s).toNat)
  case atStart => exact ⟨0, Nat.zero_le _, rfl, Lib.hid ⟨0, (World.drewN_zero _).symm⟩⟩
  case round =>
    obtain ⟨j, hj, rfl, HR⟩ := hrel
    have HBR : Hid (Below w.heap.size w wr) := by
      obtain ⟨k, hk⟩ := HR.out
      rw [hk]; exact below_dN (Below.refl _ _) _
    by_cases hlt : j < n
    · obtain ⟨x, hx⟩ : ∃ x, xs[j]? = some x := get_some (by have := HXN.out; omega)
      obtain ⟨b1, o1, rfl, _, cx⟩ := sl_int (HX.out.below HBR.out hB) hx
      obtain ⟨b2, o2, rfl, _, cy⟩ := sl_int (HY.out.below HBR.out hB) hx
      have i1 : (0 : Int) ≤ (j : Int) := by omega
      have i2 : (j : Int) < (n : Int) := by omega
      have hq : (x != x) = false := by simp
      clear hx
      go_upto_region 6 with fail
      go_quiet (fail)
      generalize hw2 : wr.drewN _ = w2
      have HB2 : Hid (∃ k, w2 = w.drewN k) := by
        obtain ⟨k, hk⟩ := HR.out
        exact ⟨_, by rw [← hw2, hk, World.drewN_drewN]⟩
      clear hw2
      go_wp2_with fail
      go_roundw
      case rel => exact ⟨j + 1, by omega, by go_num, HB2⟩
      case measure => simp [intOf]; omega
    · obtain rfl : n = j := by omega
      go_wp2_with fail
      go_ret
      exact ⟨rfl, HR.out⟩
set_option maxRecDepth 100000 in
set_option maxHeartbeats 4000000 in
theorem sameRefs_any (A : Option Addr) (n c : Nat) (l : List Ref) (A2 : Option Addr) (c2 : Nat) (w : World) (B : Nat) (hx : Sl tRef w (lt B) A n c l) (hy : Sl tRef w (lt B) A2 n c2 l) (hB : B ≤ w.heap.size) :
    Calls Tryz.prog 8 #[.slice A n c, .slice A2 n c2] w fun e w' => e = .returned (.bool true) ∧ Below w.heap.size w w' := by
  have hn1 := hx.small
  have HX := Lib.hid hx
  have HY := Lib.hid hy
  have HXN := Lib.hid hx.hn
  have hnn : ((n : Int) != (n : Int)) = false := by simp
  clear hx hy
  go_enter Tryz.func8, Tryz.ntmps8
  go_wp2_with fail
  go_loopw [5] (fun s wr => ∃ j : Nat, j ≤ n ∧ s = .int .i64 (j : Int) ∧ Hid (Below w.heap.size w wr)) (fun s _ => n - (intOf s).toNat)
  case atStart => exact ⟨0, Nat.zero_le _, rfl, Lib.hid (Below.refl _ _)⟩
  case round =>
    obtain ⟨j, hj, rfl, HR⟩ := hrel
    by_cases hlt : j < n
    · obtain ⟨r, hr⟩ : ∃ r, l[j]? = some r := get_some (by have := HXN.out; omega)
      obtain ⟨b1, o1, Av, cv, rfl, _, cx0, cx1, _, hs1⟩ := ref_cells (HX.out.below HR.out hB) hr
      obtain ⟨b2, o2, Av2, cv2, rfl, _, cy0, cy1, _, hs2⟩ := ref_cells (HY.out.below HR.out hB) hr
      have i1 : (0 : Int) ≤ (j : Int) := by omega
      have i2 : (j : Int) < (n : Int) := by omega
      have hz := HR.out.size
      have hq : (r.1.toList != r.1.toList) = false := by simp
      have HS := Lib.hid (fun k => sameIntsQ_any Av r.2.length cv r.2 Av2 cv2 (wr.drewN k) B (hs1.below (below_dN (Below.refl B wr) k) (Nat.le_refl _)) (hs2.below (below_dN (Below.refl B wr) k) (Nat.le_refl _)) (Nat.le_trans hB (Nat.le_trans hz (below_dN (Below.refl wr.heap.size wr) k).size)))
      clear hr hs1 hs2 hz
      go_upto_region 6 with fail
      go_quiet ((go_at_call 20; exact Calls.quiet_of (HS.out _)))
      generalize hw2 : wr.drewN _ = w2
      have HB2 : Hid (Below w.heap.size w w2) := by rw [← hw2]; exact below_dN HR.out _
      clear hw2
      go_wp2_with fail
      go_roundw
      case rel => exact ⟨j + 1, by omega, by go_num, HB2⟩
      case measure => simp [intOf]; omega
    · obtain rfl : n = j := by omega
      go_wp2_with fail
      go_ret
      exact ⟨rfl, HR.out⟩
end Go.Proofs.YtomleengbnfikaaGreatDoor
