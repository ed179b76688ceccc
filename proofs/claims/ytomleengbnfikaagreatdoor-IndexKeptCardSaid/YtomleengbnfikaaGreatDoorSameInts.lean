/-
The walk of the laws' helper sameInts.
-/
import Derived.Test.YtomleengbnfikaaGreatDoorEdWalksA
namespace Go.Proofs.YtomleengbnfikaaGreatDoor
open Go.RowKit Go.Cl
attribute [local go_sem ↓] Go.wp_at_zero Go.wp_at_succ

/-- Are two lists one? -/
def sameB (xs ys : List Int) : Bool := decide (xs = ys)
theorem same_true {xs ys : List Int} (h : xs = ys) : sameB xs ys = true := decide_eq_true h
theorem same_false {xs ys : List Int} (h : xs ≠ ys) : sameB xs ys = false := decide_eq_false h
theorem take_eq_step {xs ys : List Int} {j : Nat} {x : Int} (h : xs.take j = ys.take j) (hx : xs[j]? = some x) (hy : ys[j]? = some x) : xs.take (j + 1) = ys.take (j + 1) := by
  rw [List.take_add_one, List.take_add_one, h, hx, hy]
set_option maxRecDepth 100000 in
set_option maxHeartbeats 1000000 in
theorem sameInts_any (A : Option Addr) (n c : Nat) (xs : List Int) (A2 : Option Addr) (n2 c2 : Nat) (ys : List Int) (w : World) (B : Nat) (hx : Sl (tInt .i64) w (lt B) A n c xs) (hy : Sl (tInt .i64) w (lt B) A2 n2 c2 ys) (hB : B ≤ w.heap.size) :
    Calls Tryz.prog 20 #[.slice A n c, .slice A2 n2 c2] w fun e w' => e = .returned (.bool (sameB xs ys)) ∧ Below w.heap.size w w' := by
  have hxc := hx.hc
  have hyc := hy.hc
  have hn1 := hx.small
  have hn2 := hy.small
  have HX := Lib.hid hx
  have HY := Lib.hid hy
  have HXN := Lib.hid hx.hn
  have HYN := Lib.hid hy.hn
  clear hx hy
  by_cases hne : n = n2
  · subst hne
    have hnn : ((n : Int) != (n : Int)) = false := by simp
    go_enter Tryz.func20, Tryz.ntmps20
    go_upto_region 4 with fail
    go_loopw [5] (fun s wr => ∃ j : Nat, j ≤ n ∧ s = .int .i64 (j : Int) ∧ Hid (Below w.heap.size w wr ∧ xs.take j = ys.take j)) (fun s _ => n - (intOf s).toNat)
    case atStart => exact ⟨0, Nat.zero_le _, rfl, Lib.hid ⟨Below.refl _ _, rfl⟩⟩
    case round =>
      obtain ⟨j, hj, rfl, HR⟩ := hrel
      by_cases hlt : j < n
      · obtain ⟨x, hx⟩ : ∃ x, xs[j]? = some x := get_some (by have := HXN.out; omega)
        obtain ⟨y, hy⟩ : ∃ y, ys[j]? = some y := get_some (by have := HYN.out; omega)
        obtain ⟨b1, o1, rfl, _, cx, _⟩ := (HX.out.below HR.out.1 hB).int hx
        obtain ⟨b2, o2, rfl, _, cy, _⟩ := (HY.out.below HR.out.1 hB).int hy
        have i1 : (0 : Int) ≤ (j : Int) := by omega
        have i2 : (j : Int) < (n : Int) := by omega
        have hjj : decide (j < n) = true := decide_eq_true hlt
        by_cases hxy : x = y
        · subst hxy
          have hq : (x != x) = false := by simp
          have HS := Lib.hid (take_eq_step HR.out.2 hx hy)
          clear hx hy
          go_upto_region 6 with fail
          go_quiet (fail)
          generalize hw2 : wr.drewN _ = w2
          have HB2 : Hid (Below w.heap.size w w2) := by rw [← hw2]; exact below_dN HR.out.1 _
          clear hw2
          go_wp2_with fail
          go_roundw
          case rel => exact ⟨j + 1, by omega, by go_num, Lib.hid ⟨HB2.out, HS.out⟩⟩
          case measure => simp [intOf]; omega
        · have hq : (x != y) = true := by simpa using hxy
          have HS := Lib.hid (same_false (xs := xs) (ys := ys) (fun e => by rw [e, hy] at hx; exact hxy (Option.some.inj hx).symm))
          clear hx hy hxy
          go_upto_region 6 with fail
          go_quiet (fail)
          generalize hw2 : wr.drewN _ = w2
          have HB2 : Hid (Below w.heap.size w w2) := by rw [← hw2]; exact below_dN HR.out.1 _
          clear hw2
          go_wp2_with fail
          go_ret
          exact ⟨retB HS.out.symm, HB2.out⟩
      · have hjj : decide (j < n) = false := decide_eq_false hlt
        have HS := Lib.hid (same_true (xs := xs) (ys := ys) (by
          have h := HR.out.2
          rw [List.take_of_length_le (by have := HXN.out; omega), List.take_of_length_le (by have := HYN.out; omega)] at h
          exact h))
        go_wp2_with fail
        go_ret
        exact ⟨retB HS.out.symm, HR.out.1⟩
  · have hnn : ((n : Int) != (n2 : Int)) = true := bne_iff_ne.2 (by omega)
    have hnn2 : (n != n2) = true := bne_iff_ne.2 hne
    have HS := Lib.hid (same_false (xs := xs) (ys := ys) (fun e => hne (by rw [HXN.out, HYN.out, e])))
    go_enter Tryz.func20, Tryz.ntmps20
    go_wp2_with fail
    go_ret
    exact ⟨retB HS.out.symm, Below.refl _ _⟩
end Go.Proofs.YtomleengbnfikaaGreatDoor
