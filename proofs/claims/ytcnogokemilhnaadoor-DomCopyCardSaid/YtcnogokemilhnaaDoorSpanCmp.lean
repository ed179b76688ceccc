/-
cmp.Compare and slices.Compare over ints.
-/
import Derived.Test.YtcnogokemilhnaaDoorTreeB
namespace Go.Proofs.YtcnogokemilhnaaDoor
open Go.RowKit Go.Cl
attribute [local go_sem ↓] Go.wp_at_zero Go.wp_at_succ

def cmpI (a b : Int) : Int := if a < b then -1 else if b < a then 1 else 0
def cmpL : List Int → List Int → Int
  | [], [] => 0
  | [], _ :: _ => -1
  | _ :: _, [] => 1
  | a :: r, b :: s => if cmpI a b ≠ 0 then cmpI a b else cmpL r s
theorem cmpInt_any (a b : Int) (w : World) : Calls Tryd.prog 92 #[.int .i64 a, .int .i64 b] w fun e w' => e = .returned (.int .i64 (cmpI a b)) ∧ w = w' := by
  have HN := Lib.hid (fun x => (Tryd.cmp_isNaN_int2 x w).mono (R' := fun e w' => e = .returned (.bool false) ∧ w = w') fun _ _ h => ⟨h.1, h.2.symm⟩)
  by_cases h1 : a < b
  · have HR := Lib.hid (show cmpI a b = -1 from if_pos h1)
    go_enter Tryd.func92, Tryd.ntmps92
    go_wp2_with (go_at_call 137; refine (HN.out _).mono ?_; rintro e w1 ⟨rfl, rfl⟩)
    go_ret
    exact ⟨by rw [HR.out]; rfl, rfl⟩
  · by_cases h2 : b < a
    · have HR := Lib.hid (show cmpI a b = 1 from (if_neg h1).trans (if_pos h2))
      go_enter Tryd.func92, Tryd.ntmps92
      go_wp2_with (go_at_call 137; refine (HN.out _).mono ?_; rintro e w1 ⟨rfl, rfl⟩)
      go_ret
      exact ⟨by rw [HR.out]; rfl, rfl⟩
    · have HR := Lib.hid (show cmpI a b = 0 from (if_neg h1).trans (if_neg h2))
      go_enter Tryd.func92, Tryd.ntmps92
      go_wp2_with (go_at_call 137; refine (HN.out _).mono ?_; rintro e w1 ⟨rfl, rfl⟩)
      go_ret
      exact ⟨by rw [HR.out]; rfl, rfl⟩
theorem cmpL_over {xs ys : List Int} {i : Nat} {x : Int} (hx : xs[i]? = some x) (hi : ys.length ≤ i) : cmpL (xs.drop i) (ys.drop i) = 1 := by
  rw [List.drop_eq_getElem_cons (List.getElem?_eq_some_iff.1 hx).1, List.drop_of_length_le hi]
  rfl
theorem cmpL_step {xs ys : List Int} {i : Nat} {x y : Int} (hx : xs[i]? = some x) (hy : ys[i]? = some y) : cmpL (xs.drop i) (ys.drop i) = if cmpI x y ≠ 0 then cmpI x y else cmpL (xs.drop (i + 1)) (ys.drop (i + 1)) := by
  rw [List.drop_eq_getElem_cons (List.getElem?_eq_some_iff.1 hx).1, List.drop_eq_getElem_cons (List.getElem?_eq_some_iff.1 hy).1, (List.getElem?_eq_some_iff.1 hx).2, (List.getElem?_eq_some_iff.1 hy).2, cmpL]
theorem cmpL_end {xs ys : List Int} {i : Nat} (hx : xs.length ≤ i) : cmpL (xs.drop i) (ys.drop i) = if i < ys.length then -1 else 0 := by
  rw [List.drop_of_length_le hx]
  by_cases h : i < ys.length
  · rw [if_pos h, List.drop_eq_getElem_cons h]
    rfl
  · rw [if_neg h, List.drop_of_length_le (by omega)]
    rfl
set_option maxRecDepth 100000 in
set_option maxHeartbeats 1000000 in
theorem slCompare_any (A : Option Addr) (n c : Nat) (xs : List Int) (A2 : Option Addr) (n2 c2 : Nat) (ys : List Int) (w : World) (D D2 : Nat → Prop) (hx : Sl (tInt .i64) w D A n c xs) (hy : Sl (tInt .i64) w D2 A2 n2 c2 ys) :
    Calls Tryd.prog 93 #[.slice A n c, .slice A2 n2 c2] w fun e w' => e = .returned (.int .i64 (cmpL xs ys)) ∧ w = w' := by
  have hxc := hx.hc
  have hyc := hy.hc
  have hn1 := hx.small
  have hn2 := hy.small
  have HX := Lib.hid hx
  have HY := Lib.hid hy
  have HXN := Lib.hid hx.hn
  have HYN := Lib.hid hy.hn
  have HCM := Lib.hid (fun a b => cmpInt_any a b w)
  clear hx hy
  go_enter Tryd.func93, Tryd.ntmps93
  go_upto_region 2 with fail
  go_loop [11] (fun s => ∃ i : Nat, i ≤ n ∧ s = .int .i64 (i : Int) ∧ Hid (cmpL xs ys = cmpL (xs.drop i) (ys.drop i))) (fun s => n - (intOf s).toNat)
  case atStart => exact ⟨0, Nat.zero_le _, rfl, Lib.hid rfl⟩
  case round =>
    obtain ⟨i, hi, rfl, HR⟩ := hrel
    by_cases hlt : i < n
    · obtain ⟨x, hx⟩ : ∃ x, xs[i]? = some x := get_some (by have := HXN.out; omega)
      obtain ⟨b1, o1, rfl, _, cx, _⟩ := HX.out.int hx
      have i1 : (0 : Int) ≤ (i : Int) := by omega
      have i2 : (i : Int) < (n : Int) := by omega
      by_cases hlt2 : i < n2
      · obtain ⟨y, hy⟩ : ∃ y, ys[i]? = some y := get_some (by have := HYN.out; omega)
        obtain ⟨b2, o2, rfl, _, cy, _⟩ := HY.out.int hy
        have i3 : (i : Int) < (n2 : Int) := by omega
        have HS := Lib.hid (HR.out.trans (cmpL_step hx hy))
        have HC := Lib.hid (HCM.out x y)
        clear hx hy
        by_cases hc : cmpI x y = 0
        · have HS2 := Lib.hid (HS.out.trans (if_neg (by simpa using hc)))
          rw [hc] at HC
          clear hc
          go_wp2_with (go_at_call 92; refine HC.out.mono ?_; rintro e w1 ⟨rfl, rfl⟩)
          go_round
          case rel => exact ⟨i + 1, by omega, by go_num, HS2⟩
          case measure => simp [intOf]; omega
        · have HS2 := Lib.hid (HS.out.trans (if_pos hc))
          have hc1 : (cmpI x y != 0) = true := by simpa using hc
          clear hc
          generalize cmpI x y = cv at *
          go_wp2_with (go_at_call 92; refine HC.out.mono ?_; rintro e w1 ⟨rfl, rfl⟩)
          go_ret
          exact ⟨retI HS2.out.symm, rfl⟩
      · have i3 : (n2 : Int) ≤ (i : Int) := by omega
        have HS2 := Lib.hid (HR.out.trans (cmpL_over hx (by have := HYN.out; omega)))
        clear hx
        go_wp2_with fail
        go_ret
        exact ⟨retI HS2.out.symm, rfl⟩
    · obtain rfl : i = n := by omega
      by_cases hlt2 : i < n2
      · have HS2 := Lib.hid ((HR.out.trans (cmpL_end (by have := HXN.out; omega))).trans (if_pos (by have := HYN.out; omega)))
        have i3 : decide (i < n2) = true := decide_eq_true hlt2
        go_wp2_with fail
        go_ret
        exact ⟨retI HS2.out.symm, rfl⟩
      · have HS2 := Lib.hid ((HR.out.trans (cmpL_end (by have := HXN.out; omega))).trans (if_neg (by have := HYN.out; omega)))
        have i3 : decide (i < n2) = false := decide_eq_false hlt2
        go_wp2_with fail
        go_ret
        exact ⟨retI HS2.out.symm, rfl⟩
end Go.Proofs.YtcnogokemilhnaaDoor
