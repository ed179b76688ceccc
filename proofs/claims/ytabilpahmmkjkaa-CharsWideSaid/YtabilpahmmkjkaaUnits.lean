/-
The walks of package chars: units.
-/
import Derived.Test.YtabilpahmmkjkaaCharsBegun
import Derived.Test.YtabilpahmmkjkaaKit2
import Derived.Deep.RegionHeld3
import Derived.Deep.DrawnRows
import Derived.Deep.DeepMust
namespace Go.Proofs.Ytabilpahmmkjkaa
open Go.RowKit Go.Cl
attribute [local go_sem ↓] Go.wp_at_zero Go.wp_at_succ

theorem elemRune : ElemOf Try.prog 53 21 1 4 := mkElem Try.underlying53 (by kernel_rfl) (z := .int .i32 0) rfl (by decide)
/-- A unit of two bytes. -/
def unitN (a b : Int) : Int := bits BinOp.or IntKind.i32 (a * 256) b
/-- The units of a text. -/
def unitsL (h : Nat) : List UInt8 → List Int
  | a :: b :: r => (if h = 0 then unitN a.toNat b.toNat else unitN b.toNat a.toNat) :: unitsL h r
  | _ => []
theorem units_end {h : Nat} {l : List UInt8} (hl : l.length ≤ 1) : unitsL h l = [] := by
  match l, hl with
  | [], _ => rfl
  | [_], _ => rfl

set_option maxRecDepth 100000 in
theorem units_0 (s : ByteArray) (w : World) (hs : s.size ≤ 1000000000) :
    Calls Try.prog 45 #[.string s, .int .i64 0] w fun e w' => ∃ v l, e = .returned v ∧ l = unitsL 0 s.data.toList ∧ OwnF (tInt .i32) w' w.heap.size 21 v l.length l ∧ Below w.heap.size w w' := by
  have hlen : s.data.toList.length = s.size := by simp
  have HLEN := Lib.hid hlen
  clear hlen
  go_enter Try.func45, Try.ntmps45
  go_wp2_with fail
  go_loopw [5, 6] (fun v i wr => ∃ (k : Nat) (l : List Int), k ≤ s.size ∧ l.length ≤ k ∧ i = .int .i64 (k : Int) ∧ Below w.heap.size w wr ∧ Hid (unitsL 0 s.data.toList = l ++ unitsL 0 (s.data.toList.drop k)) ∧ OwnF (tInt .i32) wr w.heap.size 21 v l.length l) (fun _ i _ => s.size - (intOf i).toNat)
  case atStart => exact ⟨0, [], Nat.zero_le _, Nat.le_refl _, rfl, Below.refl _ _, Lib.hid rfl, OwnF.nil _ _ _⟩
  case round =>
    obtain ⟨j, l, hk, hkl, rfl, hb, HU, hown⟩ := hrel
    by_cases hlt : j + 1 < s.size
    · have hj0 : j < s.size := by omega
      have h1 := s[j].toNat_lt
      have h2 := s[j + 1].toNat_lt
      have HU2 := Lib.hid (show unitsL 0 s.data.toList = (l ++ [unitN s[j].toNat s[j + 1].toNat]) ++ unitsL 0 (s.data.toList.drop (j + 2)) from by
        rw [HU.out, List.drop_eq_getElem_cons (by rw [HLEN.out]; omega), List.drop_eq_getElem_cons (by rw [HLEN.out]; omega), List.append_assoc]
        rfl)
      have hz := hb.size
      have i1 : (0 : Int) ≤ (j : Int) := by omega
      have i2 : (j : Int) < (s.size : Int) := by omega
      have i3 : (0 : Int) ≤ (j : Int) + 1 := by omega
      have i4 : (j : Int) + 1 < (s.size : Int) := by omega
      have w1 : IntKind.i64.wrap ((j : Int) + 1) = (j : Int) + 1 := IntWalk.i64_in _ (by omega)
      have w2 : IntKind.i64.wrap (j : Int) = (j : Int) := IntWalk.i64_in _ (by omega)
      have n1 : ((j : Int) + 1).toNat = j + 1 := by omega
      have v1 : IntKind.i32.wrap (s[j].toNat : Int) = (s[j].toNat : Int) := IntWalk.i32_in _ (by omega)
      have v2 : IntKind.i32.wrap ((s[j].toNat : Int) * 256) = (s[j].toNat : Int) * 256 := IntWalk.i32_in _ (by omega)
      have v3 : IntKind.i32.wrap (s[j + 1].toNat : Int) = (s[j + 1].toNat : Int) := IntWalk.i32_in _ (by omega)
      go_wp2_with fail
      go_region_held3 (fun _ => True) (trivial)
        ((refine step_ap1 _ rfl (.tmp 14) (.tmp 30) 53 rfl elemRune (v := u5) (D := fun _ => False) rfl (OwnF.al hown _).drew (fun _ h => h.elim) (y := unitN s[j].toNat s[j + 1].toNat) (cs := [.int .i32 (unitN s[j].toNat s[j + 1].toNat)]) rfl ⟨rfl, wf_bits _ _ _ _⟩ (cell_new wr _ _) (by omega) (by omega) (by show _ ≤ (wr.alloc _).heap.size; rw [World.size_alloc]; omega) ?_; intro v9 w9 hown9 _ hbl9 _))
      all_goals
        have hb9 : Below w.heap.size w w9 := (((hb.alloc hz _).drew)).trans hbl9
        clear hbl9
        go_wp2_with fail
        go_roundw
        case rel => exact ⟨j + 2, l ++ [unitN s[j].toNat s[j + 1].toNat], by omega, by rw [List.length_append]; show _ + 1 ≤ _; omega, by go_num, hb9, HU2, by rw [List.length_append]; exact hown9⟩
        case measure => simp [intOf]; omega
    · have HU3 := Lib.hid (show unitsL 0 s.data.toList = l from by
        rw [HU.out, units_end (by rw [List.length_drop, HLEN.out]; omega), List.append_nil])
      go_wp2_with fail
      go_ret
      exact ⟨_, l, rfl, HU3.out.symm, hown, hb⟩

set_option maxRecDepth 100000 in
theorem units_1 (s : ByteArray) (w : World) (hs : s.size ≤ 1000000000) :
    Calls Try.prog 45 #[.string s, .int .i64 1] w fun e w' => ∃ v l, e = .returned v ∧ l = unitsL 1 s.data.toList ∧ OwnF (tInt .i32) w' w.heap.size 21 v l.length l ∧ Below w.heap.size w w' := by
  have hlen : s.data.toList.length = s.size := by simp
  have HLEN := Lib.hid hlen
  clear hlen
  go_enter Try.func45, Try.ntmps45
  go_wp2_with fail
  go_loopw [5, 6] (fun v i wr => ∃ (k : Nat) (l : List Int), k ≤ s.size ∧ l.length ≤ k ∧ i = .int .i64 (k : Int) ∧ Below w.heap.size w wr ∧ Hid (unitsL 1 s.data.toList = l ++ unitsL 1 (s.data.toList.drop k)) ∧ OwnF (tInt .i32) wr w.heap.size 21 v l.length l) (fun _ i _ => s.size - (intOf i).toNat)
  case atStart => exact ⟨0, [], Nat.zero_le _, Nat.le_refl _, rfl, Below.refl _ _, Lib.hid rfl, OwnF.nil _ _ _⟩
  case round =>
    obtain ⟨j, l, hk, hkl, rfl, hb, HU, hown⟩ := hrel
    by_cases hlt : j + 1 < s.size
    · have hj0 : j < s.size := by omega
      have h1 := s[j].toNat_lt
      have h2 := s[j + 1].toNat_lt
      have HU2 := Lib.hid (show unitsL 1 s.data.toList = (l ++ [unitN s[j + 1].toNat s[j].toNat]) ++ unitsL 1 (s.data.toList.drop (j + 2)) from by
        rw [HU.out, List.drop_eq_getElem_cons (by rw [HLEN.out]; omega), List.drop_eq_getElem_cons (by rw [HLEN.out]; omega), List.append_assoc]
        rfl)
      have hz := hb.size
      have i1 : (0 : Int) ≤ (j : Int) := by omega
      have i2 : (j : Int) < (s.size : Int) := by omega
      have i3 : (0 : Int) ≤ (j : Int) + 1 := by omega
      have i4 : (j : Int) + 1 < (s.size : Int) := by omega
      have w1 : IntKind.i64.wrap ((j : Int) + 1) = (j : Int) + 1 := IntWalk.i64_in _ (by omega)
      have w2 : IntKind.i64.wrap (j : Int) = (j : Int) := IntWalk.i64_in _ (by omega)
      have n1 : ((j : Int) + 1).toNat = j + 1 := by omega
      have v1 : IntKind.i32.wrap (s[j].toNat : Int) = (s[j].toNat : Int) := IntWalk.i32_in _ (by omega)
      have v2 : IntKind.i32.wrap ((s[j + 1].toNat : Int) * 256) = (s[j + 1].toNat : Int) * 256 := IntWalk.i32_in _ (by omega)
      have v3 : IntKind.i32.wrap (s[j + 1].toNat : Int) = (s[j + 1].toNat : Int) := IntWalk.i32_in _ (by omega)
      go_wp2_with fail
      go_region_held3 (fun _ => True) (trivial)
        ((refine step_ap1 _ rfl (.tmp 14) (.tmp 30) 53 rfl elemRune (v := u5) (D := fun _ => False) rfl (OwnF.al hown _).drew (fun _ h => h.elim) (y := unitN s[j + 1].toNat s[j].toNat) (cs := [.int .i32 (unitN s[j + 1].toNat s[j].toNat)]) rfl ⟨rfl, wf_bits _ _ _ _⟩ (cell_new wr _ _) (by omega) (by omega) (by show _ ≤ (wr.alloc _).heap.size; rw [World.size_alloc]; omega) ?_; intro v9 w9 hown9 _ hbl9 _))
      all_goals
        have hb9 : Below w.heap.size w w9 := (((hb.alloc hz _).drew)).trans hbl9
        clear hbl9
        go_wp2_with fail
        go_roundw
        case rel => exact ⟨j + 2, l ++ [unitN s[j + 1].toNat s[j].toNat], by omega, by rw [List.length_append]; show _ + 1 ≤ _; omega, by go_num, hb9, HU2, by rw [List.length_append]; exact hown9⟩
        case measure => simp [intOf]; omega
    · have HU3 := Lib.hid (show unitsL 1 s.data.toList = l from by
        rw [HU.out, units_end (by rw [List.length_drop, HLEN.out]; omega), List.append_nil])
      go_wp2_with fail
      go_ret
      exact ⟨_, l, rfl, HU3.out.symm, hown, hb⟩

end Go.Proofs.Ytabilpahmmkjkaa
