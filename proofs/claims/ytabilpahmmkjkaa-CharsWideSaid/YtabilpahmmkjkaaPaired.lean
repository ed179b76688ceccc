/-
The walks of package chars: paired.
-/
import Derived.Test.YtabilpahmmkjkaaUnits
import Derived.Laws.BitsLemmas
namespace Go.Proofs.Ytabilpahmmkjkaa
open Go.RowKit Go.Cl
attribute [local go_sem ↓] Go.wp_at_zero Go.wp_at_succ

/-- Two halves are one sign. -/
def pairedL : List Int → List Int
  | a :: b :: r => if a / 1024 = 54 ∧ b / 1024 = 55 then (65536 + a % 1024 * 1024 + b % 1024) :: pairedL r else a :: pairedL (b :: r)
  | [a] => [a]
  | [] => []
theorem wf_i32 {x : Int} (h0 : -2147483648 ≤ x) (h1 : x ≤ 2147483647) : (Lit.int .i32 x).wf = true := by
  have h1 : IntKind.i32.min = -2147483648 := by decide
  have h2 : IntKind.i32.max = 2147483647 := by decide
  simp [Lit.wf, h1, h2]
  omega
theorem i32_wf {x : Int} (h : (Lit.int .i32 x).wf = true) : -2147483648 ≤ x ∧ x ≤ 2147483647 := by
  have h1 : IntKind.i32.min = -2147483648 := by decide
  have h2 : IntKind.i32.max = 2147483647 := by decide
  simp [Lit.wf, h1, h2] at h
  omega
theorem wf_pair (x y : Int) : (Lit.int .i32 (65536 + x % 1024 * 1024 + y % 1024)).wf = true := wf_i32 (by omega) (by omega)
theorem i32_and1023 (x : Int) (h₀ : 0 ≤ x) (h₁ : x < 2147483648) : bits .and .i32 x 1023 = x % 1024 := bits_mask .i32 31 (by decide) wraps_i32 10 (by decide) x h₀ h₁
theorem paired_two {l m : List Int} {j : Nat} {x y : Int} (h : pairedL l = m ++ pairedL (l.drop j)) (hx : l[j]? = some x) (hy : l[j + 1]? = some y) (hp : x / 1024 = 54 ∧ y / 1024 = 55) :
    pairedL l = (m ++ [65536 + x % 1024 * 1024 + y % 1024]) ++ pairedL (l.drop (j + 2)) := by
  rw [h, List.drop_eq_getElem_cons (List.getElem?_eq_some_iff.1 hx).1, (List.getElem?_eq_some_iff.1 hx).2, List.drop_eq_getElem_cons (List.getElem?_eq_some_iff.1 hy).1, (List.getElem?_eq_some_iff.1 hy).2, List.append_assoc, pairedL, if_pos hp]
  rfl
theorem paired_one {l m : List Int} {j : Nat} {x : Int} (h : pairedL l = m ++ pairedL (l.drop j)) (hx : l[j]? = some x) (hp : ∀ y, l[j + 1]? = some y → ¬ (x / 1024 = 54 ∧ y / 1024 = 55)) :
    pairedL l = (m ++ [x]) ++ pairedL (l.drop (j + 1)) := by
  rw [h, List.drop_eq_getElem_cons (List.getElem?_eq_some_iff.1 hx).1, (List.getElem?_eq_some_iff.1 hx).2, List.append_assoc]
  congr 1
  rcases hd : l.drop (j + 1) with _ | ⟨y, r⟩
  · rfl
  · have hy : l[j + 1]? = some y := by
      have := List.getElem?_drop (xs := l) (i := j + 1) (j := 0)
      rw [hd] at this
      simpa using this.symm
    rw [pairedL, if_neg (hp y hy)]
    rfl

set_option maxRecDepth 100000 in
theorem paired_any (A : Option Addr) (n c : Nat) (l : List Int) (w : World) (B : Nat) (hl : Sl (tInt .i32) w (lt B) A n c l) (hB : B ≤ w.heap.size) (hr : ∀ x ∈ l, 0 ≤ x ∧ x ≤ 65535) (hn : n ≤ 1000000000) :
    Calls Try.prog 44 #[.slice A n c] w fun e w' => ∃ v m, e = .returned v ∧ m = pairedL l ∧ OwnF (tInt .i32) w' w.heap.size 21 v m.length m ∧ Below w.heap.size w w' := by
  have HL := Lib.hid hl.hn
  have HR := Lib.hid hr
  clear hr
  go_enter Try.func44, Try.ntmps44
  go_wp2_with fail
  go_loopw [3, 4] (fun v i wr => ∃ (k : Nat) (m : List Int), k ≤ n ∧ m.length ≤ k ∧ i = .int .i64 (k : Int) ∧ Below w.heap.size w wr ∧ Hid (pairedL l = m ++ pairedL (l.drop k)) ∧ OwnF (tInt .i32) wr w.heap.size 21 v m.length m) (fun _ i _ => n - (intOf i).toNat)
  case atStart => exact ⟨0, [], Nat.zero_le _, Nat.le_refl _, rfl, Below.refl _ _, Lib.hid rfl, OwnF.nil _ _ _⟩
  case round =>
    obtain ⟨j, m, hk, hkl, rfl, hb, HU, hown⟩ := hrel
    have hz := hb.size
    by_cases hlt : j < n
    · obtain ⟨x, hx⟩ : ∃ x, l[j]? = some x := get_some (by have := HL.out; omega)
      obtain ⟨g, o, rfl, hg, hc, hw⟩ := (hl.below hb hB).int hx
      have hxr := HR.out x (List.mem_of_getElem? hx)
      have HX := Lib.hid hx
      have HW := Lib.hid hw
      clear hx hw
      have hcx : wr.cell? ⟨g, o + j, none⟩ = some (.int .i32 x) := hc
      by_cases hlt2 : j + 1 < n
      · obtain ⟨y, hy⟩ : ∃ y, l[j + 1]? = some y := get_some (by have := HL.out; omega)
        obtain ⟨g2, o2, e2, hg2, hc2, hw2⟩ := (hl.below hb hB).int hy
        obtain ⟨rfl, rfl⟩ : g = g2 ∧ o = o2 := by simpa using e2
        have hyr := HR.out y (List.mem_of_getElem? hy)
        have HY := Lib.hid hy
        clear hy hw2 e2
        have hcy : wr.cell? ⟨g, o + (j + 1), none⟩ = some (.int .i32 y) := hc2
        have i1 : (0 : Int) ≤ (j : Int) := by omega
        have i2 : (j : Int) < (n : Int) := by omega
        have i3 : (0 : Int) ≤ (j : Int) + 1 := by omega
        have i4 : (j : Int) + 1 < (n : Int) := by omega
        by_cases h54 : x / 1024 = 54
        · have h54b : (x / 1024 == 54) = true := by simpa using h54
          by_cases h55 : y / 1024 = 55
          · have h55b : (y / 1024 == 55) = true := by simpa using h55
            have HU2 := Lib.hid (paired_two HU.out HX.out HY.out ⟨h54, h55⟩)
            have w1 : IntKind.i64.wrap ((j : Int) + 1) = (j : Int) + 1 := IntWalk.i64_in _ (by omega)
            have n1 : ((j : Int) + 1).toNat = j + 1 := by omega
            have a1 := i32_and1023 x (by omega) (by omega)
            have a2 := i32_and1023 y (by omega) (by omega)
            have v1 : IntKind.i32.wrap (x % 1024 * 1024) = x % 1024 * 1024 := IntWalk.i32_in _ (by omega)
            have v2 : IntKind.i32.wrap (65536 + x % 1024 * 1024) = 65536 + x % 1024 * 1024 := IntWalk.i32_in _ (by omega)
            have v3 : IntKind.i32.wrap (65536 + x % 1024 * 1024 + y % 1024) = 65536 + x % 1024 * 1024 + y % 1024 := IntWalk.i32_in _ (by omega)
            go_wp2_with fail
            go_region_held3 (fun w' => w'.cell? ⟨g, o + j, none⟩ = some (.int .i32 x) ∧ w'.cell? ⟨g, o + (j + 1), none⟩ = some (.int .i32 y)) (first | go_keep | assumption)
              ((refine step_ap1 _ rfl (.tmp 33) (.tmp 48) 53 rfl elemRune (v := u3) (D := fun _ => False) rfl (OwnF.al hown _).drew (fun _ h => h.elim) (y := 65536 + x % 1024 * 1024 + y % 1024) (cs := [.int .i32 (65536 + x % 1024 * 1024 + y % 1024)]) rfl ⟨rfl, wf_pair x y⟩ (cell_new wr _ _) (by omega) (by omega) (by show _ ≤ (wr.alloc _).heap.size; rw [World.size_alloc]; omega) ?_; intro v9 w9 hown9 _ hbl9 _; have kx := (hbl9.cell (p := ⟨g, o + j, none⟩) (Nat.lt_of_lt_of_le hg hB)).trans ((World.cell?_alloc_lt wr _ ⟨g, o + j, none⟩ (Nat.lt_of_lt_of_le hg (Nat.le_trans hB hz))).trans hcx); have ky := (hbl9.cell (p := ⟨g, o + (j + 1), none⟩) (Nat.lt_of_lt_of_le hg hB)).trans ((World.cell?_alloc_lt wr _ ⟨g, o + (j + 1), none⟩ (Nat.lt_of_lt_of_le hg (Nat.le_trans hB hz))).trans hcy)))
            all_goals
              have hb9 : Below w.heap.size w w9 := (((hb.alloc hz _).drew)).trans hbl9
              clear hbl9 kx ky
              go_wp2_with fail
              go_roundw
              case rel => exact ⟨j + 2, m ++ [65536 + x % 1024 * 1024 + y % 1024], by omega, by rw [List.length_append]; show _ + 1 ≤ _; omega, by go_num, hb9, HU2, by rw [List.length_append]; exact hown9⟩
              case measure => simp [intOf]; omega
          · have h55b : (y / 1024 == 55) = false := by simpa using h55
            have HU2 := Lib.hid (paired_one HU.out HX.out (fun z hz h => by rw [HY.out] at hz; obtain rfl := Option.some.inj hz; exact h55 h.2))
            go_wp2_with (at_builtin; refine wpList_ap1 _ rfl (.tmp 52) (.tmp 57) 53 rfl elemRune (v := u3) (D := fun _ => False) rfl (OwnF.al hown _) (fun _ h => h.elim) (y := x) (cs := [.int .i32 x]) rfl ⟨rfl, HW.out⟩ (cell_new wr _ _) (by omega) (by omega) (by rw [World.size_alloc]; omega) ?_; intro v9 w9 hown9 _ hbl9 _)
            have hb9 : Below w.heap.size w w9 := (hb.alloc hz _).trans hbl9
            clear hbl9
            go_wp2_with fail
            go_roundw
            case rel => exact ⟨j + 1, m ++ [x], by omega, by rw [List.length_append]; show _ + 1 ≤ _; omega, by go_num, hb9, HU2, by rw [List.length_append]; exact hown9⟩
            case measure => simp [intOf]; omega
        · have h54b : (x / 1024 == 54) = false := by simpa using h54
          have HU2 := Lib.hid (paired_one HU.out HX.out (fun z hz h => h54 h.1))
          go_wp2_with (at_builtin; refine wpList_ap1 _ rfl (.tmp 52) (.tmp 57) 53 rfl elemRune (v := u3) (D := fun _ => False) rfl (OwnF.al hown _) (fun _ h => h.elim) (y := x) (cs := [.int .i32 x]) rfl ⟨rfl, HW.out⟩ (cell_new wr _ _) (by omega) (by omega) (by rw [World.size_alloc]; omega) ?_; intro v9 w9 hown9 _ hbl9 _)
          have hb9 : Below w.heap.size w w9 := (hb.alloc hz _).trans hbl9
          clear hbl9
          go_wp2_with fail
          go_roundw
          case rel => exact ⟨j + 1, m ++ [x], by omega, by rw [List.length_append]; show _ + 1 ≤ _; omega, by go_num, hb9, HU2, by rw [List.length_append]; exact hown9⟩
          case measure => simp [intOf]; omega
      · have HU2 := Lib.hid (paired_one HU.out HX.out (fun z hz h => by have := (List.getElem?_eq_some_iff.1 hz).1; have := HL.out; omega))
        go_wp2_with (at_builtin; refine wpList_ap1 _ rfl (.tmp 52) (.tmp 57) 53 rfl elemRune (v := u3) (D := fun _ => False) rfl (OwnF.al hown _) (fun _ h => h.elim) (y := x) (cs := [.int .i32 x]) rfl ⟨rfl, HW.out⟩ (cell_new wr _ _) (by omega) (by omega) (by rw [World.size_alloc]; omega) ?_; intro v9 w9 hown9 _ hbl9 _)
        have hb9 : Below w.heap.size w w9 := (hb.alloc hz _).trans hbl9
        clear hbl9
        go_wp2_with fail
        go_roundw
        case rel => exact ⟨j + 1, m ++ [x], by omega, by rw [List.length_append]; show _ + 1 ≤ _; omega, by go_num, hb9, HU2, by rw [List.length_append]; exact hown9⟩
        case measure => simp [intOf]; omega
    · have HU3 := Lib.hid (show pairedL l = m from by
        rw [HU.out, List.drop_of_length_le (by have := HL.out; omega), pairedL, List.append_nil])
      go_wp2_with fail
      go_ret
      exact ⟨_, m, rfl, HU3.out.symm, hown, hb⟩
end Go.Proofs.Ytabilpahmmkjkaa
