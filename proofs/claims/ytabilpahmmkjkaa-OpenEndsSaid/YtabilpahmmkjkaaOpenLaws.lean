/-
The walks of the laws on package open.
-/
import Derived.Test.YtabilpahmmkjkaaOpenWalks
import Derived.Test.YtabilpahmmkjkaaKit2
import Derived.Test.YtabilpahmmkjkaaOpenPlain
namespace Go.Proofs.Ytabilpahmmkjkaa
open Go.RowKit Go.Cl

theorem begun_1 : hasB (⟨#[116, 97, 98, 108, 101]⟩ : ByteArray) 4 [(⟨#[116, 97, 98, 108, 101]⟩ : ByteArray), (⟨#[98]⟩ : ByteArray)].reverse = true := by decide +kernel
theorem begun_2 : hasB (⟨#[112]⟩ : ByteArray) 1 [(⟨#[112]⟩ : ByteArray), (⟨#[116, 97, 98, 108, 101]⟩ : ByteArray), (⟨#[98]⟩ : ByteArray)].reverse = false := by decide +kernel
theorem begun_3 : specialB (⟨#[98]⟩ : ByteArray) = false := by decide +kernel

theorem row_strs {w : World} {D : Nat → Prop} (l : List ByteArray) (h : ∀ x ∈ l, x.size ≤ 1152921504606846976) : Row tStr w D l (l.map Value.string) := by
  induction l with
  | nil => exact Row.nil
  | cons x l ih => exact ⟨[.string x], _, rfl, ⟨rfl, h x (by simp)⟩, ih fun y hy => h y (by simp [hy])⟩

set_option maxRecDepth 100000 in
theorem openBegun_any (m : Int) (w : World) (hm : w.cell? ⟨0, 0, none⟩ = some (.int .i64 m)) :
    Calls Try.prog 16 #[] w fun e w' => e = .returned (.bool true) ∧ Below w.heap.size w w' := by
  have s1 : Sl tStr (w.alloc (.cells #[.string (⟨#[116, 97, 98, 108, 101]⟩ : ByteArray), .string (⟨#[98]⟩ : ByteArray)] 9)) (lt (w.heap.size + 1)) (some ⟨w.heap.size, 0, none⟩) 2 2 [(⟨#[116, 97, 98, 108, 101]⟩ : ByteArray), (⟨#[98]⟩ : ByteArray)] :=
    Sl.fresh (w := w) (B := w.heap.size) (n := 2) 9 (row_strs (w := w) (D := lt w.heap.size) [(⟨#[116, 97, 98, 108, 101]⟩ : ByteArray), (⟨#[98]⟩ : ByteArray)] (by decide +kernel)) (Nat.le_refl _) rfl (by omega)
  have s2 : ∀ o : Obj, Sl tStr ((w.alloc o).alloc (.cells #[.string (⟨#[112]⟩ : ByteArray), .string (⟨#[116, 97, 98, 108, 101]⟩ : ByteArray), .string (⟨#[98]⟩ : ByteArray)] 9)) (lt (w.heap.size + 1 + 1)) (some ⟨w.heap.size + 1, 0, none⟩) 3 3 [(⟨#[112]⟩ : ByteArray), (⟨#[116, 97, 98, 108, 101]⟩ : ByteArray), (⟨#[98]⟩ : ByteArray)] := fun o => by
    have := Sl.fresh (w := w.alloc o) (B := w.heap.size) (n := 3) 9 (row_strs (w := w.alloc o) (D := lt w.heap.size) [(⟨#[112]⟩ : ByteArray), (⟨#[116, 97, 98, 108, 101]⟩ : ByteArray), (⟨#[98]⟩ : ByteArray)] (by decide +kernel)) (by simp) rfl (by omega)
    rw [World.size_alloc] at this
    exact this
  go_enter Try.func16, Try.ntmps16
  go_wp2_with fail
  refine (in_any _ _ _ _ _ _ m _ _ s1 (by exact cell_al hm _) (by decide) (by decide) (by decide)).mono ?_
  rintro e w1 ⟨rfl, rfl⟩
  rw [begun_1]
  go_wp2_with fail
  refine (in_any _ _ _ _ _ _ m _ _ (s2 _) (by exact cell_al (cell_al hm _) _) (by decide) (by decide) (by decide)).mono ?_
  rintro e w1 ⟨rfl, rfl⟩
  rw [begun_2]
  go_wp2_with fail
  refine (special_any _ m _ (by decide +kernel) (by exact cell_al (cell_al hm _) _)).mono ?_
  rintro e w1 ⟨rfl, rfl⟩
  rw [begun_3]
  go_wp2_with fail
  go_ret
  exact ⟨rfl, ((Below.refl _ _).alloc (Nat.le_refl _) _).alloc (by simp) _⟩

theorem openEnds_walk (A : Option Addr) (n c : Nat) (l : List ByteArray) (but : ByteArray) (m : Int) (w : World) (D : Nat → Prop) (hl : Sl tStr w D A n c l) (hm : w.cell? ⟨0, 0, none⟩ = some (.int .i64 m)) :
    Calls Try.prog 6 #[.slice A n c, .string but] w fun e w' => e = .returned (.bool true) ∧ Below w.heap.size w w' := by
  have hn1 : n ≤ 140737488355328 := hl.hb
  have HL := Lib.hid hl.hn
  obtain ⟨k, hk1, hk2, hk3, _⟩ := min_nat n 50 (by omega)
  have hkc : k ≤ c := Nat.le_trans hk2 hl.hc
  have hk := hl.cut_to hk2
  go_enter Try.func6, Try.ntmps6
  go_wp2_with fail
  refine (implied_any A k c _ but m _ _ hk hm (by omega)).mono ?_
  rintro e w1 ⟨rfl, rfl⟩
  generalize hj : endsN but (l.take k).reverse = j
  have HJ := Lib.hid hj
  clear hj
  have hjk : j ≤ k := by
    have := endsN_le but (l.take k).reverse
    rw [HJ.out, List.length_reverse, List.length_take] at this
    omega
  have hkj := hk.cut_to (show k - j ≤ k by omega)
  go_wp2_with fail
  refine (implied_any A (k - j) c _ but m _ _ hkj hm (by omega)).mono ?_
  rintro e w1 ⟨rfl, rfl⟩
  have HZ : endsN but ((l.take k).take (k - j)).reverse = 0 := endsN_again (by have := HL.out; simp; omega) HJ.out
  rw [HZ]
  clear HZ
  go_wp2_with fail
  go_loopw [9] (fun i wr => ∃ p : Nat, k - j ≤ p ∧ p ≤ k ∧ i = .int .i64 (p : Int) ∧ wr = w) (fun i _ => k - (intOf i).toNat)
  case atStart => exact ⟨k - j, Nat.le_refl _, by omega, by congr 1; omega, rfl⟩
  case round =>
    obtain ⟨p, hp1, hp2, rfl, rfl⟩ := hrel
    by_cases hlt : p < k
    · obtain ⟨x, hx⟩ : ∃ x, (l.take k)[p]? = some x := get_some (by have := HL.out; rw [List.length_take]; omega)
      obtain ⟨b, o, rfl, hb, hc, hxs⟩ := hk.str hx
      obtain ⟨h1, h2⟩ := endsN_get (i := k - 1 - p) (x := x) (by rw [HJ.out]; omega) (by
        have hlen : (l.take k).length = k := by have := HL.out; rw [List.length_take]; omega
        rw [List.getElem?_reverse (by omega), hlen, show k - 1 - (k - 1 - p) = p from by omega]
        exact hx)
      have HF := Lib.hid (implied_formatting h2)
      have HH := Lib.hid (implied_heading h2)
      clear h2
      go_wp2_with fail
      refine (formatting_any x m _ hxs hm).mono ?_
      rintro e w1 ⟨rfl, rfl⟩
      rw [HF.out]
      go_wp2_with fail
      refine (heading_any x _ hxs).mono ?_
      rintro e w1 ⟨rfl, rfl⟩
      rw [HH.out]
      go_wp2_with fail
      go_roundw
      case rel => exact ⟨p + 1, by omega, by omega, by go_num, by first | trivial | rfl⟩
      case measure => simp [intOf]; omega
    · go_wp2_with fail
      refine (openBegun_any m _ hm).mono ?_
      rintro e w1 ⟨rfl, hb⟩
      go_wp2_with fail
      go_ret
      exact ⟨rfl, hb⟩

end Go.Proofs.Ytabilpahmmkjkaa
