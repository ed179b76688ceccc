/-
What must be in any case: charsBegun.
-/
import Derived.Test.YtabilpahmmkjkaaDoorClean2
namespace Go.Proofs.YtabilpahmmkjkaaDoor
open Go.RowKit Go.Cl

set_option maxRecDepth 100000 in
theorem begun_c : (cleanL (signsL 0 (⟨#[97, 13, 10, 98, 13, 99, 0, 255]⟩ : ByteArray).data.toList)).1 = [97, 10, 98, 10, 99, 239, 191, 189, 239, 191, 189] := by decide +kernel
theorem charsBegun_any (w : World) :
    Calls Tryd.prog 10 #[] w fun e w' => e = .returned (.bool true) ∧ Below w.heap.size w w' := by
  have HC := Lib.hid (fun W => clean_any ⟨#[97, 13, 10, 98, 13, 99, 0, 255]⟩ W (by decide +kernel))
  rw [begun_c] at HC
  have hw1 : (Lit.int .i32 97).wf = true := by decide +kernel
  have hw2 : (Lit.int .i32 (-1)).wf = true := by decide +kernel
  have hsl : ∀ W : World, Sl (tInt .i32) (W.alloc (.cells #[.int .i32 97, .int .i32 (-1)] 21)) (lt (W.heap.size + 1)) (some ⟨W.heap.size, 0, none⟩) 2 2 [97, -1] := fun W =>
    { hn := rfl, hc := Nat.le_refl _, hb := by decide, hm := by decide, nil_ := by simp, at_ := fun _ => ⟨W.heap.size, 0, [.int .i32 97, .int .i32 (-1)], rfl, Nat.lt_succ_self _, ⟨[.int .i32 97], [.int .i32 (-1)], rfl, ⟨rfl, hw1⟩, [.int .i32 (-1)], [], rfl, ⟨rfl, hw2⟩, rfl⟩, cell_new W [.int .i32 97, .int .i32 (-1)] _⟩ }
  have HE := Lib.hid (fun W : World => encode_any _ 2 2 [97, -1] _ (W.heap.size + 1) (hsl W) (by rw [World.size_alloc]; exact Nat.le_refl _))
  rw [show encB [97, -1] = [97, 239, 191, 189] from by decide +kernel] at HE
  clear hsl
  go_enter Tryd.func10, Tryd.ntmps10
  go_wp2_with fail
  refine (HC.out _).mono ?_
  rintro e w1 ⟨rfl, hb1⟩
  go_wp2_with fail
  refine (HE.out _).mono ?_
  rintro e w2 ⟨rfl, hb2⟩
  go_wp2_with fail
  go_ret
  have hz := hb1.size
  exact ⟨rfl, (hb1.trans ((Below.refl _ w1).alloc (by omega) _)).trans (hb2.mono (by rw [World.size_alloc]; omega))⟩
end Go.Proofs.YtabilpahmmkjkaaDoor
