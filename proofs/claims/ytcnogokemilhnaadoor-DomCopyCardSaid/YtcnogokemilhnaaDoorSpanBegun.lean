/-
The walk of spanBegun.
-/
import Derived.Test.YtcnogokemilhnaaDoorSpanAfter
import Derived.Test.YtcnogokemilhnaaDoorSpanBrief
namespace Go.Proofs.YtcnogokemilhnaaDoor
open Go.RowKit Go.Cl
attribute [local go_sem ↓] Go.wp_at_zero Go.wp_at_succ

def begunS : List Nd := [⟨1, ⟨#[]⟩, [], ⟨#[]⟩, -1, [1]⟩, ⟨4, ⟨#[]⟩, [], (⟨#[97, 98, 99]⟩ : ByteArray), 0, []⟩]
def begunT : Edt := ⟨3, 1, 0, 0, ⟨#[]⟩, (⟨#[97]⟩ : ByteArray), ⟨0, ⟨#[]⟩, [], ⟨#[]⟩, 0, []⟩⟩
theorem begun_span : lessS begunS ⟨0, 0⟩ ⟨1, 2⟩ = (true, 0) ∧ spanS begunS ⟨1, 0⟩ ⟨1, 3⟩ = 0 ∧ apErr begunS begunT = 0 ∧ textTo ⟨1, 0⟩ begunT = 0 ∧ textTo ⟨1, 3⟩ begunT = 1 := by decide +kernel
set_option maxRecDepth 100000 in
set_option maxHeartbeats 4000000 in
theorem spanBegun_any (w : World) : Calls Tryd.prog 27 #[] w fun e w' => e = .returned (.bool true) ∧ Below w.heap.size w w' := by
  obtain ⟨w1, hw1⟩ : ∃ w1, w1 = w.alloc (.cells #[.int .i64 1] 3) := ⟨_, rfl⟩
  have z1 : w1.heap.size = w.heap.size + 1 := by rw [hw1]; exact World.size_alloc w _
  obtain ⟨w2, hw2⟩ : ∃ w2, w2 = w1.alloc (.cells #[.int .i64 1, .string ⟨#[]⟩, .slice none 0 0, .string ⟨#[]⟩, .int .i64 (-1), .slice (some ⟨w.heap.size, 0, none⟩) 1 1, .int .i64 4, .string ⟨#[]⟩, .slice none 0 0, .string (⟨#[97, 98, 99]⟩ : ByteArray), .int .i64 0, .slice none 0 0] 38) := ⟨_, rfl⟩
  have z2 : w2.heap.size = w.heap.size + 1 + 1 := by rw [hw2, World.size_alloc, z1]
  obtain ⟨w3, hw3⟩ : ∃ w3, w3 = w2.alloc (.cells #[.slice (some ⟨w.heap.size + 1, 0, none⟩) 2 2, .bool false] 24) := ⟨_, rfl⟩
  have hs1 : Sl (tInt .i64) w1 (lt w1.heap.size) (some ⟨w.heap.size, 0, none⟩) 1 1 [1] := by rw [z1, hw1]; exact ints_one (by decide)
  have hs2 : Sl tNd w2 (lt (w.heap.size + 1 + 1)) (some ⟨w.heap.size + 1, 0, none⟩) 2 2 begunS := by
    have h := Sl.fresh (n := 2) (w := w1) (B := w1.heap.size) 38 (T := tNd) (xs := begunS) ⟨ndCells ⟨1, ⟨#[]⟩, [], ⟨#[]⟩, -1, [1]⟩ none 0 0 (some ⟨w.heap.size, 0, none⟩) 1 1, _, rfl, nd_rep ⟨Sl.nil, hs1, by decide, by decide, by decide, by decide⟩, ndCells ⟨4, ⟨#[]⟩, [], (⟨#[97, 98, 99]⟩ : ByteArray), 0, []⟩ none 0 0 none 0 0, [], rfl, nd_rep ⟨Sl.nil, Sl.nil, by decide, by decide, by decide, by decide⟩, rfl⟩ (Nat.le_refl _) rfl (by decide)
    rw [hw2, ← z1]
    exact h
  have hb02 : Below w.heap.size w w2 := by rw [hw2, hw1]; exact ((Below.refl _ _).alloc (Nat.le_refl _) _).alloc (by simp) _
  have hb23 : Below w2.heap.size w2 w3 := by rw [hw3]; exact (Below.refl _ _).alloc (Nat.le_refl _) _
  have hb03 := hb02.trans (hb23.mono hb02.size)
  have hx3 : w3.heap[w.heap.size + 1 + 1]? = some (.cells #[.slice (some ⟨w.heap.size + 1, 0, none⟩) 2 2, .bool false] 24 (0, 0)) := by rw [hw3, ← z2]; exact heap_alloc_new w2 _
  have hs3 := hs2.below hb23 (by omega)
  have hz3 : w.heap.size + 1 + 1 ≤ w3.heap.size := by rw [← z2]; exact hb23.size
  obtain ⟨l1, l2, l3, l4, l5⟩ := begun_span
  have HLS := Lib.hid (less_any (some ⟨w.heap.size + 1, 0, none⟩) 2 2 begunS false ⟨0, 0⟩ ⟨1, 2⟩ w3 _ hs3 hz3 (by decide) (by decide) (by decide) (by decide))
  rw [l1] at HLS
  have HAF : Hid (∀ W : World, Below w3.heap.size w3 W → Calls Tryd.prog 29 #[.agg #[.slice (some ⟨w.heap.size + 1, 0, none⟩) 2 2, .bool false], .agg (edtCells begunT none 0 0 none 0 0), .agg #[.int .i64 1, .int .i64 0, .int .i64 1, .int .i64 3]] W fun e' w' => e' = .returned (.tuple #[.agg #[.int .i64 1, .int .i64 0, .int .i64 1, .int .i64 1], .int .i64 0]) ∧ Below W.heap.size W w') := fun W hb => by
    have h := after_text (some ⟨w.heap.size + 1, 0, none⟩) 2 2 begunS false begunT none 0 0 none 0 0 ⟨1, 0⟩ ⟨1, 3⟩ W _ (hs3.below hb hz3) (Nat.le_trans hz3 hb.size) ⟨⟨Sl.nil, Sl.nil, by decide, by decide, by decide, by decide⟩, by decide, by decide, by decide, by decide, by decide⟩ (by decide) (by decide) (by decide) (by decide) rfl l2 l3
    rw [l4, l5] at h
    exact h
  have HB3 := Lib.hid hb03
  have HX3 := Lib.hid hx3
  unfold edtCells begunT at HAF
  have d0 := cell_blk (i := 0) hx3 rfl
  have d1 := cell_blk (i := 1) hx3 rfl
  clear z1 z2 hs1 hs2 hb02 hb23 hb03 hx3 hs3 hz3 l1 l2 l3 l4 l5
  go_enter Tryd.func27, Tryd.ntmps27
  go_upto_region 2 with fail
  rw [← hw1, ← hw2, ← hw3]
  clear hw1 hw2 hw3
  go_upto_region 3 with (go_at_call 26; refine HLS.out.mono ?_; rintro e' w4 ⟨rfl, hb4⟩)
  have y3 := (hb4.block _ (Array.getElem?_eq_some_iff.1 HX3.out).1).trans HX3.out
  have HA4 := Lib.hid (HAF.out w4 hb4)
  have HB4 := Lib.hid (HB3.out.trans (hb4.mono HB3.out.size))
  have c0 := cell_blk (i := 0) y3 rfl
  have c1 := cell_blk (i := 1) y3 rfl
  clear y3 hb4 d0 d1 HLS HAF
  go_upto_region 4 with (go_at_call 29; refine HA4.out.mono ?_; rintro e' w5 ⟨rfl, hb5⟩)
  have HB5 := Lib.hid (HB4.out.trans (hb5.mono HB4.out.size))
  have HAL := Lib.hid (fun o => HB5.out.alloc HB5.out.size o)
  go_wp2_with fail
  go_ret
  exact ⟨rfl, HAL.out _⟩
end Go.Proofs.YtcnogokemilhnaaDoor
