/-
The walk of apartBegun.
-/
import Derived.Test.YthkeciodjomakaaDoorFoldW2
import Derived.Test.YthkeciodjomakaaDoorApartW3
namespace Go.Proofs.YthkeciodjomakaaDoor
open Go.RowKit Go.Cl
attribute [local go_sem ↓] Go.wp_at_zero Go.wp_at_succ

def begunA : List Nd := [⟨1, ⟨#[]⟩, [], ⟨#[]⟩, -1, [1]⟩, ⟨4, ⟨#[]⟩, [], (⟨#[99]⟩ : ByteArray), 0, []⟩]
def begunN : Nd := ⟨0, ⟨#[]⟩, [], ⟨#[]⟩, 0, []⟩
def begunEa : Edt := ⟨3, 1, 0, 0, ⟨#[]⟩, (⟨#[97]⟩ : ByteArray), begunN⟩
def begunEb : Edt := ⟨3, 1, 0, 0, ⟨#[]⟩, (⟨#[98]⟩ : ByteArray), begunN⟩
def begunEc : Edt := ⟨3, 1, 0, 0, ⟨#[]⟩, ⟨#[]⟩, begunN⟩
def begunEd : Edt := ⟨6, 1, 0, 0, ⟨#[]⟩, ⟨#[]⟩, begunN⟩
theorem begun_apart : (alR begunA [begunEa, begunEb]).2.2 = 0 ∧ clS begunA begunEc begunEd = (true, 0) := by decide +kernel
theorem begun_fold : foldR [begunEa, begunEb] = [begunEb] := by
  unfold foldR
  rw [List.foldl_cons, settle_short (by simp)]
  exact fold_texts (n := 1) [begunEb] (fun e he => by obtain rfl := List.mem_singleton.1 he; exact ⟨rfl, rfl⟩) begunEa rfl rfl
theorem begun_ok {w : World} {D : Nat → Prop} {e : Edt} (h : e.node = begunN) (h1 : (Lit.int .i64 e.at_).wf = true) (h2 : (Lit.int .i64 e.to_).wf = true) (h3 : (Lit.int .i64 e.before).wf = true) (h4 : e.name.size ≤ 1152921504606846976) (h5 : e.value.size ≤ 1152921504606846976) : EdtOk w D e none 0 0 none 0 0 :=
  ⟨by rw [h]; exact ⟨Sl.nil, Sl.nil, by decide, by decide, by decide, by decide⟩, h1, h2, h3, h4, h5⟩
set_option maxRecDepth 100000 in
set_option maxHeartbeats 4000000 in
theorem apartBegun_any (w : World) : Calls Tryd.prog 14 #[] w fun e w' => e = .returned (.bool true) ∧ Below w.heap.size w w' := by
  obtain ⟨w1, hw1⟩ : ∃ w1, w1 = w.alloc (.cells #[.int .i64 1] 3) := ⟨_, rfl⟩
  have z1 : w1.heap.size = w.heap.size + 1 := by rw [hw1]; exact World.size_alloc w _
  obtain ⟨w2, hw2⟩ : ∃ w2, w2 = w1.alloc (.cells #[.int .i64 1, .string ⟨#[]⟩, .slice none 0 0, .string ⟨#[]⟩, .int .i64 (-1), .slice (some ⟨w.heap.size, 0, none⟩) 1 1, .int .i64 4, .string ⟨#[]⟩, .slice none 0 0, .string (⟨#[99]⟩ : ByteArray), .int .i64 0, .slice none 0 0] 28) := ⟨_, rfl⟩
  have z2 : w2.heap.size = w.heap.size + 1 + 1 := by rw [hw2, World.size_alloc, z1]
  obtain ⟨w3, hw3⟩ : ∃ w3, w3 = w2.alloc (.cells #[.slice (some ⟨w.heap.size + 1, 0, none⟩) 2 2, .bool false] 24) := ⟨_, rfl⟩
  obtain ⟨w4, hw4⟩ : ∃ w4, w4 = w3.alloc (.cells #[.int .i64 3, .int .i64 1, .int .i64 0, .int .i64 0, .string ⟨#[]⟩, .string (⟨#[97]⟩ : ByteArray), .int .i64 0, .string ⟨#[]⟩, .slice none 0 0, .string ⟨#[]⟩, .int .i64 0, .slice none 0 0, .int .i64 3, .int .i64 1, .int .i64 0, .int .i64 0, .string ⟨#[]⟩, .string (⟨#[98]⟩ : ByteArray), .int .i64 0, .string ⟨#[]⟩, .slice none 0 0, .string ⟨#[]⟩, .int .i64 0, .slice none 0 0] 30) := ⟨_, rfl⟩
  have hs1 : Sl (tInt .i64) w1 (lt w1.heap.size) (some ⟨w.heap.size, 0, none⟩) 1 1 [1] := by rw [z1, hw1]; exact ints_one (by decide)
  have hs2 : Sl tNd w2 (lt (w.heap.size + 1 + 1)) (some ⟨w.heap.size + 1, 0, none⟩) 2 2 begunA := by
    have h := Sl.fresh (n := 2) (w := w1) (B := w1.heap.size) 28 (T := tNd) (xs := begunA) ⟨ndCells ⟨1, ⟨#[]⟩, [], ⟨#[]⟩, -1, [1]⟩ none 0 0 (some ⟨w.heap.size, 0, none⟩) 1 1, _, rfl, nd_rep ⟨Sl.nil, hs1, by decide, by decide, by decide, by decide⟩, ndCells ⟨4, ⟨#[]⟩, [], (⟨#[99]⟩ : ByteArray), 0, []⟩ none 0 0 none 0 0, [], rfl, nd_rep ⟨Sl.nil, Sl.nil, by decide, by decide, by decide, by decide⟩, rfl⟩ (Nat.le_refl _) rfl (by decide)
    rw [hw2, ← z1]
    exact h
  have hb02 : Below w.heap.size w w2 := by rw [hw2, hw1]; exact ((Below.refl _ _).alloc (Nat.le_refl _) _).alloc (by simp) _
  have hb23 : Below w2.heap.size w2 w3 := by rw [hw3]; exact (Below.refl _ _).alloc (Nat.le_refl _) _
  have hb34 : Below w3.heap.size w3 w4 := by rw [hw4]; exact (Below.refl _ _).alloc (Nat.le_refl _) _
  have z3 : w3.heap.size = w.heap.size + 1 + 1 + 1 := by rw [hw3, World.size_alloc, z2]
  have hb03 := hb02.trans (hb23.mono hb02.size)
  have hx3 : w3.heap[w.heap.size + 1 + 1]? = some (.cells #[.slice (some ⟨w.heap.size + 1, 0, none⟩) 2 2, .bool false] 24 (0, 0)) := by rw [hw3, ← z2]; exact heap_alloc_new w2 _
  have hs3 := hs2.below hb23 (by omega)
  have hs4 : Sl tEdt w4 (lt (w3.heap.size + 1)) (some ⟨w3.heap.size, 0, none⟩) 2 2 [begunEa, begunEb] := by
    rw [hw4]
    exact Sl.fresh (n := 2) (w := w3) (B := w3.heap.size) 30 (T := tEdt) (xs := [begunEa, begunEb]) ⟨(edtCells begunEa none 0 0 none 0 0).toList, _, rfl, edt_rep (begun_ok rfl (by decide) (by decide) (by decide) (by decide) (by decide)) (by decide), (edtCells begunEb none 0 0 none 0 0).toList, [], rfl, edt_rep (begun_ok rfl (by decide) (by decide) (by decide) (by decide) (by decide)) (by decide), rfl⟩ (Nat.le_refl _) rfl (by decide)
  obtain ⟨l1, l2⟩ := begun_apart
  have HFO := Lib.hid (fold_any (some ⟨w.heap.size + 1, 0, none⟩) 2 2 begunA false (some ⟨w3.heap.size, 0, none⟩) 2 2 [begunEa, begunEb] w4 (w3.heap.size + 1) ((hs3.below hb34 (by omega)).up (by omega)) hs4 (by rw [hw4]; simp))
  have HCL : Hid (∀ W : World, Below w3.heap.size w3 W → Calls Tryd.prog 16 #[.agg #[.slice (some ⟨w.heap.size + 1, 0, none⟩) 2 2, .bool false], .agg (edtCells begunEc none 0 0 none 0 0), .agg (edtCells begunEd none 0 0 none 0 0)] W fun e' w' => e' = .returned (.tuple #[.bool true, .int .i64 0]) ∧ Below W.heap.size W w') := fun W hb => by
    have h := clash_any (some ⟨w.heap.size + 1, 0, none⟩) 2 2 begunA false begunEc none 0 0 none 0 0 begunEd none 0 0 none 0 0 W (w.heap.size + 1 + 1) (hs3.below hb (by omega)) (by have := hb.size; omega) (begun_ok rfl (by decide) (by decide) (by decide) (by decide) (by decide)) (begun_ok rfl (by decide) (by decide) (by decide) (by decide) (by decide))
    rw [l2] at h
    exact h
  have HB3 := Lib.hid hb03
  have HX3 := Lib.hid hx3
  have HB34 := Lib.hid hb34
  have HL1 := Lib.hid l1
  unfold edtCells begunEc begunEd begunN at HCL
  have d0 := cell_blk (i := 0) hx3 rfl
  have d1 := cell_blk (i := 1) hx3 rfl
  have y3 := (hb34.block _ (Array.getElem?_eq_some_iff.1 hx3).1).trans hx3
  clear z1 z2 z3 hs1 hs2 hb02 hb23 hb03 hx3 hs3 l1 l2 hb34 hs4
  go_enter Tryd.func14, Tryd.ntmps14
  go_upto_region 2 with fail
  rw [← hw1, ← hw2, ← hw3]
  clear hw1 hw2 hw3
  go_upto_region 3 with fail
  rw [← hw4]
  clear hw4
  refine HFO.out.mono ?_
  rintro e' w5 ⟨hb5, ⟨her, _⟩ | ⟨_, A', c', rfl, hs5⟩⟩
  · exact absurd HL1.out her
  rw [begun_fold] at hs5
  have hlen : (foldR [begunEa, begunEb]).length = 1 := by rw [begun_fold]; rfl
  rw [hlen]
  have HB5 := Lib.hid (HB34.out.trans (hb5.mono HB34.out.size))
  have hx5 := (hb5.block _ (Array.getElem?_eq_some_iff.1 y3).1).trans y3
  obtain ⟨b, o, Ab, nb, cb, Aj, nj, cj, rfl, hbb, hok, hce⟩ := edt_get (hs5.more (D' := fun _ => True) fun _ _ => trivial) (i := 0) (e := begunEb) rfl
  have q5 : w5.cell? ⟨b, o + 5, none⟩ = some (.string (⟨#[98]⟩ : ByteArray)) := by have := hce 5 _ rfl; rw [Nat.zero_mul, Nat.add_zero] at this; exact this
  have HS5 := Lib.hid hs5
  have hcap := hs5.hc
  have HC5 := Lib.hid (HCL.out w5 HB5.out)
  have e0 := cell_blk (i := 0) hx5 rfl
  have e1 := cell_blk (i := 1) hx5 rfl
  clear hs5 hlen hb5 hx5 hok hce y3 d0 d1 HFO HCL hbb
  go_upto_region 4 with (go_at_call 16; refine HC5.out.mono ?_; rintro e' w6 ⟨rfl, hb6⟩)
  have q6 := cell_be q5 hb6
  have HB6 := Lib.hid ((HB3.out.trans (HB5.out.mono HB3.out.size)).trans (hb6.mono (Nat.le_trans HB3.out.size HB5.out.size)))
  clear hb6 q5 e0 e1
  go_wp2_with fail
  go_ret
  exact ⟨rfl, HB6.out⟩
end Go.Proofs.YthkeciodjomakaaDoor
