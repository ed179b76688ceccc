/-
The walk of WalkBack.
-/
import Derived.Test.YtabilpahmmkjkaaDoorWalkBackLaw
namespace Go.Proofs.YtabilpahmmkjkaaDoor
open Go.RowKit Go.Cl
attribute [local go_sem ↓] Go.wp_at_zero Go.wp_at_succ

set_option maxRecDepth 100000 in
set_option maxHeartbeats 4000000 in
theorem walkBack_walk (A : Option Addr) (n c : Nat) (l : List Nd) (q : Bool) (m hw : Int) (w : World) (B : Nat) (hl : Sl tNd w (lt B) A n c l) (hB : B ≤ w.heap.size) (hmw : (Lit.int .i64 m).wf = true) :
    Calls Tryd.prog 6 #[.agg #[.slice A n c, .bool q], .int .i64 m, .int .i64 hw] w fun e w' => e = .returned (.bool true) ∧ Below w.heap.size w w' := by
  obtain ⟨w0, hw0⟩ : ∃ w0, w0 = w.alloc (.cells #[.slice A n c, .bool q] 34) := ⟨_, rfl⟩
  have hbx : w0.heap[w.heap.size]? = some (.cells #[.slice A n c, .bool q] 34 (0, 0)) := by rw [hw0]; exact heap_alloc_new w _
  have b0 : w0.cell? ⟨w.heap.size, 0, none⟩ = some (.slice A n c) := cell_blk hbx rfl
  have b1 : w0.cell? ⟨w.heap.size, 1, none⟩ = some (.bool q) := cell_blk hbx rfl
  have hb0 : Below w.heap.size w w0 := by rw [hw0]; exact (Below.refl _ _).alloc (Nat.le_refl _) _
  have hz0 : w0.heap.size = w.heap.size + 1 := by rw [hw0]; exact World.size_alloc w _
  have HB0 := Lib.hid hb0
  have HBX := Lib.hid hbx
  have HL := Lib.hid hl
  obtain ⟨k, hk, hkc, hkn⟩ : ∃ k : Nat, min (n : Int) 60 = (k : Int) ∧ k ≤ c ∧ k ≤ n := ⟨min n 60, by omega, by have := hl.hc; omega, by omega⟩
  have HF := Lib.hid (few_any A n c k q 60 w0 hk hkc)
  clear hb0 hl
  go_enter Tryd.func6, Tryd.ntmps6
  go_upto_region 1 with fail
  rw [← hw0]
  clear hw0
  go_upto_region 2 with (go_at_call 18; refine HF.out.mono ?_; rintro e w1 ⟨rfl, hb1⟩; have hbx1 : w1.heap[w.heap.size]? = some (.cells #[.slice A n c, .bool q] 34 (0, 0)) := (hb1.block _ (by omega)).trans HBX.out; have y0 : w1.cell? ⟨w.heap.size, 0, none⟩ = some (.slice A n c) := cell_blk hbx1 rfl; have y1 : w1.cell? ⟨w.heap.size, 1, none⟩ = some (.bool q) := cell_blk hbx1 rfl; have f0 : w1.frozen? ⟨w.heap.size, 0, none⟩ = false := free_blk hbx1; have f1 : w1.frozen? ⟨w.heap.size, 1, none⟩ = false := free_blk hbx1)
  obtain ⟨w2, hw2⟩ : ∃ w2, w2 = (w1.setCell ⟨w.heap.size, 0, none⟩ (.slice A k c)).setCell ⟨w.heap.size, 1, none⟩ (.bool q) := ⟨_, rfl⟩
  have hb2 : Below w.heap.size w w2 := by rw [hw2]; exact ((HB0.out.trans (hb1.mono HB0.out.size)).setCell (Nat.le_refl _) _).setCell (Nat.le_refl _) _
  have hbx2 : w2.heap[w.heap.size]? = some (.cells #[.slice A k c, .bool q] 34 (0, 0)) := by rw [hw2]; exact set_blk (set_blk hbx1 _) _
  rw [← hw2]
  have z0 : w2.cell? ⟨w.heap.size, 0, none⟩ = some (.slice A k c) := cell_blk hbx2 rfl
  have z1 : w2.cell? ⟨w.heap.size, 1, none⟩ = some (.bool q) := cell_blk hbx2 rfl
  have HB2 := Lib.hid hb2
  have HBX2 := Lib.hid hbx2
  have hl2 := (HL.out.cut_to hkn).below hb2 hB
  have hB2 : B ≤ w2.heap.size := Nat.le_trans hB hb2.size
  have HL2 := Lib.hid hl2
  clear hw2 hb1 hbx1 y0 y1 f0 f1 b0 b1 hb2 hbx2 hbx hl2 HL HF
  generalize l.take k = l at *
  have HWB := Lib.hid (fun u => walkBegun_any u)
  obtain ⟨j, hj, ej⟩ := and7 hw
  have hjj : (j = 2 ∨ j = 7) ∨ (j = 0 ∨ j = 1 ∨ j = 3 ∨ j = 4 ∨ j = 5 ∨ j = 6) := by omega
  rcases hjj with hjj | hjj
  · have HBG := Lib.hid (HWB.out w2)
    rcases hjj with rfl | rfl
    · go_wp2_with (go_at_call 19; refine HBG.out.mono ?_; rintro e w3 ⟨rfl, hb3⟩)
      refine bodyPost_ret (v := .bool true) (by simp [results, Tryd.results6, go_sem]) rfl ⟨rfl, ?_⟩
      exact HB2.out.trans (hb3.mono HB2.out.size)
    · go_wp2_with (go_at_call 19; refine HBG.out.mono ?_; rintro e w3 ⟨rfl, hb3⟩)
      refine bodyPost_ret (v := .bool true) (by simp [results, Tryd.results6, go_sem]) rfl ⟨rfl, ?_⟩
      exact HB2.out.trans (hb3.mono HB2.out.size)
  · obtain ⟨h, bk, hh, ebk, hjb⟩ : ∃ h bk : Int, (h = 1 ∨ h = 2 ∨ h = 4 ∨ h = 5 ∨ h = 6 ∨ h = 7) ∧ backH h = bk ∧ ((j = 0 ∧ h = 1 ∧ bk = 2) ∨ (j = 1 ∧ h = 2 ∧ bk = 1) ∨ (j = 3 ∧ h = 4 ∧ bk = 8) ∨ (j = 4 ∧ h = 5 ∧ bk = 8) ∨ (j = 5 ∧ h = 6 ∧ bk = 7) ∨ (j = 6 ∧ h = 7 ∧ bk = 6)) := by
      rcases hjj with rfl | rfl | rfl | rfl | rfl | rfl
      · exact ⟨1, 2, by simp, rfl, by simp⟩
      · exact ⟨2, 1, by simp, rfl, by simp⟩
      · exact ⟨4, 8, by simp, rfl, by simp⟩
      · exact ⟨5, 8, by simp, rfl, by simp⟩
      · exact ⟨6, 7, by simp, rfl, by simp⟩
      · exact ⟨7, 6, by simp, rfl, by simp⟩
    obtain ⟨⟨r, ok, er⟩, hst⟩ : ∃ x, x = stepS l m h := ⟨_, rfl⟩
    have HS := Lib.hid (stepS_any A k c l q m h w2 B HL2.out hB2 hmw)
    rw [← hst] at HS
    have HST := Lib.hid hst
    have HBK : Hid (r = r ∧ (er ≠ 0 ∨ ok = false) → r = 0) := fun ⟨_, hx⟩ => by
      have := stepS_none (l := l) (m := m) (how := h) (by rw [← hst]; exact hx)
      rw [← hst] at this
      exact this
    have HBK2 : Hid (er = 0 → ok = true → stepS l r bk = (m, true, 0) ∧ (Lit.int .i64 r).wf = true) := fun h1 h2 => by
      subst h1 h2
      have := stepS_back hh hst.symm
      rw [ebk] at this
      exact this
    clear hst hh ebk hjj HST
    rcases hjb with ⟨rfl, rfl, rfl⟩ | ⟨rfl, rfl, rfl⟩ | ⟨rfl, rfl, rfl⟩ | ⟨rfl, rfl, rfl⟩ | ⟨rfl, rfl, rfl⟩ | ⟨rfl, rfl, rfl⟩
    ·
      go_upto_region 6 with (go_at_call 20; refine HS.out.mono ?_; rintro e w3 ⟨rfl, hb3⟩)
      have HB3 := Lib.hid (HB2.out.trans (hb3.mono HB2.out.size))
      have hbx3 : w3.heap[w.heap.size]? = some (.cells #[.slice A k c, .bool q] 34 (0, 0)) := (hb3.block _ (Array.getElem?_eq_some_iff.1 HBX2.out).1).trans HBX2.out
      have HL3 := Lib.hid (HL2.out.below hb3 hB2)
      have hB3 : B ≤ w3.heap.size := Nat.le_trans hB2 hb3.size
      have y0 : w3.cell? ⟨w.heap.size, 0, none⟩ = some (.slice A k c) := cell_blk hbx3 rfl
      have y1 : w3.cell? ⟨w.heap.size, 1, none⟩ = some (.bool q) := cell_blk hbx3 rfl
      have HBX3 := Lib.hid hbx3
      clear hb3 hbx3 HS HBX2 z0 z1
      have HBG := Lib.hid (HWB.out w3)
      by_cases he : er = 0
      · subst he
        cases ok with
        | false =>
          obtain rfl : r = 0 := HBK.out ⟨by simp, Or.inr rfl⟩
          go_wp2_with (go_at_call 19; refine HBG.out.mono ?_; rintro e w4 ⟨rfl, hb4⟩)
          refine bodyPost_ret (v := .bool true) (by simp [results, Tryd.results6, go_sem]) rfl ⟨rfl, ?_⟩
          exact HB3.out.trans (hb4.mono HB3.out.size)
        | true =>
          obtain ⟨hsb, hrw⟩ := HBK2.out rfl rfl
          go_upto_region 9 with fail
          obtain ⟨w4, hw4⟩ : ∃ w4, w4 = w3.alloc (.cells #[.int .i64 0, .int .i64 2, .int .i64 1, .int .i64 0, .int .i64 8, .int .i64 8, .int .i64 7, .int .i64 6] 3) := ⟨_, rfl⟩
          have hb4 : Below w.heap.size w w4 := by rw [hw4]; exact HB3.out.alloc HB3.out.size _
          have hbx4 : w4.heap[w.heap.size]? = some (.cells #[.slice A k c, .bool q] 34 (0, 0)) := by rw [hw4]; exact (Lib.alloc_old w3 _ _ (Array.getElem?_eq_some_iff.1 HBX3.out).1).trans HBX3.out
          have hl4 : Sl tNd w4 (lt B) A k c l := by rw [hw4]; exact HL3.out.al hB3 _
          rw [← hw4]
          have HS2 := Lib.hid (stepS_any A k c l q r 2 w4 B hl4 (by rw [hw4, World.size_alloc]; omega) hrw)
          rw [hsb] at HS2
          have z0 : w4.cell? ⟨w.heap.size, 0, none⟩ = some (.slice A k c) := cell_blk hbx4 rfl
          have z1 : w4.cell? ⟨w.heap.size, 1, none⟩ = some (.bool q) := cell_blk hbx4 rfl
          have HB4 := Lib.hid hb4
          clear hw4 hb4 hbx4 hl4 y0 y1 hsb hrw
          go_upto_region 10 with (go_at_call 20; refine HS2.out.mono ?_; rintro e w5 ⟨rfl, hb5⟩)
          have HB5 := Lib.hid (HB4.out.trans (hb5.mono HB4.out.size))
          have HBG5 := Lib.hid (HWB.out w5)
          clear hb5
          go_wp2_with (go_at_call 19; refine HBG5.out.mono ?_; rintro e w6 ⟨rfl, hb6⟩)
          refine bodyPost_ret (v := .bool true) (by simp [results, Tryd.results6, go_sem]) rfl ⟨rfl, ?_⟩
          exact HB5.out.trans (hb6.mono HB5.out.size)
      · obtain rfl : r = 0 := HBK.out ⟨by simp, Or.inl he⟩
        have he1 : (er != 0) = true := by simpa using he
        clear HBK HBK2
        go_wp2_with (go_at_call 19; refine HBG.out.mono ?_; rintro e w4 ⟨rfl, hb4⟩)
        refine bodyPost_ret (v := .bool true) (by simp [results, Tryd.results6, go_sem]) rfl ⟨rfl, ?_⟩
        exact HB3.out.trans (hb4.mono HB3.out.size)

    ·
      go_upto_region 6 with (go_at_call 20; refine HS.out.mono ?_; rintro e w3 ⟨rfl, hb3⟩)
      have HB3 := Lib.hid (HB2.out.trans (hb3.mono HB2.out.size))
      have hbx3 : w3.heap[w.heap.size]? = some (.cells #[.slice A k c, .bool q] 34 (0, 0)) := (hb3.block _ (Array.getElem?_eq_some_iff.1 HBX2.out).1).trans HBX2.out
      have HL3 := Lib.hid (HL2.out.below hb3 hB2)
      have hB3 : B ≤ w3.heap.size := Nat.le_trans hB2 hb3.size
      have y0 : w3.cell? ⟨w.heap.size, 0, none⟩ = some (.slice A k c) := cell_blk hbx3 rfl
      have y1 : w3.cell? ⟨w.heap.size, 1, none⟩ = some (.bool q) := cell_blk hbx3 rfl
      have HBX3 := Lib.hid hbx3
      clear hb3 hbx3 HS HBX2 z0 z1
      have HBG := Lib.hid (HWB.out w3)
      by_cases he : er = 0
      · subst he
        cases ok with
        | false =>
          obtain rfl : r = 0 := HBK.out ⟨by simp, Or.inr rfl⟩
          go_wp2_with (go_at_call 19; refine HBG.out.mono ?_; rintro e w4 ⟨rfl, hb4⟩)
          refine bodyPost_ret (v := .bool true) (by simp [results, Tryd.results6, go_sem]) rfl ⟨rfl, ?_⟩
          exact HB3.out.trans (hb4.mono HB3.out.size)
        | true =>
          obtain ⟨hsb, hrw⟩ := HBK2.out rfl rfl
          go_upto_region 9 with fail
          obtain ⟨w4, hw4⟩ : ∃ w4, w4 = w3.alloc (.cells #[.int .i64 0, .int .i64 2, .int .i64 1, .int .i64 0, .int .i64 8, .int .i64 8, .int .i64 7, .int .i64 6] 3) := ⟨_, rfl⟩
          have hb4 : Below w.heap.size w w4 := by rw [hw4]; exact HB3.out.alloc HB3.out.size _
          have hbx4 : w4.heap[w.heap.size]? = some (.cells #[.slice A k c, .bool q] 34 (0, 0)) := by rw [hw4]; exact (Lib.alloc_old w3 _ _ (Array.getElem?_eq_some_iff.1 HBX3.out).1).trans HBX3.out
          have hl4 : Sl tNd w4 (lt B) A k c l := by rw [hw4]; exact HL3.out.al hB3 _
          rw [← hw4]
          have HS2 := Lib.hid (stepS_any A k c l q r 1 w4 B hl4 (by rw [hw4, World.size_alloc]; omega) hrw)
          rw [hsb] at HS2
          have z0 : w4.cell? ⟨w.heap.size, 0, none⟩ = some (.slice A k c) := cell_blk hbx4 rfl
          have z1 : w4.cell? ⟨w.heap.size, 1, none⟩ = some (.bool q) := cell_blk hbx4 rfl
          have HB4 := Lib.hid hb4
          clear hw4 hb4 hbx4 hl4 y0 y1 hsb hrw
          go_upto_region 10 with (go_at_call 20; refine HS2.out.mono ?_; rintro e w5 ⟨rfl, hb5⟩)
          have HB5 := Lib.hid (HB4.out.trans (hb5.mono HB4.out.size))
          have HBG5 := Lib.hid (HWB.out w5)
          clear hb5
          go_wp2_with (go_at_call 19; refine HBG5.out.mono ?_; rintro e w6 ⟨rfl, hb6⟩)
          refine bodyPost_ret (v := .bool true) (by simp [results, Tryd.results6, go_sem]) rfl ⟨rfl, ?_⟩
          exact HB5.out.trans (hb6.mono HB5.out.size)
      · obtain rfl : r = 0 := HBK.out ⟨by simp, Or.inl he⟩
        have he1 : (er != 0) = true := by simpa using he
        clear HBK HBK2
        go_wp2_with (go_at_call 19; refine HBG.out.mono ?_; rintro e w4 ⟨rfl, hb4⟩)
        refine bodyPost_ret (v := .bool true) (by simp [results, Tryd.results6, go_sem]) rfl ⟨rfl, ?_⟩
        exact HB3.out.trans (hb4.mono HB3.out.size)

    ·
      go_upto_region 6 with (go_at_call 20; refine HS.out.mono ?_; rintro e w3 ⟨rfl, hb3⟩)
      have HB3 := Lib.hid (HB2.out.trans (hb3.mono HB2.out.size))
      have hbx3 : w3.heap[w.heap.size]? = some (.cells #[.slice A k c, .bool q] 34 (0, 0)) := (hb3.block _ (Array.getElem?_eq_some_iff.1 HBX2.out).1).trans HBX2.out
      have HL3 := Lib.hid (HL2.out.below hb3 hB2)
      have hB3 : B ≤ w3.heap.size := Nat.le_trans hB2 hb3.size
      have y0 : w3.cell? ⟨w.heap.size, 0, none⟩ = some (.slice A k c) := cell_blk hbx3 rfl
      have y1 : w3.cell? ⟨w.heap.size, 1, none⟩ = some (.bool q) := cell_blk hbx3 rfl
      have HBX3 := Lib.hid hbx3
      clear hb3 hbx3 HS HBX2 z0 z1
      have HBG := Lib.hid (HWB.out w3)
      by_cases he : er = 0
      · subst he
        cases ok with
        | false =>
          obtain rfl : r = 0 := HBK.out ⟨by simp, Or.inr rfl⟩
          go_wp2_with (go_at_call 19; refine HBG.out.mono ?_; rintro e w4 ⟨rfl, hb4⟩)
          refine bodyPost_ret (v := .bool true) (by simp [results, Tryd.results6, go_sem]) rfl ⟨rfl, ?_⟩
          exact HB3.out.trans (hb4.mono HB3.out.size)
        | true =>
          obtain ⟨hsb, hrw⟩ := HBK2.out rfl rfl
          go_upto_region 9 with fail
          obtain ⟨w4, hw4⟩ : ∃ w4, w4 = w3.alloc (.cells #[.int .i64 0, .int .i64 2, .int .i64 1, .int .i64 0, .int .i64 8, .int .i64 8, .int .i64 7, .int .i64 6] 3) := ⟨_, rfl⟩
          have hb4 : Below w.heap.size w w4 := by rw [hw4]; exact HB3.out.alloc HB3.out.size _
          have hbx4 : w4.heap[w.heap.size]? = some (.cells #[.slice A k c, .bool q] 34 (0, 0)) := by rw [hw4]; exact (Lib.alloc_old w3 _ _ (Array.getElem?_eq_some_iff.1 HBX3.out).1).trans HBX3.out
          have hl4 : Sl tNd w4 (lt B) A k c l := by rw [hw4]; exact HL3.out.al hB3 _
          rw [← hw4]
          have HS2 := Lib.hid (stepS_any A k c l q r 8 w4 B hl4 (by rw [hw4, World.size_alloc]; omega) hrw)
          rw [hsb] at HS2
          have z0 : w4.cell? ⟨w.heap.size, 0, none⟩ = some (.slice A k c) := cell_blk hbx4 rfl
          have z1 : w4.cell? ⟨w.heap.size, 1, none⟩ = some (.bool q) := cell_blk hbx4 rfl
          have HB4 := Lib.hid hb4
          clear hw4 hb4 hbx4 hl4 y0 y1 hsb hrw
          go_upto_region 10 with (go_at_call 20; refine HS2.out.mono ?_; rintro e w5 ⟨rfl, hb5⟩)
          have HB5 := Lib.hid (HB4.out.trans (hb5.mono HB4.out.size))
          have HBG5 := Lib.hid (HWB.out w5)
          clear hb5
          go_wp2_with (go_at_call 19; refine HBG5.out.mono ?_; rintro e w6 ⟨rfl, hb6⟩)
          refine bodyPost_ret (v := .bool true) (by simp [results, Tryd.results6, go_sem]) rfl ⟨rfl, ?_⟩
          exact HB5.out.trans (hb6.mono HB5.out.size)
      · obtain rfl : r = 0 := HBK.out ⟨by simp, Or.inl he⟩
        have he1 : (er != 0) = true := by simpa using he
        clear HBK HBK2
        go_wp2_with (go_at_call 19; refine HBG.out.mono ?_; rintro e w4 ⟨rfl, hb4⟩)
        refine bodyPost_ret (v := .bool true) (by simp [results, Tryd.results6, go_sem]) rfl ⟨rfl, ?_⟩
        exact HB3.out.trans (hb4.mono HB3.out.size)

    ·
      go_upto_region 6 with (go_at_call 20; refine HS.out.mono ?_; rintro e w3 ⟨rfl, hb3⟩)
      have HB3 := Lib.hid (HB2.out.trans (hb3.mono HB2.out.size))
      have hbx3 : w3.heap[w.heap.size]? = some (.cells #[.slice A k c, .bool q] 34 (0, 0)) := (hb3.block _ (Array.getElem?_eq_some_iff.1 HBX2.out).1).trans HBX2.out
      have HL3 := Lib.hid (HL2.out.below hb3 hB2)
      have hB3 : B ≤ w3.heap.size := Nat.le_trans hB2 hb3.size
      have y0 : w3.cell? ⟨w.heap.size, 0, none⟩ = some (.slice A k c) := cell_blk hbx3 rfl
      have y1 : w3.cell? ⟨w.heap.size, 1, none⟩ = some (.bool q) := cell_blk hbx3 rfl
      have HBX3 := Lib.hid hbx3
      clear hb3 hbx3 HS HBX2 z0 z1
      have HBG := Lib.hid (HWB.out w3)
      by_cases he : er = 0
      · subst he
        cases ok with
        | false =>
          obtain rfl : r = 0 := HBK.out ⟨by simp, Or.inr rfl⟩
          go_wp2_with (go_at_call 19; refine HBG.out.mono ?_; rintro e w4 ⟨rfl, hb4⟩)
          refine bodyPost_ret (v := .bool true) (by simp [results, Tryd.results6, go_sem]) rfl ⟨rfl, ?_⟩
          exact HB3.out.trans (hb4.mono HB3.out.size)
        | true =>
          obtain ⟨hsb, hrw⟩ := HBK2.out rfl rfl
          go_upto_region 9 with fail
          obtain ⟨w4, hw4⟩ : ∃ w4, w4 = w3.alloc (.cells #[.int .i64 0, .int .i64 2, .int .i64 1, .int .i64 0, .int .i64 8, .int .i64 8, .int .i64 7, .int .i64 6] 3) := ⟨_, rfl⟩
          have hb4 : Below w.heap.size w w4 := by rw [hw4]; exact HB3.out.alloc HB3.out.size _
          have hbx4 : w4.heap[w.heap.size]? = some (.cells #[.slice A k c, .bool q] 34 (0, 0)) := by rw [hw4]; exact (Lib.alloc_old w3 _ _ (Array.getElem?_eq_some_iff.1 HBX3.out).1).trans HBX3.out
          have hl4 : Sl tNd w4 (lt B) A k c l := by rw [hw4]; exact HL3.out.al hB3 _
          rw [← hw4]
          have HS2 := Lib.hid (stepS_any A k c l q r 8 w4 B hl4 (by rw [hw4, World.size_alloc]; omega) hrw)
          rw [hsb] at HS2
          have z0 : w4.cell? ⟨w.heap.size, 0, none⟩ = some (.slice A k c) := cell_blk hbx4 rfl
          have z1 : w4.cell? ⟨w.heap.size, 1, none⟩ = some (.bool q) := cell_blk hbx4 rfl
          have HB4 := Lib.hid hb4
          clear hw4 hb4 hbx4 hl4 y0 y1 hsb hrw
          go_upto_region 10 with (go_at_call 20; refine HS2.out.mono ?_; rintro e w5 ⟨rfl, hb5⟩)
          have HB5 := Lib.hid (HB4.out.trans (hb5.mono HB4.out.size))
          have HBG5 := Lib.hid (HWB.out w5)
          clear hb5
          go_wp2_with (go_at_call 19; refine HBG5.out.mono ?_; rintro e w6 ⟨rfl, hb6⟩)
          refine bodyPost_ret (v := .bool true) (by simp [results, Tryd.results6, go_sem]) rfl ⟨rfl, ?_⟩
          exact HB5.out.trans (hb6.mono HB5.out.size)
      · obtain rfl : r = 0 := HBK.out ⟨by simp, Or.inl he⟩
        have he1 : (er != 0) = true := by simpa using he
        clear HBK HBK2
        go_wp2_with (go_at_call 19; refine HBG.out.mono ?_; rintro e w4 ⟨rfl, hb4⟩)
        refine bodyPost_ret (v := .bool true) (by simp [results, Tryd.results6, go_sem]) rfl ⟨rfl, ?_⟩
        exact HB3.out.trans (hb4.mono HB3.out.size)

    ·
      go_upto_region 6 with (go_at_call 20; refine HS.out.mono ?_; rintro e w3 ⟨rfl, hb3⟩)
      have HB3 := Lib.hid (HB2.out.trans (hb3.mono HB2.out.size))
      have hbx3 : w3.heap[w.heap.size]? = some (.cells #[.slice A k c, .bool q] 34 (0, 0)) := (hb3.block _ (Array.getElem?_eq_some_iff.1 HBX2.out).1).trans HBX2.out
      have HL3 := Lib.hid (HL2.out.below hb3 hB2)
      have hB3 : B ≤ w3.heap.size := Nat.le_trans hB2 hb3.size
      have y0 : w3.cell? ⟨w.heap.size, 0, none⟩ = some (.slice A k c) := cell_blk hbx3 rfl
      have y1 : w3.cell? ⟨w.heap.size, 1, none⟩ = some (.bool q) := cell_blk hbx3 rfl
      have HBX3 := Lib.hid hbx3
      clear hb3 hbx3 HS HBX2 z0 z1
      have HBG := Lib.hid (HWB.out w3)
      by_cases he : er = 0
      · subst he
        cases ok with
        | false =>
          obtain rfl : r = 0 := HBK.out ⟨by simp, Or.inr rfl⟩
          go_wp2_with (go_at_call 19; refine HBG.out.mono ?_; rintro e w4 ⟨rfl, hb4⟩)
          refine bodyPost_ret (v := .bool true) (by simp [results, Tryd.results6, go_sem]) rfl ⟨rfl, ?_⟩
          exact HB3.out.trans (hb4.mono HB3.out.size)
        | true =>
          obtain ⟨hsb, hrw⟩ := HBK2.out rfl rfl
          go_upto_region 9 with fail
          obtain ⟨w4, hw4⟩ : ∃ w4, w4 = w3.alloc (.cells #[.int .i64 0, .int .i64 2, .int .i64 1, .int .i64 0, .int .i64 8, .int .i64 8, .int .i64 7, .int .i64 6] 3) := ⟨_, rfl⟩
          have hb4 : Below w.heap.size w w4 := by rw [hw4]; exact HB3.out.alloc HB3.out.size _
          have hbx4 : w4.heap[w.heap.size]? = some (.cells #[.slice A k c, .bool q] 34 (0, 0)) := by rw [hw4]; exact (Lib.alloc_old w3 _ _ (Array.getElem?_eq_some_iff.1 HBX3.out).1).trans HBX3.out
          have hl4 : Sl tNd w4 (lt B) A k c l := by rw [hw4]; exact HL3.out.al hB3 _
          rw [← hw4]
          have HS2 := Lib.hid (stepS_any A k c l q r 7 w4 B hl4 (by rw [hw4, World.size_alloc]; omega) hrw)
          rw [hsb] at HS2
          have z0 : w4.cell? ⟨w.heap.size, 0, none⟩ = some (.slice A k c) := cell_blk hbx4 rfl
          have z1 : w4.cell? ⟨w.heap.size, 1, none⟩ = some (.bool q) := cell_blk hbx4 rfl
          have HB4 := Lib.hid hb4
          clear hw4 hb4 hbx4 hl4 y0 y1 hsb hrw
          go_upto_region 10 with (go_at_call 20; refine HS2.out.mono ?_; rintro e w5 ⟨rfl, hb5⟩)
          have HB5 := Lib.hid (HB4.out.trans (hb5.mono HB4.out.size))
          have HBG5 := Lib.hid (HWB.out w5)
          clear hb5
          go_wp2_with (go_at_call 19; refine HBG5.out.mono ?_; rintro e w6 ⟨rfl, hb6⟩)
          refine bodyPost_ret (v := .bool true) (by simp [results, Tryd.results6, go_sem]) rfl ⟨rfl, ?_⟩
          exact HB5.out.trans (hb6.mono HB5.out.size)
      · obtain rfl : r = 0 := HBK.out ⟨by simp, Or.inl he⟩
        have he1 : (er != 0) = true := by simpa using he
        clear HBK HBK2
        go_wp2_with (go_at_call 19; refine HBG.out.mono ?_; rintro e w4 ⟨rfl, hb4⟩)
        refine bodyPost_ret (v := .bool true) (by simp [results, Tryd.results6, go_sem]) rfl ⟨rfl, ?_⟩
        exact HB3.out.trans (hb4.mono HB3.out.size)

    ·
      go_upto_region 6 with (go_at_call 20; refine HS.out.mono ?_; rintro e w3 ⟨rfl, hb3⟩)
      have HB3 := Lib.hid (HB2.out.trans (hb3.mono HB2.out.size))
      have hbx3 : w3.heap[w.heap.size]? = some (.cells #[.slice A k c, .bool q] 34 (0, 0)) := (hb3.block _ (Array.getElem?_eq_some_iff.1 HBX2.out).1).trans HBX2.out
      have HL3 := Lib.hid (HL2.out.below hb3 hB2)
      have hB3 : B ≤ w3.heap.size := Nat.le_trans hB2 hb3.size
      have y0 : w3.cell? ⟨w.heap.size, 0, none⟩ = some (.slice A k c) := cell_blk hbx3 rfl
      have y1 : w3.cell? ⟨w.heap.size, 1, none⟩ = some (.bool q) := cell_blk hbx3 rfl
      have HBX3 := Lib.hid hbx3
      clear hb3 hbx3 HS HBX2 z0 z1
      have HBG := Lib.hid (HWB.out w3)
      by_cases he : er = 0
      · subst he
        cases ok with
        | false =>
          obtain rfl : r = 0 := HBK.out ⟨by simp, Or.inr rfl⟩
          go_wp2_with (go_at_call 19; refine HBG.out.mono ?_; rintro e w4 ⟨rfl, hb4⟩)
          refine bodyPost_ret (v := .bool true) (by simp [results, Tryd.results6, go_sem]) rfl ⟨rfl, ?_⟩
          exact HB3.out.trans (hb4.mono HB3.out.size)
        | true =>
          obtain ⟨hsb, hrw⟩ := HBK2.out rfl rfl
          go_upto_region 9 with fail
          obtain ⟨w4, hw4⟩ : ∃ w4, w4 = w3.alloc (.cells #[.int .i64 0, .int .i64 2, .int .i64 1, .int .i64 0, .int .i64 8, .int .i64 8, .int .i64 7, .int .i64 6] 3) := ⟨_, rfl⟩
          have hb4 : Below w.heap.size w w4 := by rw [hw4]; exact HB3.out.alloc HB3.out.size _
          have hbx4 : w4.heap[w.heap.size]? = some (.cells #[.slice A k c, .bool q] 34 (0, 0)) := by rw [hw4]; exact (Lib.alloc_old w3 _ _ (Array.getElem?_eq_some_iff.1 HBX3.out).1).trans HBX3.out
          have hl4 : Sl tNd w4 (lt B) A k c l := by rw [hw4]; exact HL3.out.al hB3 _
          rw [← hw4]
          have HS2 := Lib.hid (stepS_any A k c l q r 6 w4 B hl4 (by rw [hw4, World.size_alloc]; omega) hrw)
          rw [hsb] at HS2
          have z0 : w4.cell? ⟨w.heap.size, 0, none⟩ = some (.slice A k c) := cell_blk hbx4 rfl
          have z1 : w4.cell? ⟨w.heap.size, 1, none⟩ = some (.bool q) := cell_blk hbx4 rfl
          have HB4 := Lib.hid hb4
          clear hw4 hb4 hbx4 hl4 y0 y1 hsb hrw
          go_upto_region 10 with (go_at_call 20; refine HS2.out.mono ?_; rintro e w5 ⟨rfl, hb5⟩)
          have HB5 := Lib.hid (HB4.out.trans (hb5.mono HB4.out.size))
          have HBG5 := Lib.hid (HWB.out w5)
          clear hb5
          go_wp2_with (go_at_call 19; refine HBG5.out.mono ?_; rintro e w6 ⟨rfl, hb6⟩)
          refine bodyPost_ret (v := .bool true) (by simp [results, Tryd.results6, go_sem]) rfl ⟨rfl, ?_⟩
          exact HB5.out.trans (hb6.mono HB5.out.size)
      · obtain rfl : r = 0 := HBK.out ⟨by simp, Or.inl he⟩
        have he1 : (er != 0) = true := by simpa using he
        clear HBK HBK2
        go_wp2_with (go_at_call 19; refine HBG.out.mono ?_; rintro e w4 ⟨rfl, hb4⟩)
        refine bodyPost_ret (v := .bool true) (by simp [results, Tryd.results6, go_sem]) rfl ⟨rfl, ?_⟩
        exact HB3.out.trans (hb4.mono HB3.out.size)

end Go.Proofs.YtabilpahmmkjkaaDoor
