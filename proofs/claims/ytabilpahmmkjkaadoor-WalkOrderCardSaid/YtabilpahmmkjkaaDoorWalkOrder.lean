/-
The walk of WalkOrder.
-/
import Derived.Test.YtabilpahmmkjkaaDoorOrderWalk
import Derived.Test.YtabilpahmmkjkaaDoorBeforeLaw
namespace Go.Proofs.YtabilpahmmkjkaaDoor
open Go.RowKit Go.Cl
attribute [local go_sem ↓] Go.wp_at_zero Go.wp_at_succ

theorem xy_law {x y : Bool} {a b : Int} (h : (x != y) = (a != b)) : (x == y) = !(a != b) := by
  rw [← h]
  cases x <;> cases y <;> rfl
theorem order_step {l : List Nd} (h : checkD l = 0) {i : Nat} {x : Int} (hx : (preR l 0)[i]? = some x) : (Lit.int .i64 x).wf = true ∧ stepS l x 1 = (((preR l 0)[i + 1]?).getD 0, decide (i + 1 < (preR l 0).length), 0) := by
  have T := tree_of h
  obtain ⟨hc, _, hin⟩ := T.all_chain
  obtain ⟨n, rfl, hn, ht⟩ := hin x (List.mem_of_getElem? hx)
  have hnx := hc i _ hx
  refine ⟨WalkArith.wf_i64 (by have := T.small; omega), ?_⟩
  unfold stepS
  rw [if_neg (by rw [h]; simp), if_neg (by omega), if_neg (by rw [checkW_one h hn ht]; simp)]
  have hs : stepR l n 1 = nextR l n := rfl
  rw [hs, hnx]
  by_cases hl : i + 1 < (preR l 0).length
  · obtain ⟨y, hy⟩ := get_some hl
    obtain ⟨q, rfl, _⟩ := hin y (List.mem_of_getElem? hy)
    rw [hy, Option.getD_some, Option.getD_some, decide_eq_true hl, decide_eq_true (by omega), show max (q : Int) 0 = q by omega]
  · rw [List.getElem?_eq_none (by omega), decide_eq_false hl]
    rfl
set_option maxRecDepth 100000 in
set_option maxHeartbeats 8000000 in
theorem walkOrder_walk (A : Option Addr) (n c : Nat) (l : List Nd) (q : Bool) (a b : Int) (w : World) (B : Nat) (hl : Sl tNd w (lt B) A n c l) (hB : B ≤ w.heap.size) (haw : (Lit.int .i64 a).wf = true) (hbw : (Lit.int .i64 b).wf = true) :
    Calls Tryd.prog 7 #[.agg #[.slice A n c, .bool q], .int .i64 a, .int .i64 b] w fun e w' => e = .returned (.bool true) ∧ Below w.heap.size w w' := by
  obtain ⟨w0, hw0⟩ : ∃ w0, w0 = w.alloc (.cells #[.slice A n c, .bool q] 34) := ⟨_, rfl⟩
  have hbx : w0.heap[w.heap.size]? = some (.cells #[.slice A n c, .bool q] 34 (0, 0)) := by rw [hw0]; exact heap_alloc_new w _
  have b0 : w0.cell? ⟨w.heap.size, 0, none⟩ = some (.slice A n c) := cell_blk hbx rfl
  have b1 : w0.cell? ⟨w.heap.size, 1, none⟩ = some (.bool q) := cell_blk hbx rfl
  have hb0 : Below w.heap.size w w0 := by rw [hw0]; exact (Below.refl _ _).alloc (Nat.le_refl _) _
  have hz0 : w0.heap.size = w.heap.size + 1 := by rw [hw0]; exact World.size_alloc w _
  have HB0 := Lib.hid hb0
  have HBX := Lib.hid hbx
  have HL := Lib.hid hl
  obtain ⟨k, hk, hkc, hkn⟩ : ∃ k : Nat, min (n : Int) 60 = (k : Int) ∧ k ≤ c ∧ k ≤ n := ⟨min n 60, by omega, by have := hl.hc; omega, by omega⟩
  have HF := Lib.hid (few_any A n c k q 60 w0 hk hkc)
  clear hb0 hl
  go_enter Tryd.func7, Tryd.ntmps7
  go_upto_region 1 with fail
  rw [← hw0]
  clear hw0
  go_upto_region 2 with (go_at_call 18; refine HF.out.mono ?_; rintro e w1 ⟨rfl, hb1⟩; have hbx1 : w1.heap[w.heap.size]? = some (.cells #[.slice A n c, .bool q] 34 (0, 0)) := (hb1.block _ (by omega)).trans HBX.out; have y0 : w1.cell? ⟨w.heap.size, 0, none⟩ = some (.slice A n c) := cell_blk hbx1 rfl; have y1 : w1.cell? ⟨w.heap.size, 1, none⟩ = some (.bool q) := cell_blk hbx1 rfl; have f0 : w1.frozen? ⟨w.heap.size, 0, none⟩ = false := free_blk hbx1; have f1 : w1.frozen? ⟨w.heap.size, 1, none⟩ = false := free_blk hbx1)
  obtain ⟨w2, hw2⟩ : ∃ w2, w2 = (w1.setCell ⟨w.heap.size, 0, none⟩ (.slice A k c)).setCell ⟨w.heap.size, 1, none⟩ (.bool q) := ⟨_, rfl⟩
  have hb2 : Below w.heap.size w w2 := by rw [hw2]; exact ((HB0.out.trans (hb1.mono HB0.out.size)).setCell (Nat.le_refl _) _).setCell (Nat.le_refl _) _
  have hbx2 : w2.heap[w.heap.size]? = some (.cells #[.slice A k c, .bool q] 34 (0, 0)) := by rw [hw2]; exact set_blk (set_blk hbx1 _) _
  rw [← hw2]
  have z0 : w2.cell? ⟨w.heap.size, 0, none⟩ = some (.slice A k c) := cell_blk hbx2 rfl
  have z1 : w2.cell? ⟨w.heap.size, 1, none⟩ = some (.bool q) := cell_blk hbx2 rfl
  have HB2 := Lib.hid hb2
  have HBX2 := Lib.hid hbx2
  have hl2 := (HL.out.cut_to hkn).below hb2 hB
  have hB2 : B ≤ w2.heap.size := Nat.le_trans hB hb2.size
  have HL2 := Lib.hid hl2
  clear hw2 hb1 hbx1 y0 y1 f0 f1 b0 b1 hb2 hbx2 hbx hl2 HL HF
  generalize l.take k = l at *
  have HWB := Lib.hid (fun u => walkBegun_any u)
  have HO := Lib.hid (order_any A k c l q w2 B HL2.out hB2)
  go_upto_region 3 with (go_at_call 21; refine HO.out.mono ?_; rintro e w3 ⟨hb3, ⟨hce, rfl⟩ | ⟨hce, v3, rfl, hown⟩⟩)
  · have HB3 := Lib.hid (HB2.out.trans (hb3.mono HB2.out.size))
    have hce1 : (checkD l != 0) = true := by simpa using hce
    have HBG := Lib.hid (HWB.out w3)
    generalize checkD l = e0 at *
    clear hce hb3
    go_wp2_with (go_at_call 19; refine HBG.out.mono ?_; rintro e w4 ⟨rfl, hb4⟩)
    refine bodyPost_ret (v := .bool true) (by simp [results, Tryd.results7, go_sem]) rfl ⟨rfl, ?_⟩
    exact HB3.out.trans (hb4.mono HB3.out.size)
  · have HB3 := Lib.hid (HB2.out.trans (hb3.mono HB2.out.size))
    have hbx3 : w3.heap[w.heap.size]? = some (.cells #[.slice A k c, .bool q] 34 (0, 0)) := (hb3.block _ (Array.getElem?_eq_some_iff.1 HBX2.out).1).trans HBX2.out
    have HBX3 := Lib.hid hbx3
    have HL3 := Lib.hid (HL2.out.below hb3 hB2)
    have hB3 : B ≤ w3.heap.size := Nat.le_trans hB2 hb3.size
    have T := tree_of hce
    have hfew := T.all_few
    have HH := Lib.hid T.all_chain.2.1
    have HCE := Lib.hid hce
    have HST := Lib.hid (fun (i : Nat) (x : Int) => order_step hce (i := i) (x := x))
    obtain ⟨A3, c3, rfl, hsl⟩ := OwnF.sl hown (by decide) (by show (preR l 0).length * 8 ≤ _; omega)
    have HSL := Lib.hid hsl
    have hc3 := hsl.hc
    obtain ⟨N, hN⟩ : ∃ N, N = (preR l 0).length := ⟨_, rfl⟩
    have HN := Lib.hid hN
    have HN0 : Hid (0 < N) := by
      have := (List.getElem?_eq_some_iff.1 T.all_chain.2.1).1
      show 0 < N
      omega
    rw [← hN] at hc3 hfew HSL
    rw [← hN] at HST
    clear hce hb3 hbx3 T hown hsl z0 z1
    rw [← hN]
    clear hN
    generalize preR l 0 = P at *
    go_wp2_with fail
    go_loopw [10, 9] (fun s u wr => ∃ i : Nat, i ≤ N ∧ s = .int .i64 (i : Int) ∧ u = .int .i64 ((P[i]?).getD 0) ∧ Below w3.heap.size w3 wr) (fun s _ _ => N - (intOf s).toNat)
    case atStart => exact ⟨0, Nat.zero_le _, rfl, by rw [HH.out]; rfl, Below.refl _ _⟩
    case round =>
      obtain ⟨i, hi, rfl, rfl, hb⟩ := hrel
      have HBR := Lib.hid hb
      have HLR := Lib.hid (HL3.out.below hb hB3)
      have hBR : B ≤ wr.heap.size := Nat.le_trans hB3 hb.size
      have HBW := Lib.hid (HB3.out.trans (hb.mono HB3.out.size))
      have hbxr : wr.heap[w.heap.size]? = some (.cells #[.slice A k c, .bool q] 34 (0, 0)) := (hb.block _ (Array.getElem?_eq_some_iff.1 HBX3.out).1).trans HBX3.out
      have HBXR := Lib.hid hbxr
      have y0 : wr.cell? ⟨w.heap.size, 0, none⟩ = some (.slice A k c) := cell_blk hbxr rfl
      have y1 : wr.cell? ⟨w.heap.size, 1, none⟩ = some (.bool q) := cell_blk hbxr rfl
      by_cases hlt : i < N
      · obtain ⟨x, hx⟩ : ∃ x, P[i]? = some x := get_some (by have := HN.out; omega)
        obtain ⟨hxw, hst⟩ := HST.out i x hx
        have HS := Lib.hid (stepS_any A k c l q x 1 wr B HLR.out hBR hxw)
        rw [hst] at HS
        have HSLI : Hid (∀ W, Below w3.heap.size w3 W → ∃ g o, A3 = some ⟨g, o, none⟩ ∧ W.cell? ⟨g, o + i, none⟩ = some (.int .i64 x)) := fun W hW => by
          obtain ⟨g, o, e, _, cx, _⟩ := (HSL.out.below hW (Nat.le_refl _)).int hx
          exact ⟨g, o, e, cx⟩
        rw [show (P[i]?).getD 0 = x from by rw [hx]; rfl]
        obtain ⟨d, hd⟩ : ∃ d, d = decide (i + 1 < N) := ⟨_, rfl⟩
        rw [← hd] at HS
        have hdd : decide ((i : Int) + 1 < (N : Int)) = d := by
          rw [hd]
          by_cases h : i + 1 < N
          · rw [decide_eq_true h, decide_eq_true (by omega)]
          · rw [decide_eq_false h, decide_eq_false (by omega)]
        have hdn : (d != d) = false := by simp
        obtain ⟨nx, hnx⟩ : ∃ nx, nx = (P[i + 1]?).getD 0 := ⟨_, rfl⟩
        rw [← hnx] at HS
        have HNX := Lib.hid hnx
        clear hb hbxr hx hst hd hnx
        go_upto_region 10 with (go_at_call 20; refine HS.out.mono ?_; rintro e w4 ⟨rfl, hb4⟩)
        have hb34 := HBR.out.trans (hb4.mono HBR.out.size)
        obtain ⟨g, o, rfl, cx⟩ := HSLI.out w4 hb34
        have HB34 := Lib.hid hb34
        clear hb4 hb34 y0 y1
        go_wp2_with fail
        go_roundw
        case rel => exact ⟨i + 1, by omega, by go_num, by rw [show nx = _ from HNX.out], HB34.out⟩
        case measure => simp [intOf]; omega
      · have HBE1 := Lib.hid (before_any A k c l q a b wr B HLR.out hBR haw hbw)
        by_cases hcw : checkW l [a, b] = 0
        · obtain ⟨x, y, h1, h2, hxy⟩ := befS_good hcw
          rw [h1] at HBE1
          have H2 := Lib.hid h2
          have HXY := Lib.hid hxy
          clear h1 h2 hcw hb hbxr hxy
          go_upto_region 14 with (go_at_call 22; refine HBE1.out.mono ?_; rintro e w4 ⟨rfl, hb4⟩)
          have hbx4 := (hb4.block _ (Array.getElem?_eq_some_iff.1 HBXR.out).1).trans HBXR.out
          have z0 : w4.cell? ⟨w.heap.size, 0, none⟩ = some (.slice A k c) := cell_blk hbx4 rfl
          have z1 : w4.cell? ⟨w.heap.size, 1, none⟩ = some (.bool q) := cell_blk hbx4 rfl
          have HB4 := Lib.hid (HBW.out.trans (hb4.mono HBW.out.size))
          have HBE2 := Lib.hid (before_any A k c l q b a w4 B (HLR.out.below hb4 hBR) (Nat.le_trans hBR hb4.size) hbw haw)
          rw [H2.out] at HBE2
          clear hb4 hbx4 y0 y1
          go_upto_region 15 with (go_at_call 22; refine HBE2.out.mono ?_; rintro e w5 ⟨rfl, hb5⟩)
          have HB5 := Lib.hid (HB4.out.trans (hb5.mono HB4.out.size))
          have HBG := Lib.hid (HWB.out w5)
          have hxy : (x != y) = (a != b) := HXY.out
          clear hb5 z0 z1
          go_wp2_with (go_at_call 19; refine HBG.out.mono ?_; rintro e w6 ⟨rfl, hb6⟩)
          refine bodyPost_ret (v := .bool true) (by simp [results, Tryd.results7, go_sem]; exact xy_law hxy) rfl ⟨rfl, ?_⟩
          exact HB5.out.trans (hb6.mono HB5.out.size)
        · obtain ⟨h1, h2⟩ := befS_bad hcw
          rw [h1] at HBE1
          have H2 := Lib.hid h2
          have hcw1 : (checkW l [a, b] != 0) = true := by simpa using hcw
          clear h1 h2 hcw hb hbxr
          generalize checkW l [a, b] = e0 at *
          go_upto_region 14 with (go_at_call 22; refine HBE1.out.mono ?_; rintro e w4 ⟨rfl, hb4⟩)
          have hbx4 := (hb4.block _ (Array.getElem?_eq_some_iff.1 HBXR.out).1).trans HBXR.out
          have z0 : w4.cell? ⟨w.heap.size, 0, none⟩ = some (.slice A k c) := cell_blk hbx4 rfl
          have z1 : w4.cell? ⟨w.heap.size, 1, none⟩ = some (.bool q) := cell_blk hbx4 rfl
          have HB4 := Lib.hid (HBW.out.trans (hb4.mono HBW.out.size))
          have HBE2 := Lib.hid (before_any A k c l q b a w4 B (HLR.out.below hb4 hBR) (Nat.le_trans hBR hb4.size) hbw haw)
          rw [H2.out] at HBE2
          clear hb4 hbx4 y0 y1
          go_upto_region 15 with (go_at_call 22; refine HBE2.out.mono ?_; rintro e w5 ⟨rfl, hb5⟩)
          have HB5 := Lib.hid (HB4.out.trans (hb5.mono HB4.out.size))
          have HBG := Lib.hid (HWB.out w5)
          clear hb5 z0 z1
          have hee : (e0 == e0) = true := by simp
          go_wp2_with (go_at_call 19; refine HBG.out.mono ?_; rintro e w6 ⟨rfl, hb6⟩)
          refine bodyPost_ret (v := .bool true) (by simp [results, Tryd.results7, go_sem]) rfl ⟨rfl, ?_⟩
          exact HB5.out.trans (hb6.mono HB5.out.size)
end Go.Proofs.YtabilpahmmkjkaaDoor
