/-
The walk of WalkCommon.
-/
import Derived.Test.YtmemadajjmmlpaaDoorCommonWalk
import Derived.Test.YtmemadajjmmlpaaDoorWalkBegun
namespace Go.Proofs.YtmemadajjmmlpaaDoor
open Go.RowKit Go.Cl
attribute [local go_sem ↓] Go.wp_at_zero Go.wp_at_succ

/-- A document in its box, in a later world. -/
structure DB (w : World) (B : Nat) (A : Option Addr) (k c : Nat) (q : Bool) (l : List Nd) (u : World) : Prop where
  below : Below w.heap.size w u
  box : u.heap[w.heap.size]? = some (.cells #[.slice A k c, .bool q] 24 (0, 0))
  doc : Sl tNd u (lt B) A k c l
  le : B ≤ u.heap.size
section
variable {w : World} {B : Nat} {A : Option Addr} {k c : Nat} {q : Bool} {l : List Nd} {u u' : World}
theorem DB.next (h : DB w B A k c q l u) (hb : Below u.heap.size u u') : DB w B A k c q l u' :=
  ⟨h.below.trans (hb.mono h.below.size), (hb.block _ (Array.getElem?_eq_some_iff.1 h.box).1).trans h.box, h.doc.below hb h.le, Nat.le_trans h.le hb.size⟩
theorem DB.c0 (h : DB w B A k c q l u) : u.cell? ⟨w.heap.size, 0, none⟩ = some (.slice A k c) := cell_blk h.box rfl
theorem DB.c1 (h : DB w B A k c q l u) : u.cell? ⟨w.heap.size, 1, none⟩ = some (.bool q) := cell_blk h.box rfl
end
set_option maxRecDepth 100000 in
set_option maxHeartbeats 8000000 in
theorem walkCommon_walk (A : Option Addr) (n c : Nat) (l : List Nd) (q : Bool) (a b : Int) (w : World) (B : Nat) (hl : Sl tNd w (lt B) A n c l) (hB : B ≤ w.heap.size) (haw : (Lit.int .i64 a).wf = true) (hbw : (Lit.int .i64 b).wf = true) :
    Calls Tryd.prog 3 #[.agg #[.slice A n c, .bool q], .int .i64 a, .int .i64 b] w fun e w' => e = .returned (.bool true) ∧ Below w.heap.size w w' := by
  obtain ⟨w0, hw0⟩ : ∃ w0, w0 = w.alloc (.cells #[.slice A n c, .bool q] 24) := ⟨_, rfl⟩
  have hbx : w0.heap[w.heap.size]? = some (.cells #[.slice A n c, .bool q] 24 (0, 0)) := by rw [hw0]; exact heap_alloc_new w _
  have b0 : w0.cell? ⟨w.heap.size, 0, none⟩ = some (.slice A n c) := cell_blk hbx rfl
  have b1 : w0.cell? ⟨w.heap.size, 1, none⟩ = some (.bool q) := cell_blk hbx rfl
  have hb0 : Below w.heap.size w w0 := by rw [hw0]; exact (Below.refl _ _).alloc (Nat.le_refl _) _
  have hz0 : w0.heap.size = w.heap.size + 1 := by rw [hw0]; exact World.size_alloc w _
  have HB0 := Lib.hid hb0
  have HBX := Lib.hid hbx
  have HL := Lib.hid hl
  obtain ⟨k, hk, hkc, hkn⟩ : ∃ k : Nat, min (n : Int) 60 = (k : Int) ∧ k ≤ c ∧ k ≤ n := ⟨min n 60, by omega, by have := hl.hc; omega, by omega⟩
  have HF := Lib.hid (few_any A n c k q 60 w0 hk hkc)
  clear hb0 hl
  go_enter Tryd.func3, Tryd.ntmps3
  go_upto_region 1 with fail
  rw [← hw0]
  clear hw0
  go_upto_region 2 with (go_at_call 12; refine HF.out.mono ?_; rintro e w1 ⟨rfl, hb1⟩; have hbx1 : w1.heap[w.heap.size]? = some (.cells #[.slice A n c, .bool q] 24 (0, 0)) := (hb1.block _ (by omega)).trans HBX.out; have y0 : w1.cell? ⟨w.heap.size, 0, none⟩ = some (.slice A n c) := cell_blk hbx1 rfl; have y1 : w1.cell? ⟨w.heap.size, 1, none⟩ = some (.bool q) := cell_blk hbx1 rfl; have f0 : w1.frozen? ⟨w.heap.size, 0, none⟩ = false := free_blk hbx1; have f1 : w1.frozen? ⟨w.heap.size, 1, none⟩ = false := free_blk hbx1)
  obtain ⟨w2, hw2⟩ : ∃ w2, w2 = (w1.setCell ⟨w.heap.size, 0, none⟩ (.slice A k c)).setCell ⟨w.heap.size, 1, none⟩ (.bool q) := ⟨_, rfl⟩
  have hb2 : Below w.heap.size w w2 := by rw [hw2]; exact ((HB0.out.trans (hb1.mono HB0.out.size)).setCell (Nat.le_refl _) _).setCell (Nat.le_refl _) _
  have hbx2 : w2.heap[w.heap.size]? = some (.cells #[.slice A k c, .bool q] 24 (0, 0)) := by rw [hw2]; exact set_blk (set_blk hbx1 _) _
  rw [← hw2]
  have z0 : w2.cell? ⟨w.heap.size, 0, none⟩ = some (.slice A k c) := cell_blk hbx2 rfl
  have z1 : w2.cell? ⟨w.heap.size, 1, none⟩ = some (.bool q) := cell_blk hbx2 rfl
  have HB2 := Lib.hid hb2
  have HBX2 := Lib.hid hbx2
  have hl2 := (HL.out.cut_to hkn).below hb2 hB
  have hB2 : B ≤ w2.heap.size := Nat.le_trans hB hb2.size
  have HL2 := Lib.hid hl2
  clear hw2 hb1 hbx1 y0 y1 f0 f1 b0 b1 hb2 hbx2 hbx hl2 HL HF
  generalize l.take k = l at *
  have HWB := Lib.hid (fun u => walkBegun_any u)
  have H2 : Hid (DB w B A k c q l w2) := ⟨HB2.out, HBX2.out, HL2.out, hB2⟩
  clear HB2 HBX2 HL2 hB2 HBX HB0
  have HC := Lib.hid (common_any A k c l q a b w2 B H2.out.doc H2.out.le haw hbw)
  by_cases hcw : checkW l [a, b] = 0
  · obtain ⟨cm, hlaw⟩ := com_law hcw
    obtain ⟨m, rfl, hm⟩ := hlaw.node
    have LAW := Lib.hid hlaw
    have T := tree_of (checkW_in hcw).1
    have HT := Lib.hid T
    have hcmw : (Lit.int .i64 (m : Int)).wf = true := WalkArith.wf_i64 (by have := T.small; omega)
    rw [hlaw.fore] at HC
    clear hcw hlaw T
    go_upto_region 5 with (go_at_call 13; refine HC.out.mono ?_; rintro e w3 ⟨rfl, hb3⟩)
    have H3 := Lib.hid (H2.out.next hb3)
    have HW3 := Lib.hid (within_any A k c l q a m w3 B H3.out.doc H3.out.le haw hcmw)
    rw [LAW.out.wa] at HW3
    have x0 := H3.out.c0
    have x1 := H3.out.c1
    clear hb3 z0 z1 HC
    go_upto_region 6 with (go_at_call 15; refine HW3.out.mono ?_; rintro e w4 ⟨rfl, hb4⟩)
    have H4 := Lib.hid (H3.out.next hb4)
    have HW4 := Lib.hid (within_any A k c l q b m w4 B H4.out.doc H4.out.le hbw hcmw)
    rw [LAW.out.wb] at HW4
    have y0 := H4.out.c0
    have y1 := H4.out.c1
    clear hb4 x0 x1 HW3
    go_upto_region 7 with (go_at_call 15; refine HW4.out.mono ?_; rintro e w5 ⟨rfl, hb5⟩)
    have H5 := Lib.hid (H4.out.next hb5)
    have HC5 := Lib.hid (common_any A k c l q b a w5 B H5.out.doc H5.out.le hbw haw)
    rw [LAW.out.back] at HC5
    have z0 := H5.out.c0
    have z1 := H5.out.c1
    clear hb5 y0 y1 HW4
    go_upto_region 8 with (go_at_call 13; refine HC5.out.mono ?_; rintro e w6 ⟨rfl, hb6⟩)
    have H6 := Lib.hid (H5.out.next hb6)
    have HKN := Lib.hid H6.out.doc.hn
    have hck := H6.out.doc.hc
    have hk0 : 0 < k := by have := HKN.out; omega
    obtain ⟨bb, o, rfl, hd⟩ := doc_at H6.out.doc hk0
    obtain ⟨nd, hnd⟩ := get_some (l := l) hm
    obtain ⟨Aa, na, ca, Ak, nk, ck, hnat, _, _, _, _, _, c5⟩ := hd.at_ m nd hnd
    have hks := hnat.kids
    rw [← kidsD_at hnd] at hks
    have hnk := hks.small
    have HNK := Lib.hid hks.hn
    have hckk := hks.hc
    have HKS := Lib.hid hks
    have i1 : (0 : Int) ≤ (m : Int) := by omega
    have i2 : (m : Int) < (k : Int) := by have := HKN.out; omega
    have x0 := H6.out.c0
    have x1 := H6.out.c1
    have hmm : ((m : Int) != (m : Int)) = false := by simp
    have HKW : Hid (∀ z ∈ kidsD l m, (Lit.int .i64 z).wf = true) := fun z hz => by
      obtain ⟨n', rfl, hn', _⟩ := HT.out.kid hm hz
      exact WalkArith.wf_i64 (by have := HT.out.small; omega)
    have HKL := Lib.hid LAW.out.kids
    have HAB := Lib.hid LAW.out.wab
    clear hb6 z0 z1 HC5 hd hnat hks hnd LAW HT
    generalize kidsD l m = ks at *
    go_wp2_with fail
    go_loopw [90] (fun s wr => ∃ j : Nat, j ≤ nk ∧ s = .int .i64 (j : Int) ∧ Below w6.heap.size w6 wr) (fun s _ => nk - (intOf s).toNat)
    case atStart => exact ⟨0, Nat.zero_le _, rfl, Below.refl _ _⟩
    case round =>
      obtain ⟨j, hj, rfl, hb⟩ := hrel
      have HR := Lib.hid (H6.out.next hb)
      have HBR := Lib.hid hb
      have y0 := HR.out.c0
      have y1 := HR.out.c1
      by_cases hlt : j < nk
      · obtain ⟨x, hx⟩ : ∃ x, ks[j]? = some x := get_some (by have := HNK.out; omega)
        have hxm := List.mem_of_getElem? hx
        have hxw := HKW.out x hxm
        obtain ⟨pp, qq, h1, h2, hpq⟩ := HKL.out x hxm
        obtain ⟨g, og, rfl, _, cx, _⟩ := (HKS.out.below hb H6.out.le).int hx
        have HW7 := Lib.hid (within_any (some ⟨bb, o, none⟩) k c l q a x wr B HR.out.doc HR.out.le haw hxw)
        rw [h1] at HW7
        have HQ := Lib.hid h2
        clear hx hxm h1 h2 hb
        go_upto_region 14 with (go_at_call 15; refine HW7.out.mono ?_; rintro e w7 ⟨rfl, hb7⟩)
        have H7 := Lib.hid (HR.out.next hb7)
        have HB7 := Lib.hid (HBR.out.trans (hb7.mono HBR.out.size))
        have HW8 := Lib.hid (within_any (some ⟨bb, o, none⟩) k c l q b x w7 B H7.out.doc H7.out.le hbw hxw)
        rw [HQ.out] at HW8
        have z0 := H7.out.c0
        have z1 := H7.out.c1
        clear hb7 y0 y1 cx HW7
        cases pp with
        | false =>
          go_wp2_with (go_at_call 15; refine HW8.out.mono ?_; rintro e w8 ⟨rfl, hb8⟩)
          go_roundw
          case rel => exact ⟨j + 1, by omega, by go_num, HB7.out.trans (hb8.mono HB7.out.size)⟩
          case measure => simp [intOf]; omega
        | true =>
          obtain rfl : qq = false := by simpa using hpq
          go_wp2_with (go_at_call 15; refine HW8.out.mono ?_; rintro e w8 ⟨rfl, hb8⟩)
          go_roundw
          case rel => exact ⟨j + 1, by omega, by go_num, HB7.out.trans (hb8.mono HB7.out.size)⟩
          case measure => simp [intOf]; omega
      · have HW9 := Lib.hid (within_any (some ⟨bb, o, none⟩) k c l q a b wr B HR.out.doc HR.out.le haw hbw)
        rw [HAB.out] at HW9
        clear hb
        go_upto_region 19 with (go_at_call 15; refine HW9.out.mono ?_; rintro e w9 ⟨rfl, hb9⟩)
        have H9 := Lib.hid (HR.out.next hb9)
        have HBG := Lib.hid (HWB.out w9)
        clear hb9 y0 y1
        go_wp2_with (go_at_call 14; refine HBG.out.mono ?_; rintro e w10 ⟨rfl, hb10⟩)
        refine bodyPost_ret (v := .bool true) (by simp [results, Tryd.results3, go_sem]) rfl ⟨rfl, ?_⟩
        exact H9.out.below.trans (hb10.mono H9.out.below.size)
  · rw [com_bad hcw] at HC
    have hcw1 : (checkW l [a, b] != 0) = true := by simpa using hcw
    clear hcw
    generalize checkW l [a, b] = e0 at *
    go_upto_region 3 with (go_at_call 13; refine HC.out.mono ?_; rintro e w3 ⟨rfl, hb3⟩)
    have H3 := Lib.hid (H2.out.next hb3)
    have HBG := Lib.hid (HWB.out w3)
    clear hb3 z0 z1
    go_wp2_with (go_at_call 14; refine HBG.out.mono ?_; rintro e w4 ⟨rfl, hb4⟩)
    refine bodyPost_ret (v := .bool true) (by simp [results, Tryd.results3, go_sem]) rfl ⟨rfl, ?_⟩
    exact H3.out.below.trans (hb4.mono H3.out.below.size)
end Go.Proofs.YtmemadajjmmlpaaDoor
