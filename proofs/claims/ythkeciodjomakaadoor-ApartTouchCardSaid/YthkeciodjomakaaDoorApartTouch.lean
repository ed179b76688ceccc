/-
The walk of ApartTouch.
-/
import Derived.Test.YthkeciodjomakaaDoorApartBegun
import Derived.Test.YthkeciodjomakaaDoorSameDoc
import Derived.Test.YthkeciodjomakaaDoorOneNode
import Derived.Test.YthkeciodjomakaaDoorRegionW
import Derived.Deep.DeepCutAuto
namespace Go.Proofs.YthkeciodjomakaaDoor
open Go.RowKit Go.Cl
attribute [local go_sem ↓] Go.wp_at_zero Go.wp_at_succ

theorem set_other {w : World} {g i k : Nat} (h : k ≠ g) (v : Value) : (w.setCell ⟨g, i, none⟩ v).heap[k]? = w.heap[k]? := heap_setCell_other w ⟨g, i, none⟩ k v h
theorem contains_snoc {t : List Int} {j : Nat} {x i : Int} (hx : t[j]? = some x) : (t.take (j + 1)).contains i = ((t.take j).contains i || x == i) := by
  rw [take_snoc hx, Bool.eq_iff_iff, List.contains_iff_mem, Bool.or_eq_true, List.contains_iff_mem, List.mem_append, List.mem_singleton, beq_iff_eq]
  exact ⟨fun h => h.imp id Eq.symm, fun h => h.imp id Eq.symm⟩
set_option maxRecDepth 100000 in
set_option maxHeartbeats 8000000 in
theorem apartTouch_walk (A : Option Addr) (n c : Nat) (l : List Nd) (q : Bool) (e : Edt) (Aa : Option Addr) (na ca : Nat) (Ak : Option Addr) (nk ck : Nat) (w : World) (B : Nat) (hl : Sl tNd w (lt B) A n c l) (hB : B ≤ w.heap.size) (he : EdtOk w (lt B) e Aa na ca Ak nk ck) :
    Calls Tryd.prog 3 #[.agg #[.slice A n c, .bool q], .agg (edtCells e Aa na ca Ak nk ck)] w fun e' w' => e' = .returned (.bool true) ∧ Below w.heap.size w w' := by
  obtain ⟨wa, hwa⟩ : ∃ wa, wa = w.alloc (.cells #[.slice A n c, .bool q] 24) := ⟨_, rfl⟩
  obtain ⟨w0, hw0⟩ : ∃ w0, w0 = wa.alloc (.cells (edtCells e Aa na ca Ak nk ck) 30) := ⟨_, rfl⟩
  have za : wa.heap.size = w.heap.size + 1 := by rw [hwa]; exact World.size_alloc w _
  have z0 : w0.heap.size = w.heap.size + 2 := by rw [hw0, World.size_alloc, za]
  have hxa : wa.heap[w.heap.size]? = some (.cells #[.slice A n c, .bool q] 24 (0, 0)) := by rw [hwa]; exact heap_alloc_new w _
  have hbe : w0.heap[w.heap.size + 1]? = some (.cells (edtCells e Aa na ca Ak nk ck) 30 (0, 0)) := by rw [hw0, ← za]; exact heap_alloc_new wa _
  have hbd : w0.heap[w.heap.size]? = some (.cells #[.slice A n c, .bool q] 24 (0, 0)) := by rw [hw0, Lib.alloc_old _ _ _ (by omega)]; exact hxa
  have hb0 : Below w.heap.size w w0 := by rw [hw0, hwa]; exact ((Below.refl _ _).alloc (Nat.le_refl _) _).alloc (by simp) _
  obtain ⟨k, hk, hkc, hkn⟩ : ∃ k : Nat, min (n : Int) 50 = (k : Int) ∧ k ≤ c ∧ k ≤ n := ⟨min n 50, by omega, by have := hl.hc; omega, by omega⟩
  have HFW := Lib.hid (few_any A n c k q 50 w0 hk hkc)
  have HL := Lib.hid (hl.cut_to hkn)
  have HE := Lib.hid he
  have HB0 := Lib.hid hb0
  have HZ := Lib.hid z0
  have HBW : Hid (B ≤ w.heap.size) := hB
  have HBD := Lib.hid hbd
  have HBE := Lib.hid hbe
  have HX := Lib.hid (fun (u : World) (h : u.heap[w.heap.size + 1]? = some (.cells (edtCells e Aa na ca Ak nk ck) 30 (0, 0))) => show ∀ (i : Nat) v, (edtCells e Aa na ca Ak nk ck)[i]? = some v → u.cell? ⟨w.heap.size + 1, i, none⟩ = some v from fun i v hv => cell_blk h hv)
  have d0 := cell_blk (i := 0) hbd rfl
  have d1 := cell_blk (i := 1) hbd rfl
  clear za z0 hxa hbe hbd hb0 hl he hB hk hkn
  go_enter Tryd.func3, Tryd.ntmps3
  unfold edtCells at *
  go_upto_region 1 with fail
  rw [← hwa, ← hw0]
  clear hwa hw0
  go_upto_region 2 with (go_at_call 11; refine HFW.out.mono ?_; rintro e' w1 ⟨rfl, hb1⟩; have v0 := cell_blk (i := 0) ((hb1.block w.heap.size (by rw [HZ.out]; omega)).trans HBD.out) rfl; have v1 := cell_blk (i := 1) ((hb1.block w.heap.size (by rw [HZ.out]; omega)).trans HBD.out) rfl; have y0 := free_blk (i := 0) ((hb1.block w.heap.size (by rw [HZ.out]; omega)).trans HBD.out); have y1 := free_blk (i := 1) ((hb1.block w.heap.size (by rw [HZ.out]; omega)).trans HBD.out))
  obtain ⟨w2, hw2⟩ : ∃ w2, w2 = (w1.setCell ⟨w.heap.size, 0, none⟩ (.slice A k c)).setCell ⟨w.heap.size, 1, none⟩ (.bool q) := ⟨_, rfl⟩
  rw [← hw2]
  have hbb : Below w.heap.size w w2 := by rw [hw2]; exact ((HB0.out.trans (hb1.mono HB0.out.size)).setCell (Nat.le_refl _) _).setCell (Nat.le_refl _) _
  have hs2 : w0.heap.size ≤ w2.heap.size := by rw [hw2]; simp; exact hb1.size
  have H2 : Hid (TB w B A k c q (l.take k) (edtCells e Aa na ca Ak nk ck) w2) := by
    refine ⟨hbb, ?_, ?_, HL.out.below hbb HBW.out, HBW.out⟩
    · rw [hw2]; exact set_blk (set_blk ((hb1.block w.heap.size (by rw [HZ.out]; omega)).trans HBD.out) _) _
    · rw [hw2]; exact (set_other (by omega) _).trans ((set_other (by omega) _).trans ((hb1.block (w.heap.size + 1) (by rw [HZ.out]; omega)).trans HBE.out))
  have HZ2 : Hid (w.heap.size + 2 ≤ w2.heap.size) := by rw [← HZ.out]; exact hs2
  have HKN : Hid (k ≤ c) := hkc
  clear hw2 hbb hs2 y0 y1 v0 v1 hb1 d0 d1 HBD HBE HFW HZ HB0 HL hkc
  generalize l.take k = l at *
  have HTO := Lib.hid (fun (u : World) (h : TB w B A k c q l (edtCells e Aa na ca Ak nk ck) u) => touch_any A k c l q e Aa na ca Ak nk ck u B h.doc (Nat.le_trans HBW.out h.below.size) (HE.out.below h.below HBW.out))
  have HAP := Lib.hid (fun (u : World) (h : TB w B A k c q l (edtCells e Aa na ca Ak nk ck) u) => apply_any A k c l q e Aa na ca Ak nk ck u B h.doc (Nat.le_trans HBW.out h.below.size) (HE.out.below h.below HBW.out))
  unfold edtCells at HTO HAP
  have ag0 := HX.out w2 H2.out.ebox 0 _ rfl
  have ag1 := HX.out w2 H2.out.ebox 1 _ rfl
  have ag2 := HX.out w2 H2.out.ebox 2 _ rfl
  have ag3 := HX.out w2 H2.out.ebox 3 _ rfl
  have ag4 := HX.out w2 H2.out.ebox 4 _ rfl
  have ag5 := HX.out w2 H2.out.ebox 5 _ rfl
  have ag6 := HX.out w2 H2.out.ebox 6 _ rfl
  have ag7 := HX.out w2 H2.out.ebox 7 _ rfl
  have ag8 := HX.out w2 H2.out.ebox 8 _ rfl
  have ag9 := HX.out w2 H2.out.ebox 9 _ rfl
  have ag10 := HX.out w2 H2.out.ebox 10 _ rfl
  have ag11 := HX.out w2 H2.out.ebox 11 _ rfl
  have ax0 := H2.out.c0
  have ax1 := H2.out.c1
  go_upto_region 3 with (go_at_call 12; refine (HTO.out w2 H2.out).mono ?_; rintro e' w3 ⟨hb3, ⟨her, rfl⟩ | ⟨her, g, n', c', t, rfl, hown, hlen, hmem⟩⟩)
  · have H3 := Lib.hid (H2.out.next hb3 HZ2.out)
    have HER := Lib.hid her
    have t1 : (apErr l e != 0) = true := by simpa using her
    clear ag0 ag1 ag2 ag3 ag4 ag5 ag6 ag7 ag8 ag9 ag10 ag11 ax0 ax1 hb3 her HTO
    have bg0 := HX.out w3 H3.out.ebox 0 _ rfl
    have bg1 := HX.out w3 H3.out.ebox 1 _ rfl
    have bg2 := HX.out w3 H3.out.ebox 2 _ rfl
    have bg3 := HX.out w3 H3.out.ebox 3 _ rfl
    have bg4 := HX.out w3 H3.out.ebox 4 _ rfl
    have bg5 := HX.out w3 H3.out.ebox 5 _ rfl
    have bg6 := HX.out w3 H3.out.ebox 6 _ rfl
    have bg7 := HX.out w3 H3.out.ebox 7 _ rfl
    have bg8 := HX.out w3 H3.out.ebox 8 _ rfl
    have bg9 := HX.out w3 H3.out.ebox 9 _ rfl
    have bg10 := HX.out w3 H3.out.ebox 10 _ rfl
    have bg11 := HX.out w3 H3.out.ebox 11 _ rfl
    have bx0 := H3.out.c0
    have bx1 := H3.out.c1
    go_upto_region 4 with (go_at_call 13; refine (HAP.out w3 H3.out).mono ?_; rintro e' w4 ⟨hb4, ⟨her, rfl⟩ | ⟨her, _⟩⟩)
    · obtain ⟨w5, hw5⟩ : ∃ w5, w5 = w4.alloc (.cells #[.slice none 0 0, .bool false] 24) := ⟨_, rfl⟩
      have HB5 := Lib.hid (show Below w.heap.size w w5 by rw [hw5]; exact (H3.out.below.trans (hb4.mono H3.out.below.size)).alloc (Nat.le_trans H3.out.below.size hb4.size) _)
      have HBG := Lib.hid (apartBegun_any w5)
      rw [← hw5]
      clear hw5 hb4 her bg0 bg1 bg2 bg3 bg4 bg5 bg6 bg7 bg8 bg9 bg10 bg11 bx0 bx1 HER HAP
      generalize apErr l e = er at *
      go_wp2_with (go_at_call 14; refine HBG.out.mono ?_; rintro e' w6 ⟨rfl, hb6⟩)
      go_ret
      exact ⟨rfl, HB5.out.trans (hb6.mono HB5.out.size)⟩
  · have H3 := Lib.hid (H2.out.next hb3 HZ2.out)
    have HZ3 : Hid (w.heap.size + 2 ≤ w3.heap.size) := Nat.le_trans HZ2.out hb3.size
    have HER := Lib.hid her
    have hn' := Own.len hown (by decide)
    subst hn'
    obtain ⟨X1, cc, e1, hs1⟩ := OwnF.slr hown (by decide) (by show t.length * 8 ≤ _; omega)
    injection e1 with e1 _ e3
    subst e1 e3
    have HS3 := Lib.hid (Sl.ltr hs1)
    have HM := Lib.hid hmem
    have HT3 : Hid (t.length ≤ 3) := hlen
    clear ag0 ag1 ag2 ag3 ag4 ag5 ag6 ag7 ag8 ag9 ag10 ag11 ax0 ax1 hb3 her HTO hown hs1 hmem
    have bg0 := HX.out w3 H3.out.ebox 0 _ rfl
    have bg1 := HX.out w3 H3.out.ebox 1 _ rfl
    have bg2 := HX.out w3 H3.out.ebox 2 _ rfl
    have bg3 := HX.out w3 H3.out.ebox 3 _ rfl
    have bg4 := HX.out w3 H3.out.ebox 4 _ rfl
    have bg5 := HX.out w3 H3.out.ebox 5 _ rfl
    have bg6 := HX.out w3 H3.out.ebox 6 _ rfl
    have bg7 := HX.out w3 H3.out.ebox 7 _ rfl
    have bg8 := HX.out w3 H3.out.ebox 8 _ rfl
    have bg9 := HX.out w3 H3.out.ebox 9 _ rfl
    have bg10 := HX.out w3 H3.out.ebox 10 _ rfl
    have bg11 := HX.out w3 H3.out.ebox 11 _ rfl
    have bx0 := H3.out.c0
    have bx1 := H3.out.c1
    go_upto_region 4 with (go_at_call 13; refine (HAP.out w3 H3.out).mono ?_; rintro e' w4 ⟨hb4, ⟨her, _⟩ | ⟨her, A4, c4, rfl, hs4⟩⟩)
    · exact absurd HER.out her
    obtain ⟨hck, hed⟩ := apErr_zero HER.out
    have HRS := Lib.hid (fun (m : Nat) (h1 : m < (edDo l e).length) (h2 : (m : Int) ∉ touchD l e) => touch_rest h1 h2)
    obtain ⟨ld, hld⟩ : ∃ ld, edDo l e = ld := ⟨_, rfl⟩
    obtain ⟨md, hmd⟩ : ∃ md, edMade l 0 e = md := ⟨_, rfl⟩
    have HFEW : Hid (ld.length ≤ 201) := by
      rw [← hld]
      have h1 := (good_of hck).small
      have h2 := (ed_stay l e).1
      show (edDo l e).length ≤ 201
      by_cases h4 : e.do_ = 4
      · rw [if_pos h4] at h2; omega
      · rw [if_neg h4] at h2; omega
    rw [hld] at hs4 HRS
    rw [hld, hmd]
    obtain ⟨w5, hw5⟩ : ∃ w5, w5 = w4.alloc (.cells #[.slice A4 ld.length c4, .bool q] 24) := ⟨_, rfl⟩
    have hb45 : Below w4.heap.size w4 w5 := by rw [hw5]; exact (Below.refl _ _).alloc (Nat.le_refl _) _
    have hx5 : w5.heap[w4.heap.size]? = some (.cells #[.slice A4 ld.length c4, .bool q] 24 (0, 0)) := by rw [hw5]; exact heap_alloc_new w4 _
    have hb35 := hb4.trans (hb45.mono hb4.size)
    have H5 := Lib.hid (H3.out.next hb35 HZ3.out)
    have HS5 := Lib.hid (HS3.out.below hb35 (Nat.le_refl _))
    have HD5 := Lib.hid (((Sl.ltr hs4).below hb45 (Nat.le_refl _)))
    have HX5 := Lib.hid hx5
    have HZ35 : Hid (w3.heap.size ≤ w5.heap.size) := hb35.size
    have HZ45 : Hid (w4.heap.size < w5.heap.size) := (Array.getElem?_eq_some_iff.1 hx5).1
    have HNL := Lib.hid H5.out.doc.hn
    rw [← hw5]
    clear hw5 hb4 hb45 hx5 hb35 her hck hed hld hmd hs4 bg0 bg1 bg2 bg3 bg4 bg5 bg6 bg7 bg8 bg9 bg10 bg11 bx0 bx1 HER HAP HS3 H3 HZ3 H2 HZ2
    go_upto_region 6 with fail
    go_upto_region 7 with fail
    go_loopw [10] (fun s wr => ∃ i : Nat, i ≤ ld.length ∧ s = .int .i64 (i : Int) ∧ Hid (Below w5.heap.size w5 wr)) (fun s _ => ld.length - (intOf s).toNat)
    case atStart => exact ⟨0, Nat.zero_le _, rfl, Lib.hid (Below.refl _ _)⟩
    case round =>
      obtain ⟨i, hi, rfl, HR⟩ := hrel
      have hyr := (HR.out.block _ HZ45.out).trans HX5.out
      have o0 := cell_blk (i := 0) hyr rfl
      have HBR := Lib.hid (H5.out.below.trans (HR.out.mono H5.out.below.size))
      have HFW := HFEW.out
      clear hyr
      by_cases hlt : i < ld.length
      · have i1 : (i : Int) < (ld.length : Int) := by omega
        go_upto_region 11 with fail
        obtain ⟨wo, hwo⟩ : ∃ wo : World, wo = wr := ⟨_, rfl⟩
        rw [← hwo] at HR HBR
        rw [← hwo]
        clear hwo o0
        go_loopw [11, 12] (fun b s wz => ∃ j : Nat, j ≤ t.length ∧ s = .int .i64 (j : Int) ∧ b = .bool ((t.take j).contains (i : Int)) ∧ Hid (Below wo.heap.size wo wz)) (fun _ s _ => t.length - (intOf s).toNat)
        case atStart => exact ⟨0, Nat.zero_le _, rfl, by simp, Lib.hid (Below.refl _ _)⟩
        case round =>
          obtain ⟨j, hj, rfl, rfl, HJ⟩ := hrel
          by_cases hlt2 : j < t.length
          · obtain ⟨x, hx⟩ : ∃ x, t[j]? = some x := get_some hlt2
            have hbz := HR.out.trans (HJ.out.mono HR.out.size)
            obtain ⟨b2, o2, e2, _, hc2, _⟩ := (HS5.out.below hbz HZ35.out).int hx
            simp only [Option.some.injEq, Addr.mk.injEq, and_true] at e2
            obtain ⟨rfl, rfl⟩ := e2
            rw [Nat.zero_add] at hc2
            have HSN := Lib.hid (contains_snoc (i := (i : Int)) hx)
            obtain ⟨b0, hb0⟩ : ∃ b0, (t.take j).contains (i : Int) = b0 := ⟨_, rfl⟩
            rw [hb0] at HSN ⊢
            have hcap := HS5.out.hc
            clear hx hb0 hbz
            cases b0 with
            | true =>
              go_wp2_with fail
              go_roundw
              case rel => exact ⟨j + 1, by omega, by go_num, by rw [HSN.out]; rfl, HJ⟩
              case measure => simp [intOf]; omega
            | false =>
              go_wp2_with fail
              go_roundw
              case rel => exact ⟨j + 1, by omega, by go_num, by rw [HSN.out]; rfl, HJ⟩
              case measure => simp [intOf]; omega
          · obtain rfl : j = t.length := by omega
            rw [List.take_length]
            have hbz := HR.out.trans (HJ.out.mono HR.out.size)
            have hwz := HBR.out.trans (HJ.out.mono HBR.out.size)
            have HBZ := Lib.hid hbz
            have HWZ := Lib.hid hwz
            have H6 := Lib.hid (H5.out.next hbz (Nat.le_trans (Array.getElem?_eq_some_iff.1 H5.out.ebox).1 (Nat.le_refl _)))
            have x0 := H6.out.c0
            have x1 := H6.out.c1
            have hyz := (hbz.block _ HZ45.out).trans HX5.out
            have o0 := cell_blk (i := 0) hyz rfl
            have o1 := cell_blk (i := 1) hyz rfl
            have HO0 := Lib.hid o0
            clear hbz hwz hyz
            cases hin : t.contains (i : Int) with
            | true =>
              clear hin
              go_upto_region 14 with fail
              go_quiet (fail)
              generalize hwv : wr.drewN _ = wv
              have HBV : Hid (Below w5.heap.size w5 wv) := by rw [← hwv]; exact below_dN HBZ.out _
              clear hwv
              go_wp2_with fail
              go_roundw
              case rel => exact ⟨i + 1, by omega, by go_num, HBV⟩
              case measure => simp [intOf]; omega
            | false =>
              obtain ⟨hlt3, hsame⟩ := HRS.out i hlt (fun h => by
                have := (HM.out _).2 h
                rw [← List.contains_iff_mem, hin] at this
                cases this)
              obtain ⟨x, hx⟩ : ∃ x, l[i]? = some x := get_some hlt3
              obtain ⟨b1, p1, rfl, hd1⟩ := doc_at H6.out.doc (by have := HNL.out; omega)
              obtain ⟨b2, p2, e2, hd2⟩ := doc_at (HD5.out.below HBZ.out (Nat.le_of_lt HZ45.out)) (by omega)
              subst e2
              have HP1 := Lib.hid (sl_one H6.out.doc hx)
              have HP2 := Lib.hid (sl_one (HD5.out.below HBZ.out (Nat.le_of_lt HZ45.out)) (hsame.trans hx))
              have hik : i < k := by have := HNL.out; omega
              have hkc := HKN.out
              have hcap4 := HD5.out.hc
              have hw1 : IntKind.i64.wrap ((i : Int) + 1) = (i : Int) + 1 := IntWalk.i64_in _ (by omega)
              have HSD := Lib.hid (fun (u : World) (h : Below wr.heap.size wr u) => sameDoc_same (some ⟨b1, p1 + i * 6, none⟩) 1 (c - i) (some ⟨b2, p2 + i * 6, none⟩) (c4 - i) [x] false u wr.heap.size ((HP1.out.up (Nat.le_trans HBW.out HWZ.out.size)).below h (Nat.le_refl _)) ((HP2.out.up (Nat.le_trans (Nat.le_of_lt HZ45.out) HBZ.out.size)).below h (Nat.le_refl _)) h.size)
              have hge : decide ((k : Int) ≤ (i : Int)) = false := decide_eq_false (by omega)
              clear hin hlt3 hsame hx hd1 hd2
              go_upto_region 14 with fail
              go_cut [93] (fun b wx => b = .bool false ∧ Below wr.heap.size wr wx)
              case first =>
                refine wp_region_G (S := fun w' : World => w'.cell? ⟨w.heap.size, 0, none⟩ = some (.slice (some ⟨b1, p1, none⟩) k c) ∧ w'.cell? ⟨w4.heap.size, 0, none⟩ = some (.slice (some ⟨b2, p2, none⟩) ld.length c4)) (T := []) (by kernel_rfl) ?_
                have hS : (fun w' : World => w'.cell? ⟨w.heap.size, 0, none⟩ = some (.slice (some ⟨b1, p1, none⟩) k c) ∧ w'.cell? ⟨w4.heap.size, 0, none⟩ = some (.slice (some ⟨b2, p2, none⟩) ld.length c4)) wr.drew := ⟨x0, o0⟩
                refine wpAnyG_pureW (i := 0) (v := ?_) rfl (by kernel_rfl) (by kernel_rfl) (by kernel_rfl) (fun _ _ _ h => h) (by kernel_rfl) ?_ ?_
                rotate_left
                · intro w'
                  first | (go_simp; done) | (go_simp; with_reducible rfl)
                refine wpAnyG_pureW (i := 1) (v := ?_) rfl (by kernel_rfl) (by kernel_rfl) (by kernel_rfl) (fun _ _ _ h => h) (by kernel_rfl) ?_ ?_
                rotate_left
                · intro w'
                  first | (go_simp; done) | (go_simp; with_reducible rfl)
                refine wpAnyG_pureW (i := 2) (v := ?_) rfl (by kernel_rfl) (by kernel_rfl) (by kernel_rfl) (fun _ _ _ h => h) (by kernel_rfl) ?_ ?_
                rotate_left
                · intro w'
                  first | (go_simp; done) | (go_simp; with_reducible rfl)
                refine wpAnyG_pureW (i := 3) (v := ?_) rfl (by kernel_rfl) (by kernel_rfl) (by kernel_rfl) (fun _ _ _ h => h) (by kernel_rfl) ?_ ?_
                rotate_left
                · intro w'
                  first | (go_simp; done) | (go_simp; with_reducible rfl)
                refine wpAnyG_pureW (i := 4) (v := ?_) rfl (by kernel_rfl) (by kernel_rfl) (by kernel_rfl) (fun _ _ _ h => h) (by kernel_rfl) ?_ ?_
                rotate_left
                · intro w'
                  first | (go_simp; done) | (go_simp; with_reducible rfl)
                refine wpAnyG_takeW (i := 5) (v := ?_) rfl (by kernel_rfl) (by kernel_rfl) (by kernel_rfl) (by kernel_rfl) (fun _ _ _ h => h) hS (by kernel_rfl) ?_ ?_
                rotate_left
                · intro w' hSw
                  (try dsimp only at hSw)
                  first | (go_simp; done) | (go_simp; with_reducible rfl)
                refine wpAnyG_pureW (i := 6) (v := ?_) rfl (by kernel_rfl) (by kernel_rfl) (by kernel_rfl) (fun _ _ _ h => h) (by kernel_rfl) ?_ ?_
                rotate_left
                · intro w'
                  first | (go_simp; done) | (go_simp; with_reducible rfl)
                refine wpAnyG_pureW (i := 7) (v := .bool false) rfl (by kernel_rfl) (by kernel_rfl) (by kernel_rfl) (fun _ _ _ h => h) (by kernel_rfl) ?_ ?_
                · intro w'
                  go_simp
                refine wpAnyG_pureW (i := 8) (v := ?_) rfl (by kernel_rfl) (by kernel_rfl) (by kernel_rfl) (fun _ _ _ h => h) (by kernel_rfl) ?_ ?_
                rotate_left
                · intro w'
                  first | (go_simp; done) | (go_simp; with_reducible rfl)
                refine wpAnyG_pureW (i := 9) (v := ?_) rfl (by kernel_rfl) (by kernel_rfl) (by kernel_rfl) (fun _ _ _ h => h) (by kernel_rfl) ?_ ?_
                rotate_left
                · intro w'
                  first | (go_simp; done) | (go_simp; with_reducible rfl)
                refine wpAnyG_takeW (i := 10) (v := ?_) rfl (by kernel_rfl) (by kernel_rfl) (by kernel_rfl) (by kernel_rfl) (fun _ _ _ h => h) hS (by kernel_rfl) ?_ ?_
                rotate_left
                · intro w' hSw
                  (try dsimp only at hSw)
                  first | (go_simp; done) | (go_simp; with_reducible rfl)
                refine wpAnyG_pureW (i := 11) (v := ?_) rfl (by kernel_rfl) (by kernel_rfl) (by kernel_rfl) (fun _ _ _ h => h) (by kernel_rfl) ?_ ?_
                rotate_left
                · intro w'
                  first | (go_simp; done) | (go_simp; with_reducible rfl)
                refine wpAnyG_pureW (i := 12) (v := ?_) rfl (by kernel_rfl) (by kernel_rfl) (by kernel_rfl) (fun _ _ _ h => h) (by kernel_rfl) ?_ ?_
                rotate_left
                · intro w'
                  first | (go_simp; done) | (go_simp; with_reducible rfl)
                refine wpAnyG_pureW (i := 13) (v := .int .i64 ((i : Int) + 1)) rfl (by kernel_rfl) (by kernel_rfl) (by kernel_rfl) (fun _ _ _ h => h) (by kernel_rfl) ?_ ?_
                · intro w'
                  go_simp
                refine wpAnyG_pureW (i := 14) (v := .slice (some ⟨b1, p1 + i * 6, none⟩) 1 (c - i)) rfl (by kernel_rfl) (by kernel_rfl) (by kernel_rfl) (fun _ _ _ h => h) (by kernel_rfl) ?_ ?_
                · intro w'
                  go_simp; rw [if_pos ⟨by omega, by omega⟩, if_neg (by omega)]
                refine wpAnyG_pureW (i := 15) (v := ?_) rfl (by kernel_rfl) (by kernel_rfl) (by kernel_rfl) (fun _ _ _ h => h) (by kernel_rfl) ?_ ?_
                rotate_left
                · intro w'
                  first | (go_simp; done) | (go_simp; with_reducible rfl)
                refine wpAnyG_pureW (i := 16) (v := ?_) rfl (by kernel_rfl) (by kernel_rfl) (by kernel_rfl) (fun _ _ _ h => h) (by kernel_rfl) ?_ ?_
                rotate_left
                · intro w'
                  first | (go_simp; done) | (go_simp; with_reducible rfl)
                refine wpAnyG_takeW (i := 17) (v := ?_) rfl (by kernel_rfl) (by kernel_rfl) (by kernel_rfl) (by kernel_rfl) (fun _ _ _ h => h) hS (by kernel_rfl) ?_ ?_
                rotate_left
                · intro w' hSw
                  (try dsimp only at hSw)
                  first | (go_simp; done) | (go_simp; with_reducible rfl)
                refine wpAnyG_pureW (i := 18) (v := ?_) rfl (by kernel_rfl) (by kernel_rfl) (by kernel_rfl) (fun _ _ _ h => h) (by kernel_rfl) ?_ ?_
                rotate_left
                · intro w'
                  first | (go_simp; done) | (go_simp; with_reducible rfl)
                refine wpAnyG_pureW (i := 19) (v := ?_) rfl (by kernel_rfl) (by kernel_rfl) (by kernel_rfl) (fun _ _ _ h => h) (by kernel_rfl) ?_ ?_
                rotate_left
                · intro w'
                  first | (go_simp; done) | (go_simp; with_reducible rfl)
                refine wpAnyG_pureW (i := 20) (v := .int .i64 ((i : Int) + 1)) rfl (by kernel_rfl) (by kernel_rfl) (by kernel_rfl) (fun _ _ _ h => h) (by kernel_rfl) ?_ ?_
                · intro w'
                  go_simp
                refine wpAnyG_pureW (i := 21) (v := .slice (some ⟨b2, p2 + i * 6, none⟩) 1 (c4 - i)) rfl (by kernel_rfl) (by kernel_rfl) (by kernel_rfl) (fun _ _ _ h => h) (by kernel_rfl) ?_ ?_
                · intro w'
                  go_simp; rw [if_pos ⟨by omega, by omega⟩, if_neg (by omega)]
                refine wpAnyG_pureW (i := 22) (v := ?_) rfl (by kernel_rfl) (by kernel_rfl) (by kernel_rfl) (fun _ _ _ h => h) (by kernel_rfl) ?_ ?_
                rotate_left
                · intro w'
                  first | (go_simp; done) | (go_simp; with_reducible rfl)
                refine wpAnyG_oneW (i := 23) (by kernel_rfl) rfl (by kernel_rfl) (fun K hK => ?_)
                go_simp
                go_at_call 15
                refine (HSD.out _ ((Below.refl _ wr).drew)).mono ?_
                rintro e' w7 ⟨rfl, hb7⟩
                have hb70 : Below wr.heap.size wr w7 := ((Below.refl _ wr).drew).trans hb7
                have r0 := cell_be x0 hb70
                have r1 := cell_be o0 hb70
                go_wp2_with fail
                refine hK.out _ _ (fun _ _ => ⟨r0, r1⟩) ?_
                clear hK K hS
                refine wpAnyG_pureW (i := 24) (v := ?_) rfl (by kernel_rfl) (by kernel_rfl) (by kernel_rfl) (fun _ _ _ h => h) (by kernel_rfl) ?_ ?_
                rotate_left
                · intro w'
                  first | (go_simp; done) | (go_simp; with_reducible rfl)
                refine wpAnyG_pureW (i := 25) (v := ?_) rfl (by kernel_rfl) (by kernel_rfl) (by kernel_rfl) (fun _ _ _ h => h) (by kernel_rfl) ?_ ?_
                rotate_left
                · intro w'
                  first | (go_simp; done) | (go_simp; with_reducible rfl)
                refine wpAnyG_pureW (i := 26) (v := ?_) rfl (by kernel_rfl) (by kernel_rfl) (by kernel_rfl) (fun _ _ _ h => h) (by kernel_rfl) ?_ ?_
                rotate_left
                · intro w'
                  first | (go_simp; done) | (go_simp; with_reducible rfl)
                refine wpAnyG_done (by kernel_rfl) ?_ _
                go_wp2_with fail
                go_meet
                case rel => exact ⟨rfl, hb70⟩
              case rest =>
                obtain ⟨rfl, hbw⟩ := hcut
                have HBV := Lib.hid (HBZ.out.trans (hbw.mono HBZ.out.size))
                clear hbw
                go_wp2_with fail
                go_roundw
                case rel => exact ⟨i + 1, by omega, by go_num, HBV⟩
                case measure => simp [intOf]; omega
      · have HBG := Lib.hid (apartBegun_any wr)
        go_wp2_with (go_at_call 14; refine HBG.out.mono ?_; rintro e' w6 ⟨rfl, hb6⟩)
        go_ret
        exact ⟨rfl, HBR.out.trans (hb6.mono HBR.out.size)⟩
end Go.Proofs.YthkeciodjomakaaDoor
