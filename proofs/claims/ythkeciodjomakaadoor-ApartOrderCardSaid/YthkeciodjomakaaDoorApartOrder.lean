/-
The walk of ApartOrder.
-/
import Derived.Test.YthkeciodjomakaaDoorApartBegun
import Derived.Test.YthkeciodjomakaaDoorSameDoc
namespace Go.Proofs.YthkeciodjomakaaDoor
open Go.RowKit Go.Cl
attribute [local go_sem ↓] Go.wp_at_zero Go.wp_at_succ

theorem set_other {w : World} {g i k : Nat} (h : k ≠ g) (v : Value) : (w.setCell ⟨g, i, none⟩ v).heap[k]? = w.heap[k]? := heap_setCell_other w ⟨g, i, none⟩ k v h
theorem apart_all {l : List Nd} {e f : Edt} (he : apErr l e = 0) (hf : apErr l f = 0) (hc : clB l e f = false) : alR l [e, f] = (edDo (edDo l e) f, 0, 0) ∧ alR l [f, e] = (edDo (edDo l e) f, 0, 0) := by
  obtain ⟨hck, h1⟩ := apErr_zero he
  obtain ⟨_, h2⟩ := apErr_zero hf
  obtain ⟨a1, a2, a3⟩ := apart_order (good_of hck) h1 h2 (clB_none hc)
  have hz : ∀ x y : Edt, alErr l [x, y] = 0 := fun x y => by unfold alErr; rw [if_neg (by rw [hck]; simp), if_neg (by simp)]
  have r1 : runE l [e, f] = some (edDo (edDo l e) f) := by rw [runE, if_pos h1, runE, if_pos a2, runE]
  have r2 : runE l [f, e] = some (edDo (edDo l e) f) := by rw [runE, if_pos h2, runE, if_pos a1, runE, ← a3]
  unfold alR
  rw [if_neg (by rw [hz]; simp), if_neg (by rw [hz]; simp), edAll_run _ _ _ 0 r1, edAll_run _ _ _ 0 r2]
  exact ⟨rfl, rfl⟩
theorem cls_comm {l : List Nd} {e f : Edt} (h : (clS l e f).2 = 0) : clS l f e = clS l e f := by
  unfold clS at *
  by_cases he : apErr l e ≠ 0
  · rw [if_pos he] at h; exact absurd h he
  · rw [if_neg he] at h ⊢
    by_cases hf : apErr l f ≠ 0
    · rw [if_pos hf] at h; exact absurd h hf
    · rw [if_neg hf, if_neg hf, if_neg he, clB_comm]
theorem cls_bad {l : List Nd} {e f : Edt} (h : (clS l e f).2 ≠ 0) : (clS l e f).1 = false ∧ (clS l f e).1 = false ∧ (clS l f e).2 ≠ 0 := by
  unfold clS at *
  by_cases he : apErr l e ≠ 0
  · rw [if_pos he]
    by_cases hf : apErr l f ≠ 0
    · rw [if_pos hf]; exact ⟨rfl, rfl, hf⟩
    · rw [if_neg hf, if_pos he]; exact ⟨rfl, rfl, he⟩
  · rw [if_neg he] at h ⊢
    by_cases hf : apErr l f ≠ 0
    · rw [if_pos hf, if_pos hf]; exact ⟨rfl, rfl, hf⟩
    · rw [if_neg hf] at h; exact absurd rfl h
theorem cls_good {l : List Nd} {e f : Edt} (h : (clS l e f).2 = 0) : apErr l e = 0 ∧ apErr l f = 0 ∧ (clS l e f).1 = clB l e f := by
  unfold clS at *
  by_cases he : apErr l e ≠ 0
  · rw [if_pos he] at h; exact absurd h he
  · rw [if_neg he] at h ⊢
    by_cases hf : apErr l f ≠ 0
    · rw [if_pos hf] at h; exact absurd h hf
    · rw [if_neg hf]; exact ⟨by simpa using he, by simpa using hf, rfl⟩
theorem edts_two {w W : World} {B : Nat} {e f : Edt} {Aa : Option Addr} {na ca : Nat} {Ak : Option Addr} {nk ck : Nat} {Ab : Option Addr} {nb cb : Nat} {Aj : Option Addr} {nj cj : Nat} (he : EdtOk w (lt B) e Aa na ca Ak nk ck) (hf : EdtOk w (lt B) f Ab nb cb Aj nj cj) (h1 : (Lit.int .i64 e.do_).wf = true) (h2 : (Lit.int .i64 f.do_).wf = true) {b : Nat} (hb : Below b w W) (hB : B ≤ b) (hW : B ≤ W.heap.size) :
    Sl tEdt (W.alloc (.cells #[.int .i64 e.do_, .int .i64 e.at_, .int .i64 e.to_, .int .i64 e.before, .string e.name, .string e.value, .int .i64 e.node.kind, .string e.node.name, .slice Aa na ca, .string e.node.text, .int .i64 e.node.parent, .slice Ak nk ck, .int .i64 f.do_, .int .i64 f.at_, .int .i64 f.to_, .int .i64 f.before, .string f.name, .string f.value, .int .i64 f.node.kind, .string f.node.name, .slice Ab nb cb, .string f.node.text, .int .i64 f.node.parent, .slice Aj nj cj] 30)) (lt (W.heap.size + 1)) (some ⟨W.heap.size, 0, none⟩) 2 2 [e, f] :=
  Sl.fresh (n := 2) (w := W) (B := W.heap.size) 30 (T := tEdt) (xs := [e, f]) ⟨(edtCells e Aa na ca Ak nk ck).toList, _, rfl, edt_rep ⟨(he.below hb hB).node.up hW, he.at_, he.to_, he.before, he.name, he.value⟩ h1, (edtCells f Ab nb cb Aj nj cj).toList, [], rfl, edt_rep ⟨(hf.below hb hB).node.up hW, hf.at_, hf.to_, hf.before, hf.name, hf.value⟩ h2, rfl⟩ (Nat.le_refl _) rfl (by decide)
set_option maxRecDepth 100000 in
set_option maxHeartbeats 8000000 in
theorem apartOrder_walk (A : Option Addr) (n c : Nat) (l : List Nd) (q : Bool) (e : Edt) (Aa : Option Addr) (na ca : Nat) (Ak : Option Addr) (nk ck : Nat) (f : Edt) (Ab : Option Addr) (nb cb : Nat) (Aj : Option Addr) (nj cj : Nat) (w : World) (B : Nat) (hl : Sl tNd w (lt B) A n c l) (hB : B ≤ w.heap.size) (he : EdtOk w (lt B) e Aa na ca Ak nk ck) (hed : (Lit.int .i64 e.do_).wf = true) (hf : EdtOk w (lt B) f Ab nb cb Aj nj cj) (hfd : (Lit.int .i64 f.do_).wf = true) :
    Calls Tryd.prog 4 #[.agg #[.slice A n c, .bool q], .agg (edtCells e Aa na ca Ak nk ck), .agg (edtCells f Ab nb cb Aj nj cj)] w fun e' w' => e' = .returned (.bool true) ∧ Below w.heap.size w w' := by
  obtain ⟨wa, hwa⟩ : ∃ wa, wa = w.alloc (.cells #[.slice A n c, .bool q] 24) := ⟨_, rfl⟩
  obtain ⟨wb, hwb⟩ : ∃ wb, wb = wa.alloc (.cells (edtCells e Aa na ca Ak nk ck) 30) := ⟨_, rfl⟩
  obtain ⟨w0, hw0⟩ : ∃ w0, w0 = wb.alloc (.cells (edtCells f Ab nb cb Aj nj cj) 30) := ⟨_, rfl⟩
  have za : wa.heap.size = w.heap.size + 1 := by rw [hwa]; exact World.size_alloc w _
  have zb : wb.heap.size = w.heap.size + 2 := by rw [hwb, World.size_alloc, za]
  have z0 : w0.heap.size = w.heap.size + 3 := by rw [hw0, World.size_alloc, zb]
  have hxa : wa.heap[w.heap.size]? = some (.cells #[.slice A n c, .bool q] 24 (0, 0)) := by rw [hwa]; exact heap_alloc_new w _
  have hxb : wb.heap[w.heap.size + 1]? = some (.cells (edtCells e Aa na ca Ak nk ck) 30 (0, 0)) := by rw [hwb, ← za]; exact heap_alloc_new wa _
  have hbf : w0.heap[w.heap.size + 2]? = some (.cells (edtCells f Ab nb cb Aj nj cj) 30 (0, 0)) := by rw [hw0, ← zb]; exact heap_alloc_new wb _
  have hbe : w0.heap[w.heap.size + 1]? = some (.cells (edtCells e Aa na ca Ak nk ck) 30 (0, 0)) := by rw [hw0, Lib.alloc_old _ _ _ (by omega)]; exact hxb
  have hbd : w0.heap[w.heap.size]? = some (.cells #[.slice A n c, .bool q] 24 (0, 0)) := by rw [hw0, Lib.alloc_old _ _ _ (by omega), hwb, Lib.alloc_old _ _ _ (by omega)]; exact hxa
  have hb0 : Below w.heap.size w w0 := by rw [hw0, hwb, hwa]; exact (((Below.refl _ _).alloc (Nat.le_refl _) _).alloc (by simp) _).alloc (by simp; omega) _
  obtain ⟨k, hk, hkc, hkn⟩ : ∃ k : Nat, min (n : Int) 50 = (k : Int) ∧ k ≤ c ∧ k ≤ n := ⟨min n 50, by omega, by have := hl.hc; omega, by omega⟩
  have HFW := Lib.hid (few_any A n c k q 50 w0 hk hkc)
  have HL := Lib.hid (hl.cut_to hkn)
  have HE := Lib.hid he
  have HF := Lib.hid hf
  have HED := Lib.hid hed
  have HFD := Lib.hid hfd
  have HB0 := Lib.hid hb0
  have HZ := Lib.hid z0
  have HBW : Hid (B ≤ w.heap.size) := hB
  have HBD := Lib.hid hbd
  have HBE := Lib.hid hbe
  have HBF := Lib.hid hbf
  have HX := Lib.hid (fun (u : World) (h : u.heap[w.heap.size + 1]? = some (.cells (edtCells e Aa na ca Ak nk ck) 30 (0, 0))) => show ∀ (i : Nat) v, (edtCells e Aa na ca Ak nk ck)[i]? = some v → u.cell? ⟨w.heap.size + 1, i, none⟩ = some v from fun i v hv => cell_blk h hv)
  have HY := Lib.hid (fun (u : World) (h : u.heap[w.heap.size + 2]? = some (.cells (edtCells f Ab nb cb Aj nj cj) 30 (0, 0))) => show ∀ (i : Nat) v, (edtCells f Ab nb cb Aj nj cj)[i]? = some v → u.cell? ⟨w.heap.size + 2, i, none⟩ = some v from fun i v hv => cell_blk h hv)
  have d0 := cell_blk (i := 0) hbd rfl
  have d1 := cell_blk (i := 1) hbd rfl
  clear za zb z0 hxa hxb hbe hbd hbf hb0 hl he hf hB hed hfd hk hkn
  go_enter Tryd.func4, Tryd.ntmps4
  unfold edtCells at *
  go_upto_region 1 with fail
  rw [← hwa, ← hwb, ← hw0]
  clear hwa hwb hw0
  go_upto_region 2 with (go_at_call 11; refine HFW.out.mono ?_; rintro e' w1 ⟨rfl, hb1⟩; have v0 := cell_blk (i := 0) ((hb1.block w.heap.size (by rw [HZ.out]; omega)).trans HBD.out) rfl; have v1 := cell_blk (i := 1) ((hb1.block w.heap.size (by rw [HZ.out]; omega)).trans HBD.out) rfl; have y0 := free_blk (i := 0) ((hb1.block w.heap.size (by rw [HZ.out]; omega)).trans HBD.out); have y1 := free_blk (i := 1) ((hb1.block w.heap.size (by rw [HZ.out]; omega)).trans HBD.out))
  obtain ⟨w2, hw2⟩ : ∃ w2, w2 = (w1.setCell ⟨w.heap.size, 0, none⟩ (.slice A k c)).setCell ⟨w.heap.size, 1, none⟩ (.bool q) := ⟨_, rfl⟩
  rw [← hw2]
  have hbb : Below w.heap.size w w2 := by rw [hw2]; exact ((HB0.out.trans (hb1.mono HB0.out.size)).setCell (Nat.le_refl _) _).setCell (Nat.le_refl _) _
  have hs2 : w0.heap.size ≤ w2.heap.size := by rw [hw2]; simp; exact hb1.size
  have H2 : Hid (CB w B A k c q (l.take k) (edtCells e Aa na ca Ak nk ck) (edtCells f Ab nb cb Aj nj cj) w2) := by
    refine ⟨⟨hbb, ?_, ?_, HL.out.below hbb HBW.out, HBW.out⟩, ?_⟩
    · rw [hw2]; exact set_blk (set_blk ((hb1.block w.heap.size (by rw [HZ.out]; omega)).trans HBD.out) _) _
    · rw [hw2]; exact (set_other (by omega) _).trans ((set_other (by omega) _).trans ((hb1.block (w.heap.size + 1) (by rw [HZ.out]; omega)).trans HBE.out))
    · rw [hw2]; exact (set_other (by omega) _).trans ((set_other (by omega) _).trans ((hb1.block (w.heap.size + 2) (by rw [HZ.out]; omega)).trans HBF.out))
  have HZ2 : Hid (w.heap.size + 3 ≤ w2.heap.size) := by rw [← HZ.out]; exact hs2
  clear hw2 hbb hs2 y0 y1 v0 v1 hb1 d0 d1 HBD HBE HBF HFW HZ HB0
  generalize l.take k = l at *
  have HCL := Lib.hid (fun (u : World) (h : CB w B A k c q l (edtCells e Aa na ca Ak nk ck) (edtCells f Ab nb cb Aj nj cj) u) => clash_any A k c l q e Aa na ca Ak nk ck f Ab nb cb Aj nj cj u B h.tb.doc (Nat.le_trans HBW.out h.tb.below.size) (HE.out.below h.tb.below HBW.out) (HF.out.below h.tb.below HBW.out))
  have HCR := Lib.hid (fun (u : World) (h : CB w B A k c q l (edtCells e Aa na ca Ak nk ck) (edtCells f Ab nb cb Aj nj cj) u) => clash_any A k c l q f Ab nb cb Aj nj cj e Aa na ca Ak nk ck u B h.tb.doc (Nat.le_trans HBW.out h.tb.below.size) (HF.out.below h.tb.below HBW.out) (HE.out.below h.tb.below HBW.out))
  unfold edtCells at HCL HCR
  have ag0 := HX.out w2 H2.out.tb.ebox 0 _ rfl
  have ag1 := HX.out w2 H2.out.tb.ebox 1 _ rfl
  have ag2 := HX.out w2 H2.out.tb.ebox 2 _ rfl
  have ag3 := HX.out w2 H2.out.tb.ebox 3 _ rfl
  have ag4 := HX.out w2 H2.out.tb.ebox 4 _ rfl
  have ag5 := HX.out w2 H2.out.tb.ebox 5 _ rfl
  have ag6 := HX.out w2 H2.out.tb.ebox 6 _ rfl
  have ag7 := HX.out w2 H2.out.tb.ebox 7 _ rfl
  have ag8 := HX.out w2 H2.out.tb.ebox 8 _ rfl
  have ag9 := HX.out w2 H2.out.tb.ebox 9 _ rfl
  have ag10 := HX.out w2 H2.out.tb.ebox 10 _ rfl
  have ag11 := HX.out w2 H2.out.tb.ebox 11 _ rfl
  have ak0 := HY.out w2 H2.out.fbox 0 _ rfl
  have ak1 := HY.out w2 H2.out.fbox 1 _ rfl
  have ak2 := HY.out w2 H2.out.fbox 2 _ rfl
  have ak3 := HY.out w2 H2.out.fbox 3 _ rfl
  have ak4 := HY.out w2 H2.out.fbox 4 _ rfl
  have ak5 := HY.out w2 H2.out.fbox 5 _ rfl
  have ak6 := HY.out w2 H2.out.fbox 6 _ rfl
  have ak7 := HY.out w2 H2.out.fbox 7 _ rfl
  have ak8 := HY.out w2 H2.out.fbox 8 _ rfl
  have ak9 := HY.out w2 H2.out.fbox 9 _ rfl
  have ak10 := HY.out w2 H2.out.fbox 10 _ rfl
  have ak11 := HY.out w2 H2.out.fbox 11 _ rfl
  have ax0 := H2.out.tb.c0
  have ax1 := H2.out.tb.c1
  go_upto_region 3 with (go_at_call 16; refine (HCL.out w2 H2.out).mono ?_; rintro e' w3 ⟨rfl, hb3⟩)
  have H3 := Lib.hid (H2.out.next hb3 HZ2.out)
  have HZ3 : Hid (w.heap.size + 3 ≤ w3.heap.size) := Nat.le_trans HZ2.out hb3.size
  clear ag0 ak0 ag1 ak1 ag2 ak2 ag3 ak3 ag4 ak4 ag5 ak5 ag6 ak6 ag7 ak7 ag8 ak8 ag9 ak9 ag10 ak10 ag11 ak11 ax0 ax1 hb3
  have bg0 := HX.out w3 H3.out.tb.ebox 0 _ rfl
  have bg1 := HX.out w3 H3.out.tb.ebox 1 _ rfl
  have bg2 := HX.out w3 H3.out.tb.ebox 2 _ rfl
  have bg3 := HX.out w3 H3.out.tb.ebox 3 _ rfl
  have bg4 := HX.out w3 H3.out.tb.ebox 4 _ rfl
  have bg5 := HX.out w3 H3.out.tb.ebox 5 _ rfl
  have bg6 := HX.out w3 H3.out.tb.ebox 6 _ rfl
  have bg7 := HX.out w3 H3.out.tb.ebox 7 _ rfl
  have bg8 := HX.out w3 H3.out.tb.ebox 8 _ rfl
  have bg9 := HX.out w3 H3.out.tb.ebox 9 _ rfl
  have bg10 := HX.out w3 H3.out.tb.ebox 10 _ rfl
  have bg11 := HX.out w3 H3.out.tb.ebox 11 _ rfl
  have bk0 := HY.out w3 H3.out.fbox 0 _ rfl
  have bk1 := HY.out w3 H3.out.fbox 1 _ rfl
  have bk2 := HY.out w3 H3.out.fbox 2 _ rfl
  have bk3 := HY.out w3 H3.out.fbox 3 _ rfl
  have bk4 := HY.out w3 H3.out.fbox 4 _ rfl
  have bk5 := HY.out w3 H3.out.fbox 5 _ rfl
  have bk6 := HY.out w3 H3.out.fbox 6 _ rfl
  have bk7 := HY.out w3 H3.out.fbox 7 _ rfl
  have bk8 := HY.out w3 H3.out.fbox 8 _ rfl
  have bk9 := HY.out w3 H3.out.fbox 9 _ rfl
  have bk10 := HY.out w3 H3.out.fbox 10 _ rfl
  have bk11 := HY.out w3 H3.out.fbox 11 _ rfl
  have bx0 := H3.out.tb.c0
  have bx1 := H3.out.tb.c1
  go_upto_region 4 with (go_at_call 16; refine (HCR.out w3 H3.out).mono ?_; rintro e' w4 ⟨rfl, hb4⟩)
  have H4 := Lib.hid (H3.out.next hb4 HZ3.out)
  have HZ4 : Hid (w.heap.size + 3 ≤ w4.heap.size) := Nat.le_trans HZ3.out hb4.size
  clear bg0 bk0 bg1 bk1 bg2 bk2 bg3 bk3 bg4 bk4 bg5 bk5 bg6 bk6 bg7 bk7 bg8 bk8 bg9 bk9 bg10 bk10 bg11 bk11 bx0 bx1 hb4 HCL HCR
  have HBG := Lib.hid (apartBegun_any w4)
  by_cases herr : (clS l e f).2 = 0
  · obtain ⟨he0, hf0, hc0⟩ := cls_good herr
    rw [cls_comm herr, herr, hc0]
    have HE0 := Lib.hid he0
    have HF0 := Lib.hid hf0
    clear herr hc0 he0 hf0
    cases hcl : clB l e f with
    | true =>
      clear hcl
      go_wp2_with (go_at_call 14; refine HBG.out.mono ?_; rintro e' w5 ⟨rfl, hb5⟩)
      go_ret
      exact ⟨rfl, H4.out.tb.below.trans (hb5.mono H4.out.tb.below.size)⟩
    | false =>
      obtain ⟨ha1, ha2⟩ := apart_all HE0.out HF0.out hcl
      have HA1 := Lib.hid ha1
      have HA2 := Lib.hid ha2
      clear hcl ha1 ha2
      generalize edDo (edDo l e) f = ld at *
      have ag0 := HX.out w4 H4.out.tb.ebox 0 _ rfl
      have ag1 := HX.out w4 H4.out.tb.ebox 1 _ rfl
      have ag2 := HX.out w4 H4.out.tb.ebox 2 _ rfl
      have ag3 := HX.out w4 H4.out.tb.ebox 3 _ rfl
      have ag4 := HX.out w4 H4.out.tb.ebox 4 _ rfl
      have ag5 := HX.out w4 H4.out.tb.ebox 5 _ rfl
      have ag6 := HX.out w4 H4.out.tb.ebox 6 _ rfl
      have ag7 := HX.out w4 H4.out.tb.ebox 7 _ rfl
      have ag8 := HX.out w4 H4.out.tb.ebox 8 _ rfl
      have ag9 := HX.out w4 H4.out.tb.ebox 9 _ rfl
      have ag10 := HX.out w4 H4.out.tb.ebox 10 _ rfl
      have ag11 := HX.out w4 H4.out.tb.ebox 11 _ rfl
      have ak0 := HY.out w4 H4.out.fbox 0 _ rfl
      have ak1 := HY.out w4 H4.out.fbox 1 _ rfl
      have ak2 := HY.out w4 H4.out.fbox 2 _ rfl
      have ak3 := HY.out w4 H4.out.fbox 3 _ rfl
      have ak4 := HY.out w4 H4.out.fbox 4 _ rfl
      have ak5 := HY.out w4 H4.out.fbox 5 _ rfl
      have ak6 := HY.out w4 H4.out.fbox 6 _ rfl
      have ak7 := HY.out w4 H4.out.fbox 7 _ rfl
      have ak8 := HY.out w4 H4.out.fbox 8 _ rfl
      have ak9 := HY.out w4 H4.out.fbox 9 _ rfl
      have ak10 := HY.out w4 H4.out.fbox 10 _ rfl
      have ak11 := HY.out w4 H4.out.fbox 11 _ rfl
      have ax0 := H4.out.tb.c0
      have ax1 := H4.out.tb.c1
      go_upto_region 11 with fail
      obtain ⟨w5, hw5⟩ : ∃ w5, w5 = w4.alloc (.cells #[.int .i64 e.do_, .int .i64 e.at_, .int .i64 e.to_, .int .i64 e.before, .string e.name, .string e.value, .int .i64 e.node.kind, .string e.node.name, .slice Aa na ca, .string e.node.text, .int .i64 e.node.parent, .slice Ak nk ck, .int .i64 f.do_, .int .i64 f.at_, .int .i64 f.to_, .int .i64 f.before, .string f.name, .string f.value, .int .i64 f.node.kind, .string f.node.name, .slice Ab nb cb, .string f.node.text, .int .i64 f.node.parent, .slice Aj nj cj] 30) := ⟨_, rfl⟩
      have hs5 : Sl tEdt w5 (lt (w4.heap.size + 1)) (some ⟨w4.heap.size, 0, none⟩) 2 2 [e, f] := by rw [hw5]; exact edts_two HE.out HF.out HED.out HFD.out H4.out.tb.below HBW.out (Nat.le_trans HBW.out H4.out.tb.below.size)
      have hb5 : Below w4.heap.size w4 w5 := by rw [hw5]; exact (Below.refl _ _).alloc (Nat.le_refl _) _
      have hz5 : w4.heap.size + 1 ≤ w5.heap.size := by rw [hw5]; simp
      have H5 := Lib.hid (H4.out.next hb5 HZ4.out)
      have HZ5 : Hid (w.heap.size + 3 ≤ w5.heap.size) := Nat.le_trans HZ4.out hb5.size
      have HL1 := Lib.hid (all_any A k c l q (some ⟨w4.heap.size, 0, none⟩) 2 2 [e, f] w5 (w4.heap.size + 1) (H5.out.tb.doc.up (Nat.le_trans (Nat.le_trans HBW.out H4.out.tb.below.size) (Nat.le_succ _))) hs5 hz5)
      rw [← hw5]
      clear hw5 hs5 hb5 hz5 ag0 ak0 ag1 ak1 ag2 ak2 ag3 ak3 ag4 ak4 ag5 ak5 ag6 ak6 ag7 ak7 ag8 ak8 ag9 ak9 ag10 ak10 ag11 ak11 ax0 ax1
      refine HL1.out.mono ?_
      rintro e' w6 ⟨hb6, ⟨h, _⟩ | ⟨_, A6, c6, rfl, hs6⟩⟩
      · rw [HA1.out] at h; exact absurd rfl h
      rw [HA1.out] at hs6 ⊢
      have H6 := Lib.hid (H5.out.next hb6 HZ5.out)
      have HZ6 : Hid (w.heap.size + 3 ≤ w6.heap.size) := Nat.le_trans HZ5.out hb6.size
      have HS6 := Lib.hid hs6
      clear hs6 hb6 HL1
      go_upto_region 11 with fail
      obtain ⟨w7, hw7⟩ : ∃ w7, w7 = w6.alloc (.cells #[.slice A6 ld.length c6, .bool q] 24) := ⟨_, rfl⟩
      have hb7 : Below w6.heap.size w6 w7 := by rw [hw7]; exact (Below.refl _ _).alloc (Nat.le_refl _) _
      have hx7 : w7.heap[w6.heap.size]? = some (.cells #[.slice A6 ld.length c6, .bool q] 24 (0, 0)) := by rw [hw7]; exact heap_alloc_new w6 _
      have H7 := Lib.hid (H6.out.next hb7 HZ6.out)
      have HZ7 : Hid (w.heap.size + 3 ≤ w7.heap.size) := Nat.le_trans HZ6.out hb7.size
      have HS7 := Lib.hid ((Sl.ltr HS6.out).below hb7 (Nat.le_refl _))
      have HX7 := Lib.hid hx7
      have HZ67 : Hid (w6.heap.size < w7.heap.size) := (Array.getElem?_eq_some_iff.1 hx7).1
      rw [← hw7]
      clear hw7 hb7 hx7 HS6
      have ag0 := HX.out w7 H7.out.tb.ebox 0 _ rfl
      have ag1 := HX.out w7 H7.out.tb.ebox 1 _ rfl
      have ag2 := HX.out w7 H7.out.tb.ebox 2 _ rfl
      have ag3 := HX.out w7 H7.out.tb.ebox 3 _ rfl
      have ag4 := HX.out w7 H7.out.tb.ebox 4 _ rfl
      have ag5 := HX.out w7 H7.out.tb.ebox 5 _ rfl
      have ag6 := HX.out w7 H7.out.tb.ebox 6 _ rfl
      have ag7 := HX.out w7 H7.out.tb.ebox 7 _ rfl
      have ag8 := HX.out w7 H7.out.tb.ebox 8 _ rfl
      have ag9 := HX.out w7 H7.out.tb.ebox 9 _ rfl
      have ag10 := HX.out w7 H7.out.tb.ebox 10 _ rfl
      have ag11 := HX.out w7 H7.out.tb.ebox 11 _ rfl
      have ak0 := HY.out w7 H7.out.fbox 0 _ rfl
      have ak1 := HY.out w7 H7.out.fbox 1 _ rfl
      have ak2 := HY.out w7 H7.out.fbox 2 _ rfl
      have ak3 := HY.out w7 H7.out.fbox 3 _ rfl
      have ak4 := HY.out w7 H7.out.fbox 4 _ rfl
      have ak5 := HY.out w7 H7.out.fbox 5 _ rfl
      have ak6 := HY.out w7 H7.out.fbox 6 _ rfl
      have ak7 := HY.out w7 H7.out.fbox 7 _ rfl
      have ak8 := HY.out w7 H7.out.fbox 8 _ rfl
      have ak9 := HY.out w7 H7.out.fbox 9 _ rfl
      have ak10 := HY.out w7 H7.out.fbox 10 _ rfl
      have ak11 := HY.out w7 H7.out.fbox 11 _ rfl
      have ax0 := H7.out.tb.c0
      have ax1 := H7.out.tb.c1
      go_upto_region 12 with fail
      obtain ⟨w8, hw8⟩ : ∃ w8, w8 = w7.alloc (.cells #[.int .i64 f.do_, .int .i64 f.at_, .int .i64 f.to_, .int .i64 f.before, .string f.name, .string f.value, .int .i64 f.node.kind, .string f.node.name, .slice Ab nb cb, .string f.node.text, .int .i64 f.node.parent, .slice Aj nj cj, .int .i64 e.do_, .int .i64 e.at_, .int .i64 e.to_, .int .i64 e.before, .string e.name, .string e.value, .int .i64 e.node.kind, .string e.node.name, .slice Aa na ca, .string e.node.text, .int .i64 e.node.parent, .slice Ak nk ck] 30) := ⟨_, rfl⟩
      have hs8 : Sl tEdt w8 (lt (w7.heap.size + 1)) (some ⟨w7.heap.size, 0, none⟩) 2 2 [f, e] := by rw [hw8]; exact edts_two HF.out HE.out HFD.out HED.out H7.out.tb.below HBW.out (Nat.le_trans HBW.out H7.out.tb.below.size)
      have hb8 : Below w7.heap.size w7 w8 := by rw [hw8]; exact (Below.refl _ _).alloc (Nat.le_refl _) _
      have hz8 : w7.heap.size + 1 ≤ w8.heap.size := by rw [hw8]; simp
      have H8 := Lib.hid (H7.out.next hb8 HZ7.out)
      have HZ8 : Hid (w.heap.size + 3 ≤ w8.heap.size) := Nat.le_trans HZ7.out hb8.size
      have HX8 := Lib.hid ((hb8.block _ HZ67.out).trans HX7.out)
      have HS8 := Lib.hid (HS7.out.below hb8 (Nat.le_of_lt HZ67.out))
      have HZ68 : Hid (w6.heap.size < w8.heap.size) := Nat.lt_of_lt_of_le HZ67.out hb8.size
      have HL2 := Lib.hid (all_any A k c l q (some ⟨w7.heap.size, 0, none⟩) 2 2 [f, e] w8 (w7.heap.size + 1) (H8.out.tb.doc.up (Nat.le_trans (Nat.le_trans HBW.out H7.out.tb.below.size) (Nat.le_succ _))) hs8 hz8)
      rw [← hw8]
      clear hw8 hs8 hb8 hz8 ag0 ak0 ag1 ak1 ag2 ak2 ag3 ak3 ag4 ak4 ag5 ak5 ag6 ak6 ag7 ak7 ag8 ak8 ag9 ak9 ag10 ak10 ag11 ak11 ax0 ax1
      refine HL2.out.mono ?_
      rintro e' w9 ⟨hb9, ⟨h, _⟩ | ⟨_, A9, c9, rfl, hs9⟩⟩
      · rw [HA2.out] at h; exact absurd rfl h
      rw [HA2.out] at hs9 ⊢
      have H9 := Lib.hid (H8.out.next hb9 HZ8.out)
      have HX9 := Lib.hid ((hb9.block _ HZ68.out).trans HX8.out)
      have HS9 := Lib.hid hs9
      have HR9 := Lib.hid (HS8.out.below hb9 (Nat.le_of_lt HZ68.out))
      have HZ69 : Hid (w6.heap.size < w9.heap.size) := Nat.lt_of_lt_of_le HZ68.out hb9.size
      have HZ9 : Hid (w.heap.size + 3 ≤ w9.heap.size) := Nat.le_trans HZ8.out hb9.size
      clear hs9 hb9 HL2
      go_upto_region 12 with fail
      obtain ⟨wx, hwx⟩ : ∃ wx, wx = w9.alloc (.cells #[.slice A9 ld.length c9, .bool q] 24) := ⟨_, rfl⟩
      have hbx : Below w9.heap.size w9 wx := by rw [hwx]; exact (Below.refl _ _).alloc (Nat.le_refl _) _
      have hxx : wx.heap[w9.heap.size]? = some (.cells #[.slice A9 ld.length c9, .bool q] 24 (0, 0)) := by rw [hwx]; exact heap_alloc_new w9 _
      have hxy : wx.heap[w6.heap.size]? = some (.cells #[.slice A6 ld.length c6, .bool q] 24 (0, 0)) := (hbx.block _ HZ69.out).trans HX9.out
      have HX := Lib.hid (H9.out.next hbx HZ9.out)
      have HP := Lib.hid ((Sl.ltr HS9.out).below hbx (Nat.le_refl _))
      have HQ := Lib.hid ((HR9.out.below hbx (Nat.le_of_lt HZ69.out)).up (Nat.le_of_lt HZ69.out))
      have HXX := Lib.hid hxx
      have HXY := Lib.hid hxy
      have HZX := Lib.hid hbx.size
      have HBG2 := Lib.hid (apartBegun_any wx)
      rw [← hwx]
      clear hwx hbx hxx hxy HBG
      have HSD := Lib.hid (fun (u : World) (h : Below wx.heap.size wx u) => sameDoc_same A6 ld.length c6 A9 c9 ld q u w9.heap.size (HQ.out.below h HZX.out) (HP.out.below h HZX.out) (Nat.le_trans HZX.out h.size))
      have HZP : Hid (w6.heap.size < wx.heap.size) := (Array.getElem?_eq_some_iff.1 HXY.out).1
      have HZQ : Hid (w9.heap.size < wx.heap.size) := (Array.getElem?_eq_some_iff.1 HXX.out).1
      go_wp2_with (first | (go_at_call 14; refine HBG2.out.mono ?_; rintro e' wy ⟨rfl, hby⟩; have s0 := cell_blk (i := 0) ((hby.block w6.heap.size HZP.out).trans HXY.out) rfl; have s1 := cell_blk (i := 1) ((hby.block w6.heap.size HZP.out).trans HXY.out) rfl; have r0 := cell_blk (i := 0) ((hby.block w9.heap.size HZQ.out).trans HXX.out) rfl; have r1 := cell_blk (i := 1) ((hby.block w9.heap.size HZQ.out).trans HXX.out) rfl) | (go_at_call 15; refine (HSD.out _ hby).mono ?_; rintro e' wz ⟨rfl, hbz⟩))
      go_ret
      exact ⟨rfl, HX.out.tb.below.trans ((hby.trans (hbz.mono hby.size)).mono HX.out.tb.below.size)⟩
  · obtain ⟨h1, h2, h3⟩ := cls_bad herr
    have t1 : ((clS l e f).2 != 0) = true := by simpa using herr
    rw [h1, h2]
    clear h1 h2 h3 herr
    generalize (clS l e f).2 = er at *
    go_wp2_with (go_at_call 14; refine HBG.out.mono ?_; rintro e' w5 ⟨rfl, hb5⟩)
    go_ret
    exact ⟨rfl, H4.out.tb.below.trans (hb5.mono H4.out.tb.below.size)⟩
end Go.Proofs.YthkeciodjomakaaDoor
