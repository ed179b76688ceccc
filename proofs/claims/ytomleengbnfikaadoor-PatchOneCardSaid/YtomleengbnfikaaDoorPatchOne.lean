/-
The walk of PatchOne.
-/
import Derived.Test.YtomleengbnfikaaDoorPatTree
import Derived.Test.YtomleengbnfikaaDoorPatDiff
import Derived.Test.YtomleengbnfikaaDoorPatBegunW
import Derived.Test.YtomleengbnfikaaDoorDomAsks
import Derived.Deep.DeepCutAuto
namespace Go.Proofs.YtomleengbnfikaaDoor
open Go.RowKit Go.Cl
attribute [local go_sem ↓] Go.wp_at_zero Go.wp_at_succ

theorem set_other6 {w : World} {g i k : Nat} (h : k ≠ g) (v : Value) : (w.setCell ⟨g, i, none⟩ v).heap[k]? = w.heap[k]? := heap_setCell_other w ⟨g, i, none⟩ k v h
theorem apErr_zero6 {l : List Nd} {e : Edt} (h : apErr l e = 0) : checkD l = 0 ∧ edErr l e = 0 := by
  unfold apErr at h
  by_cases hc : checkD l = 0
  · rw [if_neg (by rw [hc]; simp)] at h; exact ⟨hc, h⟩
  · rw [if_pos hc] at h; exact absurd h hc
/-- A document and an edit in their boxes, in a later world. -/
structure PB (w : World) (B : Nat) (A : Option Addr) (k c : Nat) (q : Bool) (l : List Nd) (ce : Array Value) (u : World) : Prop where
  below : Below w.heap.size w u
  box : u.heap[w.heap.size]? = some (.cells #[.slice A k c, .bool q] 24 (0, 0))
  ebox : u.heap[w.heap.size + 1]? = some (.cells ce 30 (0, 0))
  doc : Sl tNd u (lt B) A k c l
  le : B ≤ w.heap.size
section
variable {w : World} {B : Nat} {A : Option Addr} {k c : Nat} {q : Bool} {l : List Nd} {ce : Array Value} {u u' : World}
theorem PB.size (h : PB w B A k c q l ce u) : w.heap.size + 2 ≤ u.heap.size := (Array.getElem?_eq_some_iff.1 h.ebox).1
theorem PB.next (h : PB w B A k c q l ce u) {b : Nat} (hb : Below b u u') (h2 : w.heap.size + 2 ≤ b) : PB w B A k c q l ce u' :=
  ⟨h.below.trans (hb.mono (by omega)), (hb.block _ (by omega)).trans h.box, (hb.block _ (by omega)).trans h.ebox, h.doc.below hb (Nat.le_trans h.le (by omega)), h.le⟩
theorem PB.c0 (h : PB w B A k c q l ce u) : u.cell? ⟨w.heap.size, 0, none⟩ = some (.slice A k c) := cell_blk h.box rfl
theorem PB.c1 (h : PB w B A k c q l ce u) : u.cell? ⟨w.heap.size, 1, none⟩ = some (.bool q) := cell_blk h.box rfl
theorem PB.e (h : PB w B A k c q l ce u) {j : Nat} {v : Value} (hv : ce[j]? = some v) : u.cell? ⟨w.heap.size + 1, j, none⟩ = some v := cell_blk h.ebox hv
end
/-- Where an edit of a text or of an attribute goes. -/
theorem ed_at {l : List Nd} {e : Edt} (he : edErr l e = 0) (hd : e.do_ = 1 ∨ e.do_ = 2 ∨ e.do_ = 3) : ∃ (t : Nat) (x : Nd), e.at_ = (t : Int) ∧ l[t]? = some x ∧ (e.do_ = 2 → ∃ pre a, x.attrs = pre ++ [a]) := by
  have hn : nodeAt l e.at_ ≠ none := fun hnone => by
    rcases hd with h | h | h
    · rw [(ed_1 h).1] at he; unfold attrErr at he; rw [hnone] at he; cases he
    · rw [(ed_2 h).1] at he; unfold dropErr at he; rw [hnone] at he; cases he
    · rw [(ed_3 h).1] at he; unfold textErr at he; rw [hnone] at he; cases he
  cases h : nodeAt l e.at_ with
  | none => exact absurd h hn
  | some x =>
    obtain ⟨m, e1, e2⟩ := nodeAt_some h
    refine ⟨m, x, e1, e2, fun h2 => ?_⟩
    rw [(ed_2 h2).1] at he
    unfold dropErr at he
    rw [h] at he
    dsimp only at he
    by_cases hk : x.kind = 2
    · rw [if_neg (by omega)] at he
      rcases findA_cases x.attrs e.name with ⟨hf, _⟩ | ⟨i, a, _, hi, _⟩
      · rw [if_pos (by omega)] at he; cases he
      · have hne : x.attrs ≠ [] := fun h0 => by rw [h0] at hi; cases hi
        exact ⟨x.attrs.dropLast, x.attrs.getLast hne, (List.dropLast_concat_getLast hne).symm⟩
    · rw [if_pos hk] at he; cases he
theorem al_none {l : List Nd} (G : Good l) : alR l [] = (l, 0, 0) := by
  unfold alR
  have : alErr l [] = 0 := by unfold alErr; rw [if_neg (by rw [check_of G]; simp), if_neg (by simp)]
  rw [if_neg (by rw [this]; simp)]
  rfl
theorem al_one {l l' : List Nd} (G : Good l) {e : Edt} (h : edErr l e = 0) (h2 : edDo l e = l') : alR l [e] = (l', 0, 0) := by
  unfold alR
  have : alErr l [e] = 0 := by unfold alErr; rw [if_neg (by rw [check_of G]; simp), if_neg (by simp)]
  rw [if_neg (by rw [this]; simp)]
  unfold edAll
  rw [if_neg (by rw [h]; simp), h2]
  rfl
theorem path_some {l : List Nd} (T : Tree l) {m : Nat} (hm : m < l.length) : 0 < (pathL l m).length := by
  unfold pathL
  rw [T.chain_step hm]
  simp
/-- What is told of one turned node, run: alike. -/
theorem Turned.ran {l l' : List Nd} {t : Nat} {x x' : Nd} (H : Turned l l' t x x') (ht : t < l.length) :
    (outT l t (ownE t x x') 0).length ≤ 1 ∧ (topR l t = 0 ∨ outT l t (ownE t x x') 0 = []) ∧ ∃ lr, Good lr ∧ lr.length ≤ 200 ∧ alR l (outT l t (ownE t x x') 0) = (lr, 0, 0) ∧ upN lr 0 + (41 - upN lr 0) = 41 ∧ Like lr l' (41 - upN lr 0) 0 0 := by
  have T := tree_of (check_of H.good)
  rcases H.leads with ⟨h, hl⟩ | ⟨e, h, hm, h1, h2⟩
  · rw [h]
    exact ⟨Nat.zero_le _, .inr rfl, l, H.good, H.good.small, al_none H.good, T.go T.pos, hl⟩
  · rw [h]
    have T2 := tree_of (check_of H.good2)
    exact ⟨Nat.le_refl _, .inl ((T.pre_iff ht).1 hm), l', H.good2, H.good2.small, al_one H.good h1 h2, T2.go T2.pos, like_me T2 _ 0 T2.pos (T2.go T2.pos)⟩
set_option maxRecDepth 100000 in
set_option maxHeartbeats 8000000 in
theorem patchOne_walk (A : Option Addr) (n c : Nat) (l : List Nd) (q : Bool) (e : Edt) (Aa : Option Addr) (na ca : Nat) (Ak : Option Addr) (nk ck : Nat) (w : World) (B : Nat) (hl : Sl tNd w (lt B) A n c l) (hB : B ≤ w.heap.size) (he : EdtOk w (lt B) e Aa na ca Ak nk ck) :
    Calls Tryd.prog 3 #[.agg #[.slice A n c, .bool q], .agg (edtCells e Aa na ca Ak nk ck)] w fun e' w' => e' = .returned (.bool true) ∧ Below w.heap.size w w' := by
  obtain ⟨wa, hwa⟩ : ∃ wa, wa = w.alloc (.cells #[.slice A n c, .bool q] 24) := ⟨_, rfl⟩
  obtain ⟨w0, hw0⟩ : ∃ w0, w0 = wa.alloc (.cells (edtCells e Aa na ca Ak nk ck) 30) := ⟨_, rfl⟩
  have za : wa.heap.size = w.heap.size + 1 := by rw [hwa]; exact World.size_alloc w _
  have z0 : w0.heap.size = w.heap.size + 2 := by rw [hw0, World.size_alloc, za]
  have hxa : wa.heap[w.heap.size]? = some (.cells #[.slice A n c, .bool q] 24 (0, 0)) := by rw [hwa]; exact heap_alloc_new w _
  have hbe : w0.heap[w.heap.size + 1]? = some (.cells (edtCells e Aa na ca Ak nk ck) 30 (0, 0)) := by rw [hw0, ← za]; exact heap_alloc_new wa _
  have hbd : w0.heap[w.heap.size]? = some (.cells #[.slice A n c, .bool q] 24 (0, 0)) := by rw [hw0, Lib.alloc_old _ _ _ (by omega)]; exact hxa
  have hb0 : Below w.heap.size w w0 := by rw [hw0, hwa]; exact ((Below.refl _ _).alloc (Nat.le_refl _) _).alloc (by simp) _
  obtain ⟨k, hk, hkc, hkn, hk60⟩ : ∃ k : Nat, min (n : Int) 60 = (k : Int) ∧ k ≤ c ∧ k ≤ n ∧ k ≤ 60 := ⟨min n 60, by omega, by have := hl.hc; omega, by omega, by omega⟩
  have HFW := Lib.hid (few_any A n c k q 60 w0 hk hkc)
  have HL := Lib.hid (hl.cut_to hkn)
  have HE := Lib.hid he
  have HB0 := Lib.hid hb0
  have HZ := Lib.hid z0
  have HBW : Hid (B ≤ w.heap.size) := hB
  have HBD := Lib.hid hbd
  have HBE := Lib.hid hbe
  have HK60 : Hid (k ≤ 60) := hk60
  have HKC : Hid (k ≤ c) := hkc
  have HX := Lib.hid (fun (u : World) (h : u.heap[w.heap.size + 1]? = some (.cells (edtCells e Aa na ca Ak nk ck) 30 (0, 0))) => show ∀ (i : Nat) v, (edtCells e Aa na ca Ak nk ck)[i]? = some v → u.cell? ⟨w.heap.size + 1, i, none⟩ = some v from fun i v hv => cell_blk h hv)
  have d0 := cell_blk (i := 0) hbd rfl
  have d1 := cell_blk (i := 1) hbd rfl
  clear za z0 hxa hbe hbd hb0 hl he hB hk hkn hk60
  go_enter Tryd.func3, Tryd.ntmps3
  unfold edtCells at *
  go_upto_region 1 with fail
  rw [← hwa, ← hw0]
  clear hwa hw0
  go_upto_region 2 with (go_at_call 4; refine HFW.out.mono ?_; rintro e' w1 ⟨rfl, hb1⟩; have v0 := cell_blk (i := 0) ((hb1.block w.heap.size (by rw [HZ.out]; omega)).trans HBD.out) rfl; have v1 := cell_blk (i := 1) ((hb1.block w.heap.size (by rw [HZ.out]; omega)).trans HBD.out) rfl; have y0 := free_blk (i := 0) ((hb1.block w.heap.size (by rw [HZ.out]; omega)).trans HBD.out); have y1 := free_blk (i := 1) ((hb1.block w.heap.size (by rw [HZ.out]; omega)).trans HBD.out))
  obtain ⟨w2, hw2⟩ : ∃ w2, w2 = (w1.setCell ⟨w.heap.size, 0, none⟩ (.slice A k c)).setCell ⟨w.heap.size, 1, none⟩ (.bool q) := ⟨_, rfl⟩
  rw [← hw2]
  have hbb : Below w.heap.size w w2 := by rw [hw2]; exact ((HB0.out.trans (hb1.mono HB0.out.size)).setCell (Nat.le_refl _) _).setCell (Nat.le_refl _) _
  have hs2 : w0.heap.size ≤ w2.heap.size := by rw [hw2]; simp; exact hb1.size
  have H2 : Hid (PB w B A k c q (l.take k) (edtCells e Aa na ca Ak nk ck) w2) := by
    refine ⟨hbb, ?_, ?_, HL.out.below hbb HBW.out, HBW.out⟩
    · rw [hw2]; exact set_blk (set_blk ((hb1.block w.heap.size (by rw [HZ.out]; omega)).trans HBD.out) _) _
    · rw [hw2]; exact (set_other6 (by omega) _).trans ((set_other6 (by omega) _).trans ((hb1.block (w.heap.size + 1) (by rw [HZ.out]; omega)).trans HBE.out))
  have HZ2 : Hid (w.heap.size + 2 ≤ w2.heap.size) := by rw [← HZ.out]; exact hs2
  clear hw2 hbb hs2 y0 y1 v0 v1 hb1 d0 d1 HBD HBE HFW HZ HB0 HL
  generalize l.take k = l at *
  have HAP := Lib.hid (apply_any A k c l q e Aa na ca Ak nk ck w2 B H2.out.doc (Nat.le_trans HBW.out H2.out.below.size) (HE.out.below H2.out.below HBW.out))
  unfold edtCells at HAP
  have ag0 := HX.out w2 H2.out.ebox 0 _ rfl
  have ag1 := HX.out w2 H2.out.ebox 1 _ rfl
  have ag2 := HX.out w2 H2.out.ebox 2 _ rfl
  have ag3 := HX.out w2 H2.out.ebox 3 _ rfl
  have ag4 := HX.out w2 H2.out.ebox 4 _ rfl
  have ag5 := HX.out w2 H2.out.ebox 5 _ rfl
  have ag6 := HX.out w2 H2.out.ebox 6 _ rfl
  have ag7 := HX.out w2 H2.out.ebox 7 _ rfl
  have ag8 := HX.out w2 H2.out.ebox 8 _ rfl
  have ag9 := HX.out w2 H2.out.ebox 9 _ rfl
  have ag10 := HX.out w2 H2.out.ebox 10 _ rfl
  have ag11 := HX.out w2 H2.out.ebox 11 _ rfl
  have ax0 := H2.out.c0
  have ax1 := H2.out.c1
  go_upto_region 3 with (go_at_call 5; refine HAP.out.mono ?_; rintro e' w4 ⟨hb4, ⟨her, rfl⟩ | ⟨her, A4, c4, rfl, hs4⟩⟩)
  · obtain ⟨w5, hw5⟩ : ∃ w5, w5 = w4.alloc (.cells #[.slice none 0 0, .bool false] 24) := ⟨_, rfl⟩
    have HB5 := Lib.hid (show Below w.heap.size w w5 by rw [hw5]; exact (H2.out.below.trans (hb4.mono H2.out.below.size)).alloc (Nat.le_trans H2.out.below.size hb4.size) _)
    have HBG := Lib.hid (patchBegun_any w5)
    have t1 : (apErr l e != 0) = true := by simpa using her
    rw [← hw5]
    clear hw5 hb4 her ag0 ag1 ag2 ag3 ag4 ag5 ag6 ag7 ag8 ag9 ag10 ag11 ax0 ax1 HAP HX
    generalize apErr l e = er at *
    go_wp2_with (go_at_call 6; refine HBG.out.mono ?_; rintro e' w6 ⟨rfl, hb6⟩)
    go_ret
    exact ⟨rfl, HB5.out.trans (hb6.mono HB5.out.size)⟩
  obtain ⟨hck, hed⟩ := apErr_zero6 her
  have HCK := Lib.hid hck
  have HED := Lib.hid hed
  obtain ⟨ld, hld⟩ : ∃ ld, edDo l e = ld := ⟨_, rfl⟩
  obtain ⟨md, hmd⟩ : ∃ md, edMade l 0 e = md := ⟨_, rfl⟩
  have HLD := Lib.hid hld
  rw [hld] at hs4
  rw [hld, hmd]
  obtain ⟨w5, hw5⟩ : ∃ w5, w5 = w4.alloc (.cells #[.slice A4 ld.length c4, .bool q] 24) := ⟨_, rfl⟩
  have hb45 : Below w4.heap.size w4 w5 := by rw [hw5]; exact (Below.refl _ _).alloc (Nat.le_refl _) _
  have hx5 : w5.heap[w4.heap.size]? = some (.cells #[.slice A4 ld.length c4, .bool q] 24 (0, 0)) := by rw [hw5]; exact heap_alloc_new w4 _
  have hb25 := hb4.trans (hb45.mono hb4.size)
  have H5 := Lib.hid (H2.out.next hb25 HZ2.out)
  have HD5 := Lib.hid (((Sl.ltr hs4).below hb45 (Nat.le_refl _)))
  have HX5 := Lib.hid hx5
  have HZ45 : Hid (w4.heap.size < w5.heap.size) := (Array.getElem?_eq_some_iff.1 hx5).1
  have HNL := Lib.hid H5.out.doc.hn
  rw [← hw5]
  clear hw5 hb4 hb45 hx5 hb25 her hck hed hld hmd hs4 ag0 ag1 ag2 ag3 ag4 ag5 ag6 ag7 ag8 ag9 ag10 ag11 ax0 ax1 HAP H2 HZ2 HE
  have bg0 := HX.out w5 H5.out.ebox 0 _ rfl
  have bg1 := HX.out w5 H5.out.ebox 1 _ rfl
  have bx0 := H5.out.c0
  have bx1 := H5.out.c1
  by_cases hbad : e.do_ ≠ 3 ∧ e.do_ ≠ 1 ∧ e.do_ ≠ 2
  · have HBG := Lib.hid (patchBegun_any w5)
    obtain ⟨h3, h1, h2⟩ := hbad
    have t3 : (e.do_ != 3) = true := by simpa using h3
    have t1 : (e.do_ != 1) = true := by simpa using h1
    have t2 : (e.do_ != 2) = true := by simpa using h2
    clear h3 h1 h2
    go_wp2_with (go_at_call 6; refine HBG.out.mono ?_; rintro e' w6 ⟨rfl, hb6⟩)
    go_ret
    exact ⟨rfl, H5.out.below.trans (hb6.mono H5.out.below.size)⟩
  have HDO : Hid (e.do_ = 1 ∨ e.do_ = 2 ∨ e.do_ = 3) := show e.do_ = 1 ∨ e.do_ = 2 ∨ e.do_ = 3 by omega
  clear hbad
  go_cut [40] (fun b wx => b = .bool false ∧ wx = w5)
  case first =>
    rcases HDO.out with h | h | h
    · have t3 : (e.do_ != 3) = true := by simp [h]
      have t1 : (e.do_ != 1) = false := by simp [h]
      clear h
      go_wp2_with fail
      go_meet
      exact ⟨rfl, rfl⟩
    · have t3 : (e.do_ != 3) = true := by simp [h]
      have t1 : (e.do_ != 1) = true := by simp [h]
      have t2 : (e.do_ != 2) = false := by simp [h]
      clear h
      go_wp2_with fail
      go_meet
      exact ⟨rfl, rfl⟩
    · have t3 : (e.do_ != 3) = false := by simp [h]
      clear h
      go_wp2_with fail
      go_meet
      exact ⟨rfl, rfl⟩
  case rest =>
    obtain ⟨rfl, hwx⟩ := hcut
    rw [hwx]
    clear hwx
    obtain ⟨t, x, hat, hx, hd2⟩ := ed_at HED.out HDO.out
    have ht : t < l.length := (List.getElem?_eq_some_iff.1 hx).1
    obtain ⟨b1, o1, rfl, hD1⟩ := doc_at H5.out.doc (by have := HNL.out; omega)
    obtain ⟨Aa2, na2, ca2, Ak2, nk2, ck2, hnd, p0, p1, p2, p3, p4, p5⟩ := hD1.at_ t x hx
    rw [hat] at bg1
    have hna := hnd.attrs.hn
    have i1 : (0 : Int) ≤ (t : Int) := by omega
    have i2 : (t : Int) < (k : Int) := by have := HNL.out; omega
    have HAT := Lib.hid hat
    have HXT := Lib.hid hx
    have HD2 := Lib.hid hd2
    have HAS := Lib.hid hnd.attrs
    have HTL : Hid (t < l.length) := ht
    clear hat hx hd2 hnd p0 p1 p3 p4 p5 hD1 ht
    have hge : decide ((k : Int) ≤ (t : Int)) = false := decide_eq_false (by omega)
    have hlt0 : decide ((t : Int) < 0) = false := decide_eq_false (by omega)
    have HNA := Lib.hid hna
    clear hna
    go_upto_region 5 with fail
    go_cut [68] (fun b wx => b = .bool false ∧ wx = w5)
    case first =>
      by_cases h2 : e.do_ = 2
      · have t2 : (e.do_ == 2) = true := by simp [h2]
        obtain ⟨pre, a, ha⟩ := HD2.out h2
        have t9 : ((na2 : Int) == 0) = false := by
          have := HNA.out
          rw [ha, List.length_append, List.length_singleton] at this
          exact beq_eq_false_iff_ne.2 (by omega)
        clear h2 ha
        go_wp2_with fail
        go_meet
        exact ⟨congrArg Value.bool (decide_eq_false (by omega)), rfl⟩
      · have t2 : (e.do_ == 2) = false := by simp [h2]
        clear h2
        go_wp2_with fail
        go_meet
        exact ⟨congrArg Value.bool (decide_eq_false (by omega)), rfl⟩
    case rest =>
      obtain ⟨rfl, hwx⟩ := hcut
      rw [hwx]
      clear hwx
      go_upto_region 8 with fail
      clear p2 bg1 bx0 bx1
      have bg4 := HX.out w5 H5.out.ebox 4 _ rfl
      by_cases hbad : e.do_ = 2 ∧ ∃ pre a, x.attrs = pre ++ [a] ∧ a.1 ≠ e.name
      · obtain ⟨h2, pre, a, ha, hne⟩ := hbad
        have t2 : (e.do_ == 2) = true := by simp [h2]
        obtain ⟨M, hM⟩ : ∃ M, na2 = M + 1 := ⟨pre.length, by rw [HNA.out, ha]; simp⟩
        subst hM
        have hMl : M = pre.length := by have := HNA.out; rw [ha] at this; simp at this; exact this
        have hai : x.attrs[M]? = some a := by rw [ha, hMl]; simp
        obtain ⟨g, o, rfl, _, s0, _, _, _⟩ := da_get HAS.out hai
        have hsm := HAS.out.small
        have hw1 : IntKind.i64.wrap (((M + 1 : Nat) : Int) - 1) = (M : Int) := by rw [IntWalk.i64_in _ (by omega)]; omega
        have hw2 : IntKind.i64.wrap ((M : Int) + 1 - 1) = (M : Int) := by rw [IntWalk.i64_in _ (by omega)]; omega
        have hw3 : IntKind.i64.wrap (M : Int) = (M : Int) := IntWalk.i64_in _ (by omega)
        have i5 : (0 : Int) ≤ (M : Int) := by omega
        have i7 : (M : Int) < (M : Int) + 1 := by omega
        have i6 : (M : Int) < ((M + 1 : Nat) : Int) := by omega
        clear h2 ha hMl hai hsm
        have e2 : (a.1.toList != e.name.toList) = true := bne_iff_ne.2 fun h => hne (ba_eq h)
        have e3 : (a.1.toList == e.name.toList) = false := beq_eq_false_iff_ne.2 fun h => hne (ba_eq h)
        have e4 : ¬ a.1.toList = e.name.toList := fun h => hne (ba_eq h)
        go_quiet (fail)
        generalize hwz : w5.drewN _ = wz
        have HBZ : Hid (Below w5.heap.size w5 wz) := by rw [← hwz]; exact below_dN (Below.refl _ _) _
        have HBG := Lib.hid (patchBegun_any wz)
        clear hwz
        go_wp2_with (go_at_call 6; refine HBG.out.mono ?_; rintro e' w6 ⟨rfl, hb6⟩)
        go_ret
        exact ⟨rfl, (H5.out.below.trans (HBZ.out.mono H5.out.below.size)).trans (hb6.mono (H5.out.below.trans (HBZ.out.mono H5.out.below.size)).size)⟩
      have HLA : Hid (e.do_ = 2 → ∀ (t : Nat) x, e.at_ = (t : Int) → l[t]? = some x → ∃ pre a, x.attrs = pre ++ [a] ∧ a.1 = e.name) := fun h2 t' x' ht' hx' => by
        have : t' = t := by have := HAT.out; omega
        subst this
        obtain rfl : x' = x := Option.some.inj (hx'.symm.trans HXT.out)
        obtain ⟨pre, a, ha⟩ := HD2.out h2
        exact ⟨pre, a, ha, Classical.byContradiction fun hne => hbad ⟨h2, pre, a, ha, hne⟩⟩
      clear hbad
      go_cut [90] (fun b wx => b = .bool false ∧ Below w5.heap.size w5 wx)
      case first =>
        by_cases h2 : e.do_ = 2
        · obtain ⟨pre, a, ha, hnm⟩ := HLA.out h2 t x HAT.out HXT.out
          have t2 : (e.do_ == 2) = true := by simp [h2]
          obtain ⟨M, hM⟩ : ∃ M, na2 = M + 1 := ⟨pre.length, by rw [HNA.out, ha]; simp⟩
          subst hM
          have hMl : M = pre.length := by have := HNA.out; rw [ha] at this; simp at this; exact this
          have hai : x.attrs[M]? = some a := by rw [ha, hMl]; simp
          obtain ⟨g, o, rfl, _, s0, _, _, _⟩ := da_get HAS.out hai
          have hsm := HAS.out.small
          have hw1 : IntKind.i64.wrap (((M + 1 : Nat) : Int) - 1) = (M : Int) := by rw [IntWalk.i64_in _ (by omega)]; omega
          have hw2 : IntKind.i64.wrap ((M : Int) + 1 - 1) = (M : Int) := by rw [IntWalk.i64_in _ (by omega)]; omega
          have hw3 : IntKind.i64.wrap (M : Int) = (M : Int) := IntWalk.i64_in _ (by omega)
          have i5 : (0 : Int) ≤ (M : Int) := by omega
          have i7 : (M : Int) < (M : Int) + 1 := by omega
          have i6 : (M : Int) < ((M + 1 : Nat) : Int) := by omega
          clear h2 ha hMl hai hsm
          rw [hnm] at s0
          clear hnm
          go_quiet (fail)
          generalize hwz : w5.drewN _ = wz
          have hbz : Below w5.heap.size w5 wz := by rw [← hwz]; exact below_dN (Below.refl _ _) _
          clear hwz
          go_wp2_with fail
          go_meet
          exact ⟨rfl, hbz⟩
        · have t2 : (e.do_ == 2) = false := by simp [h2]
          clear h2
          go_quiet (fail)
          generalize hwz : w5.drewN _ = wz
          have hbz : Below w5.heap.size w5 wz := by rw [← hwz]; exact below_dN (Below.refl _ _) _
          clear hwz
          go_wp2_with fail
          go_meet
          exact ⟨rfl, hbz⟩
      case rest =>
        obtain ⟨rfl, hb6⟩ := hcut
        obtain ⟨t', x1, x2, hat2, _, HT0⟩ := turned_ed (good_of HCK.out) HED.out HDO.out HLA.out
        have e0 : t' = t := by have := HAT.out; omega
        subst e0
        rw [HLD.out] at HT0
        have HT := Lib.hid HT0
        clear HT0 hat2
        obtain ⟨hfew, htop, lr, hG, hsmall, hal, hgo, hlike⟩ := HT.out.ran HTL.out
        obtain ⟨ds, hds⟩ : ∃ ds, outT l t' (ownE t' x1 x2) 0 = ds := ⟨_, rfl⟩
        have HDS := Lib.hid hds
        rw [hds] at hfew htop hal
        have H6 := Lib.hid (H5.out.next hb6 (Nat.le_trans H5.out.size (Nat.le_refl _)))
        have HX6 := Lib.hid ((hb6.block _ HZ45.out).trans HX5.out)
        have HD6 := Lib.hid (HD5.out.below hb6 (Nat.le_of_lt HZ45.out))
        have HZ46 : Hid (w4.heap.size < wc.heap.size) := (Array.getElem?_eq_some_iff.1 HX6.out).1
        have hask : askS l (t' : Int) = 0 := by
          unfold askS
          rw [if_neg (by rw [HCK.out]; simp), if_neg (by have := HTL.out; omega)]
        have HAL := Lib.hid hal
        have HTP := Lib.hid htop
        have HGO := Lib.hid hgo
        have HLK := Lib.hid hlike
        have HG := Lib.hid hG
        have HFE : Hid (ds.length ≤ 1) := hfew
        have HASK := Lib.hid hask
        clear hb6 hask hal htop hgo hlike hG hfew hds hsmall HX5 HD5 HZ45
        have HPA := Lib.hid ((domPath_any (some ⟨b1, o1, none⟩) k c l q (t' : Int) wc B H6.out.doc (Nat.le_trans HBW.out H6.out.below.size)).mono (R' := fun e w' => Below wc.heap.size wc w' ∧ ∃ v er m, e = .returned (.tuple #[v, .int .i64 er]) ∧ (∃ P c9, v = .slice P m c9) ∧ ((er = 0 ∧ 0 < m) ∨ (er = 5 ∧ ds.length = 0))) fun e w' h => by
          obtain ⟨hb, h⟩ := h
          refine ⟨hb, ?_⟩
          rcases h with ⟨h1, _⟩ | ⟨_, h1, h2⟩ | ⟨_, h1, v, h2, h3⟩
          · exact absurd HASK.out h1
          · refine ⟨_, _, _, h2, ⟨none, 0, rfl⟩, .inr ⟨rfl, ?_⟩⟩
            rw [HTP.out.resolve_left h1]; rfl
          · obtain ⟨P, c9, e9⟩ := Own.form h3
            exact ⟨v, 0, _, h2, ⟨P, c9, e9⟩, .inl ⟨rfl, path_some (tree_of HCK.out) HTL.out⟩⟩)
        have ax0 := H6.out.c0
        have ax1 := H6.out.c1
        have ag1 := HX.out wc H6.out.ebox 1 _ rfl
        rw [HAT.out] at ag1
        go_upto_region 11 with (go_at_call 7; refine HPA.out.mono ?_; rintro e' w7 ⟨hb7, v9, er, m9, rfl, ⟨P, c9, rfl⟩, her⟩)
        have H7 := Lib.hid (H6.out.next hb7 (Nat.le_trans H6.out.size (Nat.le_refl _)))
        have HX7 := Lib.hid ((hb7.block _ HZ46.out).trans HX6.out)
        have HD7 := Lib.hid (HD6.out.below hb7 (Nat.le_of_lt HZ46.out))
        have HZ47 : Hid (w4.heap.size < w7.heap.size) := (Array.getElem?_eq_some_iff.1 HX7.out).1
        have HER := Lib.hid her
        clear hb7 her ax0 ax1 ag1 HPA HX6 HD6 HZ46 H6 HASK HTP
        have HLEN : Hid (ld.length = l.length) := HT.out.len
        have HDF := Lib.hid (diff_any (some ⟨b1, o1, none⟩) k c l q A4 ld.length c4 ld q ds w7 w7.heap.size (H7.out.doc.up (Nat.le_trans HBW.out H7.out.below.size)) (HD7.out.up (Nat.le_of_lt HZ47.out)) (Nat.le_refl _) HT.out.good HT.out.good2 (by have := HNL.out; have := HK60.out; omega) (by have := HNL.out; have := HK60.out; have := HLEN.out; omega) (by have := HFE.out; omega) (by
          obtain ⟨b2, o2, e2, hD2⟩ := doc_at (HD7.out.up (Nat.le_of_lt HZ47.out)) (by have := HLEN.out; have := HTL.out; omega)
          obtain ⟨b3, o3, e3, hD3⟩ := doc_at (H7.out.doc.up (Nat.le_trans HBW.out H7.out.below.size)) (by have := HNL.out; have := HTL.out; omega)
          injection e3 with e3
          injection e3 with e3 e4 _
          subst e3 e4 e2
          intro W base E v hbs hbW hdf
          have h := dnode_turned HT.out base E b1 o1 k c b2 o2 ld.length c4 q q (k : Int) HKC.out HD7.out.hc (by have := HK60.out; omega) (by have := HNL.out; have := HK60.out; have := HLEN.out; omega) w7.heap.size hbs (41 - upN l 0) 0 W v [] (by have := HTL.out; omega) ((tree_of HCK.out).go (tree_of HCK.out).pos) (hD3.below hbW (Nat.le_refl _)) (hD2.below hbW (Nat.le_refl _)) hdf (by simp; omega)
          rw [show outT l t' (ownE t' x1 x2) ((0 : Nat) : Int) = ds from HDS.out] at h
          exact h.mono fun e' W' hh => ⟨hh.1, _, hh.2⟩))
        have cx0 := H7.out.c0
        have cx1 := H7.out.c1
        have cy0 := cell_blk (i := 0) (v := .slice A4 ld.length c4) HX7.out rfl
        have cy1 := cell_blk (i := 1) (v := .bool q) HX7.out rfl
        go_upto_region 12 with (go_at_call 8; refine HDF.out.mono ?_; rintro e' w8 ⟨hb8, A8, c8, rfl, hs8⟩)
        have H8 := Lib.hid (H7.out.next hb8 (Nat.le_trans H7.out.size (Nat.le_refl _)))
        have HX8 := Lib.hid ((hb8.block _ HZ47.out).trans HX7.out)
        have HD8 := Lib.hid (HD7.out.below hb8 (Nat.le_of_lt HZ47.out))
        have HZ48 : Hid (w4.heap.size < w8.heap.size) := (Array.getElem?_eq_some_iff.1 HX8.out).1
        have HS8 := Lib.hid (Sl.ltr hs8)
        clear hb8 hs8 cx0 cx1 cy0 cy1 HDF HX7 HD7 HZ47 H7
        have HRU := Lib.hid (run_any (some ⟨b1, o1, none⟩) k c l q A8 ds.length c8 ds lr w8 w8.heap.size (H8.out.doc.up (Nat.le_trans HBW.out H8.out.below.size)) HS8.out (Nat.le_refl _) HT.out.good (by have := HFE.out; omega) HAL.out)
        have dx0 := H8.out.c0
        have dx1 := H8.out.c1
        obtain ⟨dn, hdn⟩ : ∃ dn, ds.length = dn := ⟨_, rfl⟩
        have HDN : Hid (dn ≤ 1 ∧ (dn = 0 ∨ dn = 1)) := by have := HFE.out; exact ⟨by omega, by omega⟩
        rw [hdn] at HRU HER ⊢
        clear hdn
        go_upto_region 14 with fail
        go_upto_region 15 with (go_at_call 9; refine HRU.out.mono ?_; rintro e' wr ⟨hbr, A10, c10, rfl, hs10⟩)
        obtain ⟨wb, hwb⟩ : ∃ wb, wb = wr.alloc (.cells #[.slice A10 lr.length c10, .bool q] 24) := ⟨_, rfl⟩
        have hbb : Below wr.heap.size wr wb := by rw [hwb]; exact (Below.refl _ _).alloc (Nat.le_refl _) _
        have hy : wb.heap[wr.heap.size]? = some (.cells #[.slice A10 lr.length c10, .bool q] 24 (0, 0)) := by rw [hwb]; exact heap_alloc_new wr _
        have hb8b := hbr.trans (hbb.mono hbr.size)
        have HB9 := Lib.hid (H8.out.below.trans (hb8b.mono H8.out.below.size))
        have HX9 := Lib.hid ((hb8b.block _ HZ48.out).trans HX8.out)
        have HD9 := Lib.hid ((HD8.out.below hb8b (Nat.le_of_lt HZ48.out)).up (Nat.le_trans (Nat.le_of_lt HZ48.out) hb8b.size))
        have HR9 := Lib.hid ((Sl.ltr hs10).below hbb (Nat.le_refl _) |>.up hbb.size)
        have HY9 := Lib.hid hy
        have HBG := Lib.hid (patchBegun_any wb)
        rw [← hwb]
        clear hwb hbr hbb hy hb8b hs10 dx0 dx1 HRU HX8 HD8 HZ48 HS8 H8
        have HSA := Lib.hid (fun (W : World) (hW : Below wb.heap.size wb W) => (same_any A10 lr.length c10 lr A4 ld.length c4 ld q q W wb.heap.size (HR9.out.below hW (Nat.le_refl _)) (HD9.out.below hW (Nat.le_refl _)) hW.size (check_of HG.out) (check_of HT.out.good2) (41 - upN lr 0) HGO.out).mono (R' := fun e w' => e = .returned (.bool true) ∧ Below W.heap.size W w') fun e w' h => by
          obtain ⟨⟨r, rfl, hr⟩, hb⟩ := h
          rw [hr.2 ⟨rfl, HLK.out⟩]
          exact ⟨rfl, hb⟩)
        have hle1 : decide ((dn : Int) ≤ 1) = true := decide_eq_true (by have := HDN.out; omega)
        have hle2 : (dn : Int) ≤ 1 := by have := HDN.out; omega
        rcases HER.out with ⟨e1, e2⟩ | ⟨e1, e2⟩
        · subst e1
          have hgt1 : decide ((0 : Int) < (m9 : Int)) = true := decide_eq_true (by omega)
          have hgt2 : (0 : Int) < (m9 : Int) := by omega
          go_wp2_with (first | (go_at_call 6; refine HBG.out.mono ?_; rintro e' wd ⟨rfl, hbd⟩; have gy0 := cell_be (cell_blk (i := 0) (v := .slice A10 lr.length c10) HY9.out rfl) hbd; have gy1 := cell_be (cell_blk (i := 1) (v := .bool q) HY9.out rfl) hbd; have gx0 := cell_be (cell_blk (i := 0) (v := .slice A4 ld.length c4) HX9.out rfl) hbd; have gx1 := cell_be (cell_blk (i := 1) (v := .bool q) HX9.out rfl) hbd; have HBD := Lib.hid hbd; have HSD := Lib.hid (HSA.out wd hbd); clear hbd HBG HSA) | (go_at_call 10; refine HSD.out.mono ?_; rintro e' wf ⟨rfl, hbf⟩))
          go_ret
          exact ⟨rfl, (HB9.out.trans (HBD.out.mono HB9.out.size)).trans (hbf.mono (HB9.out.trans (HBD.out.mono HB9.out.size)).size)⟩
        · subst e1
          have hd0 : dn = 0 := e2
          clear e2
          subst hd0
          go_wp2_with (first | (go_at_call 6; refine HBG.out.mono ?_; rintro e' wd ⟨rfl, hbd⟩; have gy0 := cell_be (cell_blk (i := 0) (v := .slice A10 lr.length c10) HY9.out rfl) hbd; have gy1 := cell_be (cell_blk (i := 1) (v := .bool q) HY9.out rfl) hbd; have gx0 := cell_be (cell_blk (i := 0) (v := .slice A4 ld.length c4) HX9.out rfl) hbd; have gx1 := cell_be (cell_blk (i := 1) (v := .bool q) HX9.out rfl) hbd; have HBD := Lib.hid hbd; have HSD := Lib.hid (HSA.out wd hbd); clear hbd HBG HSA) | (go_at_call 10; refine HSD.out.mono ?_; rintro e' wf ⟨rfl, hbf⟩))
          go_ret
          exact ⟨rfl, (HB9.out.trans (HBD.out.mono HB9.out.size)).trans (hbf.mono (HB9.out.trans (HBD.out.mono HB9.out.size)).size)⟩
end Go.Proofs.YtomleengbnfikaaDoor
