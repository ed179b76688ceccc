/-
The law SpanOrder, walked.
-/
import Derived.Test.YtcnogokemilhnaaDoorSpanBegun
namespace Go.Proofs.YtcnogokemilhnaaDoor
open Go.RowKit Go.Cl
attribute [local go_sem ↓] Go.wp_at_zero Go.wp_at_succ

/-- The boxes of SpanOrder's four parameters. -/
structure SO (w : World) (A : Option Addr) (k c : Nat) (q : Bool) (a b d : Pt) (u : World) : Prop where
  below : Below w.heap.size w u
  doc : u.heap[w.heap.size]? = some (.cells #[.slice A k c, .bool q] 24 (0, 0))
  a_ : u.heap[w.heap.size + 1]? = some (.cells #[.int .i64 a.node, .int .i64 a.at_] 57 (0, 0))
  b_ : u.heap[w.heap.size + 1 + 1]? = some (.cells #[.int .i64 b.node, .int .i64 b.at_] 57 (0, 0))
  d_ : u.heap[w.heap.size + 1 + 1 + 1]? = some (.cells #[.int .i64 d.node, .int .i64 d.at_] 57 (0, 0))
theorem SO.next {w : World} {A : Option Addr} {k c : Nat} {q : Bool} {a b d : Pt} {u u' : World} (h : SO w A k c q a b d u) (hb : Below u.heap.size u u') : SO w A k c q a b d u' :=
  ⟨h.below.trans (hb.mono h.below.size), (hb.block _ (Array.getElem?_eq_some_iff.1 h.doc).1).trans h.doc, (hb.block _ (Array.getElem?_eq_some_iff.1 h.a_).1).trans h.a_, (hb.block _ (Array.getElem?_eq_some_iff.1 h.b_).1).trans h.b_, (hb.block _ (Array.getElem?_eq_some_iff.1 h.d_).1).trans h.d_⟩
theorem sl_far3 {α : Type} {T : Ty α} {w : World} {D : Nat → Prop} {O : Nat} {A : Option Addr} {n c : Nat} {xs : List α} (h : Sl T w D A n c xs) (hO : ¬ D O) (i : Nat) (v : Value) : Sl T (w.setCell ⟨O, i, none⟩ v) D A n c xs :=
  h.keep fun p hp => World.cell?_setCell_other w _ p v (fun e => hO (by rw [← e] at hp; exact hp))
set_option maxRecDepth 100000 in
set_option maxHeartbeats 8000000 in
theorem spanOrder_walk (A : Option Addr) (n c : Nat) (l : List Nd) (q : Bool) (a b d : Pt) (w : World) (B : Nat) (hl : Sl tNd w (lt B) A n c l) (hB : B ≤ w.heap.size) (ha1 : (Lit.int .i64 a.node).wf = true) (ha2 : (Lit.int .i64 a.at_).wf = true) (hb1 : (Lit.int .i64 b.node).wf = true) (hb2 : (Lit.int .i64 b.at_).wf = true) (hd1 : (Lit.int .i64 d.node).wf = true) (hd2 : (Lit.int .i64 d.at_).wf = true) :
    Calls Tryd.prog 5 #[.agg #[.slice A n c, .bool q], .agg #[.int .i64 a.node, .int .i64 a.at_], .agg #[.int .i64 b.node, .int .i64 b.at_], .agg #[.int .i64 d.node, .int .i64 d.at_]] w fun e w' => e = .returned (.bool true) ∧ Below w.heap.size w w' := by
  obtain ⟨wa, hwa⟩ : ∃ wa, wa = w.alloc (.cells #[.slice A n c, .bool q] 24) := ⟨_, rfl⟩
  obtain ⟨wb, hwb⟩ : ∃ wb, wb = wa.alloc (.cells #[.int .i64 a.node, .int .i64 a.at_] 57) := ⟨_, rfl⟩
  obtain ⟨wd, hwd⟩ : ∃ wd, wd = wb.alloc (.cells #[.int .i64 b.node, .int .i64 b.at_] 57) := ⟨_, rfl⟩
  obtain ⟨w0, hw0⟩ : ∃ w0, w0 = wd.alloc (.cells #[.int .i64 d.node, .int .i64 d.at_] 57) := ⟨_, rfl⟩
  have za : wa.heap.size = w.heap.size + 1 := by rw [hwa]; exact World.size_alloc w _
  have zb : wb.heap.size = w.heap.size + 1 + 1 := by rw [hwb, World.size_alloc, za]
  have zd : wd.heap.size = w.heap.size + 1 + 1 + 1 := by rw [hwd, World.size_alloc, zb]
  have H0 : SO w A n c q a b d w0 := by
    refine ⟨?_, ?_, ?_, ?_, ?_⟩
    · rw [hw0, hwd, hwb, hwa]; exact ((((Below.refl _ _).alloc (Nat.le_refl _) _).alloc (by simp) _).alloc (by simp; omega) _).alloc (by simp; omega) _
    · rw [hw0, Lib.alloc_old _ _ _ (by omega), hwd, Lib.alloc_old _ _ _ (by omega), hwb, Lib.alloc_old _ _ _ (by omega), hwa]; exact heap_alloc_new w _
    · rw [hw0, Lib.alloc_old _ _ _ (by omega), hwd, Lib.alloc_old _ _ _ (by omega), hwb, ← za]; exact heap_alloc_new wa _
    · rw [hw0, Lib.alloc_old _ _ _ (by omega), hwd, ← zb]; exact heap_alloc_new wb _
    · rw [hw0, ← zd]; exact heap_alloc_new wd _
  obtain ⟨k, hk, hkn, _, _⟩ := min_nat n 25 (by decide)
  have HBR := Lib.hid (brief_any A n c k l q w0 B (hl.below H0.below hB) (Nat.le_trans hB H0.below.size) hk)
  have HH0 := Lib.hid H0
  have d0 := cell_blk (i := 0) H0.doc rfl
  have d1 := cell_blk (i := 1) H0.doc rfl
  have hz : w.heap.size + 1 + 1 + 1 < w0.heap.size := (Array.getElem?_eq_some_iff.1 H0.d_).1
  have HZ := Lib.hid hz
  have HW1 := Lib.hid ha1
  have HW2 := Lib.hid ha2
  have HW3 := Lib.hid hb1
  have HW4 := Lib.hid hb2
  have HW5 := Lib.hid hd1
  have HW6 := Lib.hid hd2
  have HBL := Lib.hid hB
  have HZ2 := Lib.hid H0.below.size
  clear za zb zd H0 hl hB ha1 ha2 hb1 hb2 hd1 hd2 hk hz
  go_enter Tryd.func5, Tryd.ntmps5
  go_upto_region 1 with fail
  rw [← hwa, ← hwb, ← hwd, ← hw0]
  clear hwa hwb hwd hw0
  go_upto_region 2 with (go_at_call 25; refine HBR.out.mono ?_; rintro e' w1 ⟨A', c', rfl, hbr, hsr⟩; have H1 := Lib.hid (HH0.out.next hbr); have g0 := free_blk (i := 0) H1.out.doc; have g1 := free_blk (i := 1) H1.out.doc; have k0 := cell_blk (i := 0) H1.out.doc rfl; have k1 := cell_blk (i := 1) H1.out.doc rfl)
  obtain ⟨w2, hw2⟩ : ∃ w2, w2 = (w1.setCell ⟨w.heap.size, 0, none⟩ (.slice A' k c')).setCell ⟨w.heap.size, 1, none⟩ (.bool q) := ⟨_, rfl⟩
  rw [← hw2]
  have hno : ¬ (fun b => lt B b ∨ (w0.heap.size ≤ b ∧ b < w1.heap.size)) w.heap.size := fun h => by
    rcases h with h | h
    · have h3 : w.heap.size < B := h
      have := HBL.out
      omega
    · have := HZ.out
      omega
  have hz2 : w2.heap.size = w1.heap.size := by rw [hw2]; simp only [World.size_setCell]
  have HS2 : Hid (Sl tNd w2 (lt w2.heap.size) A' k c' ((l.take k).map cutNd)) := by
    have h := sl_far3 (sl_far3 hsr hno 0 (.slice A' k c')) hno 1 (.bool q)
    rw [← hw2] at h
    refine h.more fun b hb => ?_
    show b < w2.heap.size
    rw [hz2]
    rcases hb with hb | hb
    · have h3 : b < B := hb
      have := HBL.out
      have := HZ2.out
      have := hbr.size
      omega
    · exact hb.2
  have ne1 : w.heap.size + 1 ≠ w.heap.size := by omega
  have ne2 : w.heap.size + 1 + 1 ≠ w.heap.size := by omega
  have ne3 : w.heap.size + 1 + 1 + 1 ≠ w.heap.size := by omega
  have H2 : Hid (SO w A' k c' q a b d w2) := by
    show SO w A' k c' q a b d w2
    rw [hw2]
    exact ⟨(H1.out.below.setCell (p := ⟨w.heap.size, 0, none⟩) (Nat.le_refl _) _).setCell (p := ⟨w.heap.size, 1, none⟩) (Nat.le_refl _) _, set_blk (i := 1) (set_blk (i := 0) H1.out.doc _) _, (Below.heap_setCell _ _ _ _ ne1).trans ((Below.heap_setCell _ _ _ _ ne1).trans H1.out.a_), (Below.heap_setCell _ _ _ _ ne2).trans ((Below.heap_setCell _ _ _ _ ne2).trans H1.out.b_), (Below.heap_setCell _ _ _ _ ne3).trans ((Below.heap_setCell _ _ _ _ ne3).trans H1.out.d_)⟩
  have HL1 := Lib.hid (fun (W : World) (hb : Below w2.heap.size w2 W) => less_any A' k c' _ q a b W _ (HS2.out.below hb (Nat.le_refl _)) hb.size HW1.out HW2.out HW3.out HW4.out)
  have HL2 := Lib.hid (fun (W : World) (hb : Below w2.heap.size w2 W) => less_any A' k c' _ q b a W _ (HS2.out.below hb (Nat.le_refl _)) hb.size HW3.out HW4.out HW1.out HW2.out)
  have HL3 := Lib.hid (fun (W : World) (hb : Below w2.heap.size w2 W) => less_any A' k c' _ q b d W _ (HS2.out.below hb (Nat.le_refl _)) hb.size HW3.out HW4.out HW5.out HW6.out)
  have HL4 := Lib.hid (fun (W : World) (hb : Below w2.heap.size w2 W) => less_any A' k c' _ q a d W _ (HS2.out.below hb (Nat.le_refl _)) hb.size HW1.out HW2.out HW5.out HW6.out)
  have law := span_order_law ((l.take k).map cutNd) a b d
  have HBG := Lib.hid (fun W => spanBegun_any W)
  clear hw2 hno hz2 ne1 ne2 ne3 HS2 hsr hbr H1 g0 g1 k0 k1 d0 d1 HBR HH0 HZ HW1 HW2 HW3 HW4 HW5 HW6 HBL HZ2
  generalize (l.take k).map cutNd = l' at *
  generalize lessS l' a b = R1 at *
  generalize lessS l' b a = R2 at *
  generalize lessS l' b d = R3 at *
  generalize lessS l' a d = R4 at *
  obtain ⟨x, e⟩ := R1
  obtain ⟨y, f⟩ := R2
  obtain ⟨z, g⟩ := R3
  obtain ⟨v, h⟩ := R4
  simp only at law HL1 HL2 HL3 HL4
  have x0 := cell_blk (i := 0) H2.out.doc rfl
  have x1 := cell_blk (i := 1) H2.out.doc rfl
  have a0 := cell_blk (i := 0) H2.out.a_ rfl
  have a1 := cell_blk (i := 1) H2.out.a_ rfl
  have b0 := cell_blk (i := 0) H2.out.b_ rfl
  have b1 := cell_blk (i := 1) H2.out.b_ rfl
  go_upto_region 3 with (go_at_call 26; refine (HL1.out w2 (Below.refl _ _)).mono ?_; rintro e' w3 ⟨rfl, hb3⟩)
  have H3 := Lib.hid (H2.out.next hb3)
  have HB3 := Lib.hid hb3
  clear x0 x1 a0 a1 b0 b1 hb3
  have x0 := cell_blk (i := 0) H3.out.doc rfl
  have x1 := cell_blk (i := 1) H3.out.doc rfl
  have a0 := cell_blk (i := 0) H3.out.a_ rfl
  have a1 := cell_blk (i := 1) H3.out.a_ rfl
  have b0 := cell_blk (i := 0) H3.out.b_ rfl
  have b1 := cell_blk (i := 1) H3.out.b_ rfl
  go_upto_region 4 with (go_at_call 26; refine (HL2.out w3 HB3.out).mono ?_; rintro e' w4 ⟨rfl, hb4⟩)
  have H4 := Lib.hid (H3.out.next hb4)
  have HB4 := Lib.hid (HB3.out.trans (hb4.mono HB3.out.size))
  clear x0 x1 a0 a1 b0 b1 hb4 HL1 HL2
  rcases law with ⟨hor, rfl, rfl⟩ | ⟨rfl, rfl, hxy, hnb, h3⟩
  · by_cases he : e = 0
    · subst he
      have hf : (f != 0) = true := by simpa using hor
      clear hor
      go_wp2_with (go_at_call 27; refine (HBG.out w4).mono ?_; rintro e' w5 ⟨rfl, hb5⟩)
      go_ret
      exact ⟨rfl, (H4.out.next hb5).below⟩
    · have hf : (e != 0) = true := by simpa using he
      clear hor he
      go_wp2_with (go_at_call 27; refine (HBG.out w4).mono ?_; rintro e' w5 ⟨rfl, hb5⟩)
      go_ret
      exact ⟨rfl, (H4.out.next hb5).below⟩
  · have hfin := True.intro
    clear hfin
    have a0 := cell_blk (i := 0) H4.out.a_ rfl
    have a1 := cell_blk (i := 1) H4.out.a_ rfl
    have b0 := cell_blk (i := 0) H4.out.b_ rfl
    have b1 := cell_blk (i := 1) H4.out.b_ rfl
    cases x <;> cases y
    · have hh : a.node = b.node ∧ a.at_ = b.at_ := by simpa using hxy
      have hn1 : (a.node == b.node) = true := by simpa using hh.1
      have ha1 : (a.at_ == b.at_) = true := by simpa using hh.2
      clear hh hxy hnb
      go_upto_region 8 with fail
      clear a0 a1 b0 b1
      have x0 := cell_blk (i := 0) H4.out.doc rfl
      have x1 := cell_blk (i := 1) H4.out.doc rfl
      have a0 := cell_blk (i := 0) H4.out.a_ rfl
      have a1 := cell_blk (i := 1) H4.out.a_ rfl
      have b0 := cell_blk (i := 0) H4.out.b_ rfl
      have b1 := cell_blk (i := 1) H4.out.b_ rfl
      have c0 := cell_blk (i := 0) H4.out.d_ rfl
      have c1 := cell_blk (i := 1) H4.out.d_ rfl
      go_upto_region 9 with (go_at_call 26; refine (HL3.out w4 HB4.out).mono ?_; rintro e' w5 ⟨rfl, hb5⟩)
      have H5 := Lib.hid (H4.out.next hb5)
      have HB5 := Lib.hid (HB4.out.trans (hb5.mono HB4.out.size))
      clear x0 x1 a0 a1 b0 b1 c0 c1 hb5
      have x0 := cell_blk (i := 0) H5.out.doc rfl
      have x1 := cell_blk (i := 1) H5.out.doc rfl
      have a0 := cell_blk (i := 0) H5.out.a_ rfl
      have a1 := cell_blk (i := 1) H5.out.a_ rfl
      have c0 := cell_blk (i := 0) H5.out.d_ rfl
      have c1 := cell_blk (i := 1) H5.out.d_ rfl
      go_upto_region 10 with (go_at_call 26; refine (HL4.out w5 HB5.out).mono ?_; rintro e' w6 ⟨rfl, hb6⟩)
      have H6 := Lib.hid (H5.out.next hb6)
      clear x0 x1 a0 a1 c0 c1 hb6
      rcases h3 with hg | ⟨rfl, rfl, _⟩
      · have hg1 : (g != 0) = true := by simpa using hg
        clear hg
        go_wp2_with (go_at_call 27; refine (HBG.out w6).mono ?_; rintro e' w7 ⟨rfl, hb7⟩)
        go_ret
        exact ⟨rfl, (H6.out.next hb7).below⟩
      · go_wp2_with (go_at_call 27; refine (HBG.out w6).mono ?_; rintro e' w7 ⟨rfl, hb7⟩)
        go_ret
        exact ⟨rfl, (H6.out.next hb7).below⟩
    · by_cases hn : a.node = b.node
      · have hn1 : (a.node == b.node) = true := by simpa using hn
        have ha1 : (a.at_ == b.at_) = false := by
          rw [beq_eq_false_iff_ne]
          intro ha
          rw [decide_eq_true hn, decide_eq_true ha] at hxy
          cases hxy
        clear hn hxy hnb
        go_upto_region 8 with fail
        clear a0 a1 b0 b1
        have x0 := cell_blk (i := 0) H4.out.doc rfl
        have x1 := cell_blk (i := 1) H4.out.doc rfl
        have a0 := cell_blk (i := 0) H4.out.a_ rfl
        have a1 := cell_blk (i := 1) H4.out.a_ rfl
        have b0 := cell_blk (i := 0) H4.out.b_ rfl
        have b1 := cell_blk (i := 1) H4.out.b_ rfl
        have c0 := cell_blk (i := 0) H4.out.d_ rfl
        have c1 := cell_blk (i := 1) H4.out.d_ rfl
        go_upto_region 9 with (go_at_call 26; refine (HL3.out w4 HB4.out).mono ?_; rintro e' w5 ⟨rfl, hb5⟩)
        have H5 := Lib.hid (H4.out.next hb5)
        have HB5 := Lib.hid (HB4.out.trans (hb5.mono HB4.out.size))
        clear x0 x1 a0 a1 b0 b1 c0 c1 hb5
        have x0 := cell_blk (i := 0) H5.out.doc rfl
        have x1 := cell_blk (i := 1) H5.out.doc rfl
        have a0 := cell_blk (i := 0) H5.out.a_ rfl
        have a1 := cell_blk (i := 1) H5.out.a_ rfl
        have c0 := cell_blk (i := 0) H5.out.d_ rfl
        have c1 := cell_blk (i := 1) H5.out.d_ rfl
        go_upto_region 10 with (go_at_call 26; refine (HL4.out w5 HB5.out).mono ?_; rintro e' w6 ⟨rfl, hb6⟩)
        have H6 := Lib.hid (H5.out.next hb6)
        clear x0 x1 a0 a1 c0 c1 hb6
        rcases h3 with hg | ⟨rfl, rfl, _⟩
        · have hg1 : (g != 0) = true := by simpa using hg
          clear hg
          go_wp2_with (go_at_call 27; refine (HBG.out w6).mono ?_; rintro e' w7 ⟨rfl, hb7⟩)
          go_ret
          exact ⟨rfl, (H6.out.next hb7).below⟩
        · go_wp2_with (go_at_call 27; refine (HBG.out w6).mono ?_; rintro e' w7 ⟨rfl, hb7⟩)
          go_ret
          exact ⟨rfl, (H6.out.next hb7).below⟩
      · have hn1 : (a.node == b.node) = false := beq_eq_false_iff_ne.2 hn
        clear hn hxy hnb
        go_upto_region 8 with fail
        clear a0 a1 b0 b1
        have x0 := cell_blk (i := 0) H4.out.doc rfl
        have x1 := cell_blk (i := 1) H4.out.doc rfl
        have a0 := cell_blk (i := 0) H4.out.a_ rfl
        have a1 := cell_blk (i := 1) H4.out.a_ rfl
        have b0 := cell_blk (i := 0) H4.out.b_ rfl
        have b1 := cell_blk (i := 1) H4.out.b_ rfl
        have c0 := cell_blk (i := 0) H4.out.d_ rfl
        have c1 := cell_blk (i := 1) H4.out.d_ rfl
        go_upto_region 9 with (go_at_call 26; refine (HL3.out w4 HB4.out).mono ?_; rintro e' w5 ⟨rfl, hb5⟩)
        have H5 := Lib.hid (H4.out.next hb5)
        have HB5 := Lib.hid (HB4.out.trans (hb5.mono HB4.out.size))
        clear x0 x1 a0 a1 b0 b1 c0 c1 hb5
        have x0 := cell_blk (i := 0) H5.out.doc rfl
        have x1 := cell_blk (i := 1) H5.out.doc rfl
        have a0 := cell_blk (i := 0) H5.out.a_ rfl
        have a1 := cell_blk (i := 1) H5.out.a_ rfl
        have c0 := cell_blk (i := 0) H5.out.d_ rfl
        have c1 := cell_blk (i := 1) H5.out.d_ rfl
        go_upto_region 10 with (go_at_call 26; refine (HL4.out w5 HB5.out).mono ?_; rintro e' w6 ⟨rfl, hb6⟩)
        have H6 := Lib.hid (H5.out.next hb6)
        clear x0 x1 a0 a1 c0 c1 hb6
        rcases h3 with hg | ⟨rfl, rfl, _⟩
        · have hg1 : (g != 0) = true := by simpa using hg
          clear hg
          go_wp2_with (go_at_call 27; refine (HBG.out w6).mono ?_; rintro e' w7 ⟨rfl, hb7⟩)
          go_ret
          exact ⟨rfl, (H6.out.next hb7).below⟩
        · go_wp2_with (go_at_call 27; refine (HBG.out w6).mono ?_; rintro e' w7 ⟨rfl, hb7⟩)
          go_ret
          exact ⟨rfl, (H6.out.next hb7).below⟩
    · by_cases hn : a.node = b.node
      · have hn1 : (a.node == b.node) = true := by simpa using hn
        have ha1 : (a.at_ == b.at_) = false := by
          rw [beq_eq_false_iff_ne]
          intro ha
          rw [decide_eq_true hn, decide_eq_true ha] at hxy
          cases hxy
        clear hn hxy hnb
        go_upto_region 8 with fail
        clear a0 a1 b0 b1
        have x0 := cell_blk (i := 0) H4.out.doc rfl
        have x1 := cell_blk (i := 1) H4.out.doc rfl
        have a0 := cell_blk (i := 0) H4.out.a_ rfl
        have a1 := cell_blk (i := 1) H4.out.a_ rfl
        have b0 := cell_blk (i := 0) H4.out.b_ rfl
        have b1 := cell_blk (i := 1) H4.out.b_ rfl
        have c0 := cell_blk (i := 0) H4.out.d_ rfl
        have c1 := cell_blk (i := 1) H4.out.d_ rfl
        go_upto_region 9 with (go_at_call 26; refine (HL3.out w4 HB4.out).mono ?_; rintro e' w5 ⟨rfl, hb5⟩)
        have H5 := Lib.hid (H4.out.next hb5)
        have HB5 := Lib.hid (HB4.out.trans (hb5.mono HB4.out.size))
        clear x0 x1 a0 a1 b0 b1 c0 c1 hb5
        have x0 := cell_blk (i := 0) H5.out.doc rfl
        have x1 := cell_blk (i := 1) H5.out.doc rfl
        have a0 := cell_blk (i := 0) H5.out.a_ rfl
        have a1 := cell_blk (i := 1) H5.out.a_ rfl
        have c0 := cell_blk (i := 0) H5.out.d_ rfl
        have c1 := cell_blk (i := 1) H5.out.d_ rfl
        go_upto_region 10 with (go_at_call 26; refine (HL4.out w5 HB5.out).mono ?_; rintro e' w6 ⟨rfl, hb6⟩)
        have H6 := Lib.hid (H5.out.next hb6)
        clear x0 x1 a0 a1 c0 c1 hb6
        rcases h3 with hg | ⟨rfl, rfl, hx | rfl | rfl⟩
        · have hg1 : (g != 0) = true := by simpa using hg
          clear hg
          go_wp2_with (go_at_call 27; refine (HBG.out w6).mono ?_; rintro e' w7 ⟨rfl, hb7⟩)
          go_ret
          exact ⟨rfl, (H6.out.next hb7).below⟩
        · cases hx
        · go_wp2_with (go_at_call 27; refine (HBG.out w6).mono ?_; rintro e' w7 ⟨rfl, hb7⟩)
          go_ret
          exact ⟨rfl, (H6.out.next hb7).below⟩
        · cases z
          · go_wp2_with (go_at_call 27; refine (HBG.out w6).mono ?_; rintro e' w7 ⟨rfl, hb7⟩)
            go_ret
            exact ⟨rfl, (H6.out.next hb7).below⟩
          · go_wp2_with (go_at_call 27; refine (HBG.out w6).mono ?_; rintro e' w7 ⟨rfl, hb7⟩)
            go_ret
            exact ⟨rfl, (H6.out.next hb7).below⟩
      · have hn1 : (a.node == b.node) = false := beq_eq_false_iff_ne.2 hn
        clear hn hxy hnb
        go_upto_region 8 with fail
        clear a0 a1 b0 b1
        have x0 := cell_blk (i := 0) H4.out.doc rfl
        have x1 := cell_blk (i := 1) H4.out.doc rfl
        have a0 := cell_blk (i := 0) H4.out.a_ rfl
        have a1 := cell_blk (i := 1) H4.out.a_ rfl
        have b0 := cell_blk (i := 0) H4.out.b_ rfl
        have b1 := cell_blk (i := 1) H4.out.b_ rfl
        have c0 := cell_blk (i := 0) H4.out.d_ rfl
        have c1 := cell_blk (i := 1) H4.out.d_ rfl
        go_upto_region 9 with (go_at_call 26; refine (HL3.out w4 HB4.out).mono ?_; rintro e' w5 ⟨rfl, hb5⟩)
        have H5 := Lib.hid (H4.out.next hb5)
        have HB5 := Lib.hid (HB4.out.trans (hb5.mono HB4.out.size))
        clear x0 x1 a0 a1 b0 b1 c0 c1 hb5
        have x0 := cell_blk (i := 0) H5.out.doc rfl
        have x1 := cell_blk (i := 1) H5.out.doc rfl
        have a0 := cell_blk (i := 0) H5.out.a_ rfl
        have a1 := cell_blk (i := 1) H5.out.a_ rfl
        have c0 := cell_blk (i := 0) H5.out.d_ rfl
        have c1 := cell_blk (i := 1) H5.out.d_ rfl
        go_upto_region 10 with (go_at_call 26; refine (HL4.out w5 HB5.out).mono ?_; rintro e' w6 ⟨rfl, hb6⟩)
        have H6 := Lib.hid (H5.out.next hb6)
        clear x0 x1 a0 a1 c0 c1 hb6
        rcases h3 with hg | ⟨rfl, rfl, hx | rfl | rfl⟩
        · have hg1 : (g != 0) = true := by simpa using hg
          clear hg
          go_wp2_with (go_at_call 27; refine (HBG.out w6).mono ?_; rintro e' w7 ⟨rfl, hb7⟩)
          go_ret
          exact ⟨rfl, (H6.out.next hb7).below⟩
        · cases hx
        · go_wp2_with (go_at_call 27; refine (HBG.out w6).mono ?_; rintro e' w7 ⟨rfl, hb7⟩)
          go_ret
          exact ⟨rfl, (H6.out.next hb7).below⟩
        · cases z
          · go_wp2_with (go_at_call 27; refine (HBG.out w6).mono ?_; rintro e' w7 ⟨rfl, hb7⟩)
            go_ret
            exact ⟨rfl, (H6.out.next hb7).below⟩
          · go_wp2_with (go_at_call 27; refine (HBG.out w6).mono ?_; rintro e' w7 ⟨rfl, hb7⟩)
            go_ret
            exact ⟨rfl, (H6.out.next hb7).below⟩
    · cases hnb
end Go.Proofs.YtcnogokemilhnaaDoor
