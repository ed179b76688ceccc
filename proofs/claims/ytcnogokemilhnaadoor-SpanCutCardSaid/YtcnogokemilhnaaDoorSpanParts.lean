/-
The walk of SpanParts.
-/
import Derived.Test.YtcnogokemilhnaaDoorSpanBegun
import Derived.Test.YtcnogokemilhnaaDoorTextOf
namespace Go.Proofs.YtcnogokemilhnaaDoor
open Go.RowKit Go.Cl
attribute [local go_sem ↓] Go.wp_at_zero Go.wp_at_succ

theorem textS_ok {l : List Nd} {a b : Pt} : (textS l a b).2 = 0 ↔ spanS l a b = 0 := by
  unfold textS
  by_cases h : spanS l a b = 0
  · rw [if_neg (by simpa using h)]; exact ⟨fun _ => h, fun _ => rfl⟩
  · rw [if_pos h]
theorem textS_small {l : List Nd} {a b : Pt} (h : spanS l a b = 0) : (textS l a b).1.size ≤ 80000 := by
  have hc := (spanS_zero.1 h).1
  have G := good_of hc
  have T := tree_of hc
  unfold textS
  rw [if_neg (by simpa using h)]
  have h1 := join_size (f := partK l a b) (G.part_small a b) (preR l 0)
  have h2 := T.all_few
  show (joinB (partK l a b) (preR l 0)).size ≤ 80000
  omega
/-- What SpanParts says of a document, but for what spanBegun says. -/
theorem span_parts_all {l : List Nd} {a p b : Pt} (h1 : (textS l a p).2 = 0) (h2 : (textS l p b).2 = 0) :
    0 < l.length ∧ checkD l = 0 ∧ (textS l a p).1.size ≤ 80000 ∧ (textS l p b).1.size ≤ 80000 ∧ textS l a b = ((textS l a p).1 ++ (textS l p b).1, 0) ∧ ∃ t, textS l ⟨0, 0⟩ ⟨0, ((kidsD l 0).length : Nat)⟩ = (t, 0) ∧ txtOf l 0 = (t, 0) := by
  have g1 := textS_ok.1 h1
  have g2 := textS_ok.1 h2
  obtain ⟨hne, hc, h3, h4⟩ := span_parts_law g1 g2
  have G := good_of hc
  refine ⟨G.pos, hc, textS_small g1, textS_small g2, Prod.ext h4 (textS_ok.2 h3), joinB (wholeK l) (preR l 0), ?_, ?_⟩
  · unfold textS
    rw [if_neg (by rw [G.full]; simp), G.full_text]
  · have ha : askS l 0 = 0 := by
      unfold askS
      rw [if_neg (by rw [hc]; simp), if_neg (by have := G.pos; omega)]
    unfold txtOf
    rw [if_neg (by rw [ha]; simp), if_neg (by rw [G.root_kind]; decide)]
/-- The boxes of SpanParts: the document, the range, the point. -/
structure QB (w : World) (A : Option Addr) (n c : Nat) (q : Bool) (a b p : Pt) (u : World) : Prop where
  below : Below w.heap.size w u
  d_ : u.heap[w.heap.size]? = some (.cells #[.slice A n c, .bool q] 24 (0, 0))
  s_ : u.heap[w.heap.size + 1]? = some (.cells #[.int .i64 a.node, .int .i64 a.at_, .int .i64 b.node, .int .i64 b.at_] 63 (0, 0))
  p_ : u.heap[w.heap.size + 1 + 1]? = some (.cells #[.int .i64 p.node, .int .i64 p.at_] 57 (0, 0))
theorem QB.next {w : World} {A : Option Addr} {n c : Nat} {q : Bool} {a b p : Pt} {u u' : World} (h : QB w A n c q a b p u) (hb : Below u.heap.size u u') : QB w A n c q a b p u' :=
  ⟨h.below.trans (hb.mono h.below.size), (hb.block _ (Array.getElem?_eq_some_iff.1 h.d_).1).trans h.d_, (hb.block _ (Array.getElem?_eq_some_iff.1 h.s_).1).trans h.s_, (hb.block _ (Array.getElem?_eq_some_iff.1 h.p_).1).trans h.p_⟩
set_option maxRecDepth 100000 in
set_option maxHeartbeats 8000000 in
theorem spanParts_walk (A : Option Addr) (n c : Nat) (l : List Nd) (q : Bool) (a b p : Pt) (w : World) (B : Nat) (hl : Sl tNd w (lt B) A n c l) (hB : B ≤ w.heap.size) (ha : wfP a) (hb : wfP b) (hp : wfP p) :
    Calls Tryd.prog 7 #[.agg #[.slice A n c, .bool q], .agg #[.int .i64 a.node, .int .i64 a.at_, .int .i64 b.node, .int .i64 b.at_], .agg #[.int .i64 p.node, .int .i64 p.at_]] w fun e w' => e = .returned (.bool true) ∧ Below w.heap.size w w' := by
  obtain ⟨wa, hwa⟩ : ∃ wa, wa = w.alloc (.cells #[.slice A n c, .bool q] 24) := ⟨_, rfl⟩
  obtain ⟨wb, hwb⟩ : ∃ wb, wb = wa.alloc (.cells #[.int .i64 a.node, .int .i64 a.at_, .int .i64 b.node, .int .i64 b.at_] 63) := ⟨_, rfl⟩
  obtain ⟨w0, hw0⟩ : ∃ w0, w0 = wb.alloc (.cells #[.int .i64 p.node, .int .i64 p.at_] 57) := ⟨_, rfl⟩
  have za : wa.heap.size = w.heap.size + 1 := by rw [hwa]; exact World.size_alloc w _
  have zb : wb.heap.size = w.heap.size + 1 + 1 := by rw [hwb, World.size_alloc, za]
  have H0 : QB w A n c q a b p w0 := by
    refine ⟨?_, ?_, ?_, ?_⟩
    · rw [hw0, hwb, hwa]; exact (((Below.refl _ _).alloc (Nat.le_refl _) _).alloc (by simp) _).alloc (by simp; omega) _
    · rw [hw0, Lib.alloc_old _ _ _ (by omega), hwb, Lib.alloc_old _ _ _ (by omega), hwa]; exact heap_alloc_new w _
    · rw [hw0, Lib.alloc_old _ _ _ (by omega), hwb, ← za]; exact heap_alloc_new wa _
    · rw [hw0, ← zb]; exact heap_alloc_new wb _
  obtain ⟨k, hk, hkn, _, _⟩ := min_nat n 25 (by decide)
  have HBR := Lib.hid (brief_any A n c k l q w0 B (hl.below H0.below hB) (Nat.le_trans hB H0.below.size) hk)
  have HH0 := Lib.hid H0
  have d0 := cell_blk (i := 0) H0.d_ rfl
  have d1 := cell_blk (i := 1) H0.d_ rfl
  have HZ : Hid (w.heap.size + 1 + 1 < w0.heap.size) := (Array.getElem?_eq_some_iff.1 H0.p_).1
  have HBL := Lib.hid hB
  have HZ2 := Lib.hid H0.below.size
  have HWA := Lib.hid ha
  have HWB := Lib.hid hb
  have HWP := Lib.hid hp
  clear za zb H0 hl hB hk ha hb hp
  go_enter Tryd.func7, Tryd.ntmps7
  go_upto_region 1 with fail
  rw [← hwa, ← hwb, ← hw0]
  clear hwa hwb hw0
  go_upto_region 2 with (go_at_call 25; refine HBR.out.mono ?_; rintro e' w1 ⟨A', c', rfl, hbr, hsr⟩; have H1 := Lib.hid (HH0.out.next hbr); have g0 := free_blk (i := 0) H1.out.d_; have g1 := free_blk (i := 1) H1.out.d_; have k0 := cell_blk (i := 0) H1.out.d_ rfl; have k1 := cell_blk (i := 1) H1.out.d_ rfl)
  obtain ⟨w2, hw2⟩ : ∃ w2, w2 = (w1.setCell ⟨w.heap.size, 0, none⟩ (.slice A' k c')).setCell ⟨w.heap.size, 1, none⟩ (.bool q) := ⟨_, rfl⟩
  rw [← hw2]
  have hno : ¬ (fun b => lt B b ∨ (w0.heap.size ≤ b ∧ b < w1.heap.size)) w.heap.size := fun h => by
    rcases h with h | h
    · have h3 : w.heap.size < B := h
      have := HBL.out
      omega
    · have := HZ.out
      omega
  have hz2 : w2.heap.size = w1.heap.size := by rw [hw2]; simp only [World.size_setCell]
  have HS2 : Hid (Sl tNd w2 (lt w2.heap.size) A' k c' ((l.take k).map cutNd)) := by
    have h := sl_far4 (sl_far4 hsr hno 0 (.slice A' k c')) hno 1 (.bool q)
    rw [← hw2] at h
    refine h.more fun b hb => ?_
    show b < w2.heap.size
    rw [hz2]
    rcases hb with hb | hb
    · have h3 : b < B := hb
      have := HBL.out
      have := HZ2.out
      have := hbr.size
      omega
    · exact hb.2
  have ne1 : w.heap.size + 1 ≠ w.heap.size := by omega
  have ne2 : w.heap.size + 1 + 1 ≠ w.heap.size := by omega
  have H2 : Hid (QB w A' k c' q a b p w2) := by
    show QB w A' k c' q a b p w2
    rw [hw2]
    exact ⟨(H1.out.below.setCell (p := ⟨w.heap.size, 0, none⟩) (Nat.le_refl _) _).setCell (p := ⟨w.heap.size, 1, none⟩) (Nat.le_refl _) _, set_blk (i := 1) (set_blk (i := 0) H1.out.d_ _) _, (Below.heap_setCell _ _ _ _ ne1).trans ((Below.heap_setCell _ _ _ _ ne1).trans H1.out.s_), (Below.heap_setCell _ _ _ _ ne2).trans ((Below.heap_setCell _ _ _ _ ne2).trans H1.out.p_)⟩
  have HBG := Lib.hid (fun W => spanBegun_any W)
  clear hw2 hno hz2 ne1 ne2 hsr hbr H1 g0 g1 k0 k1 d0 d1 HBR HH0 HZ HBL HZ2
  generalize (l.take k).map cutNd = l' at *
  have HTX := Lib.hid (fun (x y : Pt) (hx : wfP x) (hy : wfP y) (W : World) (hb : Below w2.heap.size w2 W) => text_rg A' k c' l' q x y W _ (HS2.out.below hb (Nat.le_refl _)) hb.size hx hy)
  have HT1 := Lib.hid (HTX.out a p HWA.out HWP.out)
  have HT2 := Lib.hid (HTX.out p b HWP.out HWB.out)
  have HT3 := Lib.hid (HTX.out a b HWA.out HWB.out)
  have HTO := Lib.hid (fun (W : World) (hb : Below w2.heap.size w2 W) => textOf_any A' k c' l' q 0 W _ (HS2.out.below hb (Nat.le_refl _)) hb.size)
  have law := Lib.hid (fun h1 h2 => span_parts_all (l := l') (a := a) (p := p) (b := b) h1 h2)
  generalize textS l' a p = R1 at *
  generalize textS l' p b = R2 at *
  obtain ⟨X, e1⟩ := R1
  obtain ⟨Y, e2⟩ := R2
  have x0 := cell_blk (i := 0) H2.out.d_ rfl
  have x1 := cell_blk (i := 1) H2.out.d_ rfl
  have s0 := cell_blk (i := 0) H2.out.s_ rfl
  have s1 := cell_blk (i := 1) H2.out.s_ rfl
  have p0 := cell_blk (i := 0) H2.out.p_ rfl
  have p1 := cell_blk (i := 1) H2.out.p_ rfl
  go_upto_region 3 with (go_at_call 31; refine (HT1.out w2 (Below.refl _ _)).mono ?_; rintro e' w3 ⟨rfl, hb3⟩)
  have H3 := Lib.hid (H2.out.next hb3)
  have HB3 := Lib.hid hb3
  clear x0 x1 s0 s1 p0 p1 hb3 HT1
  have x0 := cell_blk (i := 0) H3.out.d_ rfl
  have x1 := cell_blk (i := 1) H3.out.d_ rfl
  have s2 := cell_blk (i := 2) H3.out.s_ rfl
  have s3 := cell_blk (i := 3) H3.out.s_ rfl
  have p0 := cell_blk (i := 0) H3.out.p_ rfl
  have p1 := cell_blk (i := 1) H3.out.p_ rfl
  go_upto_region 4 with (go_at_call 31; refine (HT2.out w3 HB3.out).mono ?_; rintro e' w4 ⟨rfl, hb4⟩)
  have H4 := Lib.hid (H3.out.next hb4)
  have HB4 := Lib.hid (HB3.out.trans (hb4.mono HB3.out.size))
  clear x0 x1 s2 s3 p0 p1 hb4 HT2
  by_cases h1 : e1 = 0
  · by_cases h2 : e2 = 0
    · subst h1 h2
      obtain ⟨hpos, hck, hX, hY, hab, t, hfull, hto⟩ := law.out rfl rfl
      try simp only at hX hY
      have HAB := Lib.hid hab
      have HF := Lib.hid hfull
      have HO := Lib.hid hto
      rw [HAB.out] at HT3
      rw [HO.out] at HTO
      have hkp : 0 < k := by have := HS2.out.hn; omega
      have hcap := HS2.out.hc
      have hkz : ((k : Int) == 0) = false := beq_eq_false_iff_ne.2 (by omega)
      have x0 := cell_blk (i := 0) H4.out.d_ rfl
      have x1 := cell_blk (i := 1) H4.out.d_ rfl
      have s0 := cell_blk (i := 0) H4.out.s_ rfl
      have s1 := cell_blk (i := 1) H4.out.s_ rfl
      have s2 := cell_blk (i := 2) H4.out.s_ rfl
      have s3 := cell_blk (i := 3) H4.out.s_ rfl
      obtain ⟨y, hy⟩ := get_some hpos
      have hkids : kidsD l' 0 = y.kids := by rw [show (0 : Int) = ((0 : Nat) : Int) from rfl, kidsD_at hy]
      rw [hkids] at HF
      have HYK : Hid ((y.kids.length : Nat) ≤ 200) := (good_of hck).kids_few hy
      clear hpos hab hfull hto hck
      go_upto_region 9 with (go_at_call 31; refine (HT3.out w4 HB4.out).mono ?_; rintro e' w5 ⟨rfl, hb5⟩)
      have H5 := Lib.hid (H4.out.next hb5)
      have HB5 := Lib.hid (HB4.out.trans (hb5.mono HB4.out.size))
      have HW0 : Hid (wfP ⟨0, 0⟩ ∧ wfP ⟨0, ((y.kids.length : Nat) : Int)⟩) := ⟨⟨by decide, by decide⟩, ⟨(by decide : (Lit.int .i64 0).wf = true), WalkArith.wf_i64 (by have := HYK.out; simp only; omega)⟩⟩
      have HT4 := Lib.hid (fun W hb => HTX.out ⟨0, 0⟩ ⟨0, ((y.kids.length : Nat) : Int)⟩ HW0.out.1 HW0.out.2 W hb)
      rw [HF.out] at HT4
      obtain ⟨bb, o, rfl, hd⟩ := doc_at (HS2.out.below HB5.out (Nat.le_refl _)) hkp
      obtain ⟨_, _, _, A5, n5, c5, hnd, _, _, _, _, _, k5⟩ := hd.at_ 0 y hy
      have hn5 := hnd.kids.hn
      subst hn5
      clear x0 x1 s0 s1 s2 s3 hb5 HT3 hd hnd hy hkids
      have x0 := cell_blk (i := 0) H5.out.d_ rfl
      have x1 := cell_blk (i := 1) H5.out.d_ rfl
      generalize y.kids.length = N at *
      refine wp_region_G (S := (fun w' : World => w'.cell? ⟨w.heap.size, 0, none⟩ = some (.slice (some ⟨bb, o, none⟩) k c') ∧ w'.cell? ⟨w.heap.size, 1, none⟩ = some (.bool q) ∧ w'.cell? ⟨bb, o + 0 * 6 + 5, none⟩ = some (.slice A5 N c5))) (T := []) (by kernel_rfl) ?_
      have hS : (fun w' : World => w'.cell? ⟨w.heap.size, 0, none⟩ = some (.slice (some ⟨bb, o, none⟩) k c') ∧ w'.cell? ⟨w.heap.size, 1, none⟩ = some (.bool q) ∧ w'.cell? ⟨bb, o + 0 * 6 + 5, none⟩ = some (.slice A5 N c5)) w5.drew := ⟨x0, x1, k5⟩
      refine wpAnyG_take (i := 0) (v := ?_) rfl (by kernel_rfl) (by kernel_rfl) (by kernel_rfl) (by kernel_rfl) (fun _ _ _ h => h) hS rfl ?_ ?_
      rotate_left
      · intro w' hSw
        (try dsimp only at hSw)
        first | (go_simp; done) | (go_simp; with_reducible rfl)
      refine wpAnyG_pure (i := 1) (v := ?_) rfl (by kernel_rfl) (by kernel_rfl) (by kernel_rfl) (fun _ _ _ h => h) rfl ?_ ?_
      rotate_left
      · intro w'
        first | (go_simp; done) | (go_simp; with_reducible rfl)
      refine wpAnyG_take (i := 2) (v := ?_) rfl (by kernel_rfl) (by kernel_rfl) (by kernel_rfl) (by kernel_rfl) (fun _ _ _ h => h) hS rfl ?_ ?_
      rotate_left
      · intro w' hSw
        (try dsimp only at hSw)
        first | (go_simp; done) | (go_simp; with_reducible rfl)
      refine wpAnyG_pure (i := 3) (v := ?_) rfl (by kernel_rfl) (by kernel_rfl) (by kernel_rfl) (fun _ _ _ h => h) rfl ?_ ?_
      rotate_left
      · intro w'
        first | (go_simp; done) | (go_simp; with_reducible rfl)
      refine wpAnyG_pure (i := 4) (v := ?_) rfl (by kernel_rfl) (by kernel_rfl) (by kernel_rfl) (fun _ _ _ h => h) rfl ?_ ?_
      rotate_left
      · intro w'
        first | (go_simp; done) | (go_simp; with_reducible rfl)
      refine wpAnyG_take (i := 5) (v := ?_) rfl (by kernel_rfl) (by kernel_rfl) (by kernel_rfl) (by kernel_rfl) (fun _ _ _ h => h) hS rfl ?_ ?_
      rotate_left
      · intro w' hSw
        (try dsimp only at hSw)
        first | (go_simp; done) | (go_simp; with_reducible rfl)
      refine wpAnyG_pure (i := 6) (v := ?_) rfl (by kernel_rfl) (by kernel_rfl) (by kernel_rfl) (fun _ _ _ h => h) rfl ?_ ?_
      rotate_left
      · intro w'
        first | (go_simp; done) | (go_simp; with_reducible rfl)
      refine wpAnyG_pure (i := 7) (v := ?_) rfl (by kernel_rfl) (by kernel_rfl) (by kernel_rfl) (fun _ _ _ h => h) rfl ?_ ?_
      rotate_left
      · intro w'
        first | (go_simp; done) | (go_simp; with_reducible rfl)
      refine wpAnyG_pure (i := 8) (v := ?_) rfl (by kernel_rfl) (by kernel_rfl) (by kernel_rfl) (fun _ _ _ h => h) rfl ?_ ?_
      rotate_left
      · intro w'
        first | (go_simp; done) | (go_simp; with_reducible rfl)
      refine wpAnyG_one (i := 9) (by kernel_rfl) rfl rfl (fun K hK => ?_)
      go_simp
      go_at_call 31
      refine (HT4.out w5.drew (HB5.out.drew)).mono ?_
      rintro e' w6 ⟨rfl, hb6⟩
      have hb56 : Below w5.heap.size w5 w6 := (Below.refl _ w5).drew.trans hb6
      go_wp2_with fail
      refine hK.out _ _ (fun _ _ => ⟨cell_be x0 hb56, cell_be x1 hb56, cell_be k5 hb56⟩) ?_
      clear hK K hS
      refine wpAnyG_pure (i := 10) (v := ?_) rfl (by kernel_rfl) (by kernel_rfl) (by kernel_rfl) (fun _ _ _ h => h) rfl ?_ ?_
      rotate_left
      · intro w'
        first | (go_simp; done) | (go_simp; with_reducible rfl)
      refine wpAnyG_pure (i := 11) (v := ?_) rfl (by kernel_rfl) (by kernel_rfl) (by kernel_rfl) (fun _ _ _ h => h) rfl ?_ ?_
      rotate_left
      · intro w'
        first | (go_simp; done) | (go_simp; with_reducible rfl)
      refine wpAnyG_pure (i := 12) (v := ?_) rfl (by kernel_rfl) (by kernel_rfl) (by kernel_rfl) (fun _ _ _ h => h) rfl ?_ ?_
      rotate_left
      · intro w'
        first | (go_simp; done) | (go_simp; with_reducible rfl)
      refine wpAnyG_one (i := 13) (by kernel_rfl) rfl rfl (fun K hK => ?_)
      go_simp
      refine hK.out _ _ (fun _ h => h) ?_
      clear hK K
      refine wpAnyG_one (i := 14) (by kernel_rfl) rfl rfl (fun K hK => ?_)
      go_simp
      refine hK.out _ _ (fun _ h => h) ?_
      clear hK K
      refine wpAnyG_done (by kernel_rfl) ?_ _
      have H6 := Lib.hid (H5.out.next hb56)
      have HB6 := Lib.hid (HB5.out.trans (hb56.mono HB5.out.size))
      clear x0 x1 k5 hb56 hb6
      have x0 := cell_blk (i := 0) H6.out.d_ rfl
      have x1 := cell_blk (i := 1) H6.out.d_ rfl
      go_upto_region 11 with (go_at_call 21; refine (HTO.out w6 HB6.out).mono ?_; rintro e' w7 ⟨rfl, hb7⟩)
      have H7 := Lib.hid (H6.out.next hb7)
      clear x0 x1 hb7
      go_wp2_with (go_at_call 27; refine (HBG.out w7).mono ?_; rintro e' w8 ⟨rfl, hb8⟩)
      go_ret
      exact ⟨rfl, (H7.out.next hb8).below⟩
    · subst h1
      have j2 : (e2 != 0) = true := by simpa using h2
      clear h2
      go_wp2_with (go_at_call 27; refine (HBG.out w4).mono ?_; rintro e' w5 ⟨rfl, hb5⟩)
      go_ret
      exact ⟨rfl, (H4.out.next hb5).below⟩
  · have j1 : (e1 != 0) = true := by simpa using h1
    clear h1
    go_wp2_with (go_at_call 27; refine (HBG.out w4).mono ?_; rintro e' w5 ⟨rfl, hb5⟩)
    go_ret
    exact ⟨rfl, (H4.out.next hb5).below⟩
end Go.Proofs.YtcnogokemilhnaaDoor
