/-
The walk of SpanCut.
-/
import Derived.Test.YtcnogokemilhnaaDoorSpanCutW2
import Derived.Test.YtcnogokemilhnaaDoorSpanParts
namespace Go.Proofs.YtcnogokemilhnaaDoor
open Go.RowKit Go.Cl
attribute [local go_sem ↓] Go.wp_at_zero Go.wp_at_succ

/-- What SpanCut says of a document, but for what spanBegun says. -/
theorem span_cut_all {l : List Nd} {a b : Pt} (h : (cutS l a b).2 = 0) :
    0 < l.length ∧ ∃ X Y Z : ByteArray, ∃ l', X.size ≤ 80000 ∧ Y.size ≤ 80000 ∧ Z.size ≤ 80000 ∧ textS l a b = (Y, 0) ∧ textS l ⟨0, 0⟩ a = (X, 0) ∧ txtOf l 0 = ((X ++ Y) ++ Z, 0) ∧ alR l (cutS l a b).1 = (l', 0, 0) ∧ txtOf l' 0 = (X ++ Z, 0) := by
  have hsp : spanS l a b = 0 := by
    unfold cutS at h
    by_cases h1 : spanS l a b = 0
    · exact h1
    · rw [if_pos h1] at h; exact absurd h h1
  have h40 : ¬ 40 < (cutF l a b 41 0).length := fun hh => by
    unfold cutS at h
    rw [if_neg (by simpa using hsp), if_pos hh] at h
    exact absurd h (by decide)
  have hes : (cutS l a b).1 = cutF l a b 41 0 := by
    unfold cutS
    rw [if_neg (by simpa using hsp), if_neg h40]
  obtain ⟨l', h1, h2, h3, Z, h4, h5⟩ := span_cut_law hsp
  have hck := (spanS_zero.1 hsp).1
  have G := good_of hck
  have G' := good_of h2
  have T := tree_of hck
  have hX := textS_small h3
  have hY := textS_small hsp
  have eX : textS l ⟨0, 0⟩ a = (joinB (partK l ⟨0, 0⟩ a) (preR l 0), 0) := if_neg (by simpa using h3)
  have eY : textS l a b = (joinB (partK l a b) (preR l 0), 0) := if_neg (by simpa using hsp)
  rw [eX] at hX
  rw [eY] at hY
  have ask0 : ∀ {l : List Nd}, Good l → askS l 0 = 0 := fun {l} G => by
    unfold askS
    rw [if_neg (by rw [check_of G]; simp), if_neg (by have := G.pos; omega)]
  have txt0 : ∀ {l : List Nd}, Good l → txtOf l 0 = (joinB (wholeK l) (preR l 0), 0) := fun {l} G => by
    unfold txtOf
    rw [if_neg (by rw [ask0 G]; simp), if_neg (by rw [G.root_kind]; decide)]
  refine ⟨G.pos, joinB (partK l ⟨0, 0⟩ a) (preR l 0), joinB (partK l a b) (preR l 0), Z, l', hX, hY, ?_, eY, eX, ?_, ?_, ?_⟩
  · have h6 := join_size (f := wholeK l) G.whole_small (preR l 0)
    have h7 := T.all_few
    rw [h4, ByteArray.size_append] at h6
    omega
  · rw [txt0 G, h4]
  · rw [hes]
    unfold alR alErr
    rw [if_neg (by rw [if_neg (by rw [hck]; simp), if_neg h40]; simp), h1]
  · rw [txt0 G', h5]
theorem ext_mid (X Y Z : ByteArray) : ((X ++ Y) ++ Z).extract X.size (X.size + Y.size) = Y := by
  apply ByteArray.ext
  apply Array.ext'
  rw [ByteArray.data_extract, Array.toList_extract, ByteArray.data_append, ByteArray.data_append, Array.toList_append, Array.toList_append, ← len_size X, ← len_size Y]
  simp
theorem ext_end (X Y Z : ByteArray) : ((X ++ Y) ++ Z).extract (X.size + Y.size) ((X ++ Y) ++ Z).size = Z := by
  apply ByteArray.ext
  apply Array.ext'
  rw [ByteArray.size_append, ByteArray.size_append, ByteArray.data_extract, Array.toList_extract, ByteArray.data_append, ByteArray.data_append, Array.toList_append, Array.toList_append]
  have h1 : (X.data.toList ++ Y.data.toList).length = X.size + Y.size := by rw [List.length_append, len_size, len_size]
  show List.take _ (List.drop _ _) = _
  rw [List.drop_left' h1, List.take_of_length_le (by rw [len_size]; omega)]
/-- The boxes of SpanCut: the document, the range. -/
structure QC (w : World) (A : Option Addr) (n c : Nat) (q : Bool) (a b : Pt) (u : World) : Prop where
  below : Below w.heap.size w u
  d_ : u.heap[w.heap.size]? = some (.cells #[.slice A n c, .bool q] 24 (0, 0))
  s_ : u.heap[w.heap.size + 1]? = some (.cells #[.int .i64 a.node, .int .i64 a.at_, .int .i64 b.node, .int .i64 b.at_] 63 (0, 0))
theorem QC.next {w : World} {A : Option Addr} {n c : Nat} {q : Bool} {a b : Pt} {u u' : World} (h : QC w A n c q a b u) (hb : Below u.heap.size u u') : QC w A n c q a b u' :=
  ⟨h.below.trans (hb.mono h.below.size), (hb.block _ (Array.getElem?_eq_some_iff.1 h.d_).1).trans h.d_, (hb.block _ (Array.getElem?_eq_some_iff.1 h.s_).1).trans h.s_⟩
set_option maxRecDepth 100000 in
set_option maxHeartbeats 8000000 in
theorem spanCut_walk (A : Option Addr) (n c : Nat) (l : List Nd) (q : Bool) (a b : Pt) (w : World) (B : Nat) (hl : Sl tNd w (lt B) A n c l) (hB : B ≤ w.heap.size) (ha : wfP a) (hb : wfP b) :
    Calls Tryd.prog 9 #[.agg #[.slice A n c, .bool q], .agg #[.int .i64 a.node, .int .i64 a.at_, .int .i64 b.node, .int .i64 b.at_]] w fun e w' => e = .returned (.bool true) ∧ Below w.heap.size w w' := by
  obtain ⟨wa, hwa⟩ : ∃ wa, wa = w.alloc (.cells #[.slice A n c, .bool q] 24) := ⟨_, rfl⟩
  obtain ⟨w0, hw0⟩ : ∃ w0, w0 = wa.alloc (.cells #[.int .i64 a.node, .int .i64 a.at_, .int .i64 b.node, .int .i64 b.at_] 63) := ⟨_, rfl⟩
  have za : wa.heap.size = w.heap.size + 1 := by rw [hwa]; exact World.size_alloc w _
  have H0 : QC w A n c q a b w0 := by
    refine ⟨?_, ?_, ?_⟩
    · rw [hw0, hwa]; exact ((Below.refl _ _).alloc (Nat.le_refl _) _).alloc (by simp) _
    · rw [hw0, Lib.alloc_old _ _ _ (by omega), hwa]; exact heap_alloc_new w _
    · rw [hw0, ← za]; exact heap_alloc_new wa _
  obtain ⟨k, hk, hkn, _, _⟩ := min_nat n 25 (by decide)
  have HBR := Lib.hid (brief_any A n c k l q w0 B (hl.below H0.below hB) (Nat.le_trans hB H0.below.size) hk)
  have HH0 := Lib.hid H0
  have d0 := cell_blk (i := 0) H0.d_ rfl
  have d1 := cell_blk (i := 1) H0.d_ rfl
  have HZ : Hid (w.heap.size + 1 < w0.heap.size) := (Array.getElem?_eq_some_iff.1 H0.s_).1
  have HBL := Lib.hid hB
  have HZ2 := Lib.hid H0.below.size
  have HWA := Lib.hid ha
  have HWB := Lib.hid hb
  clear za H0 hl hB hk ha hb
  go_enter Tryd.func9, Tryd.ntmps9
  go_upto_region 1 with fail
  rw [← hwa, ← hw0]
  clear hwa hw0
  go_upto_region 2 with (go_at_call 25; refine HBR.out.mono ?_; rintro e' w1 ⟨A', c', rfl, hbr, hsr⟩; have H1 := Lib.hid (HH0.out.next hbr); have g0 := free_blk (i := 0) H1.out.d_; have g1 := free_blk (i := 1) H1.out.d_; have k0 := cell_blk (i := 0) H1.out.d_ rfl; have k1 := cell_blk (i := 1) H1.out.d_ rfl)
  obtain ⟨w2, hw2⟩ : ∃ w2, w2 = (w1.setCell ⟨w.heap.size, 0, none⟩ (.slice A' k c')).setCell ⟨w.heap.size, 1, none⟩ (.bool q) := ⟨_, rfl⟩
  rw [← hw2]
  have hno : ¬ (fun b => lt B b ∨ (w0.heap.size ≤ b ∧ b < w1.heap.size)) w.heap.size := fun h => by
    rcases h with h | h
    · have h3 : w.heap.size < B := h
      have := HBL.out
      omega
    · have := HZ.out
      omega
  have hz2 : w2.heap.size = w1.heap.size := by rw [hw2]; simp only [World.size_setCell]
  have HS2 : Hid (Sl tNd w2 (lt w2.heap.size) A' k c' ((l.take k).map cutNd)) := by
    have h := sl_far4 (sl_far4 hsr hno 0 (.slice A' k c')) hno 1 (.bool q)
    rw [← hw2] at h
    refine h.more fun b hb => ?_
    show b < w2.heap.size
    rw [hz2]
    rcases hb with hb | hb
    · have h3 : b < B := hb
      have := HBL.out
      have := HZ2.out
      have := hbr.size
      omega
    · exact hb.2
  have ne1 : w.heap.size + 1 ≠ w.heap.size := by omega
  have H2 : Hid (QC w A' k c' q a b w2) := by
    show QC w A' k c' q a b w2
    rw [hw2]
    exact ⟨(H1.out.below.setCell (p := ⟨w.heap.size, 0, none⟩) (Nat.le_refl _) _).setCell (p := ⟨w.heap.size, 1, none⟩) (Nat.le_refl _) _, set_blk (i := 1) (set_blk (i := 0) H1.out.d_ _) _, (Below.heap_setCell _ _ _ _ ne1).trans ((Below.heap_setCell _ _ _ _ ne1).trans H1.out.s_)⟩
  have HBG := Lib.hid (fun W => spanBegun_any W)
  clear hw2 hno hz2 ne1 hsr hbr H1 g0 g1 k0 k1 d0 d1 HBR HH0 HZ HBL HZ2
  generalize (l.take k).map cutNd = l' at *
  have HTX := Lib.hid (fun (x y : Pt) (hx : wfP x) (hy : wfP y) (W : World) (hb : Below w2.heap.size w2 W) => text_rg A' k c' l' q x y W _ (HS2.out.below hb (Nat.le_refl _)) hb.size hx hy)
  have HTO := Lib.hid (fun (W : World) (hb : Below w2.heap.size w2 W) => textOf_any A' k c' l' q 0 W _ (HS2.out.below hb (Nat.le_refl _)) hb.size)
  have HCT := Lib.hid (cutRg_any A' k c' l' q a b w2 _ HS2.out (Nat.le_refl _) HWA.out HWB.out)
  have HT1 := Lib.hid (HTX.out a b HWA.out HWB.out)
  have HW0 : Hid (wfP ⟨0, 0⟩) := ⟨by decide, by decide⟩
  have HT2 := Lib.hid (HTX.out ⟨0, 0⟩ a HW0.out HWA.out)
  have x0 := cell_blk (i := 0) H2.out.d_ rfl
  have x1 := cell_blk (i := 1) H2.out.d_ rfl
  have s0 := cell_blk (i := 0) H2.out.s_ rfl
  have s1 := cell_blk (i := 1) H2.out.s_ rfl
  have s2 := cell_blk (i := 2) H2.out.s_ rfl
  have s3 := cell_blk (i := 3) H2.out.s_ rfl
  by_cases hc : (cutS l' a b).2 = 0
  · obtain ⟨hpos, X, Y, Z, l2, hX, hY, hZ, eY, eX, eA, eL, eR⟩ := span_cut_all hc
    have HHC := Lib.hid hc
    rw [eY] at HT1
    rw [eX] at HT2
    rw [eA] at HTO
    have HEL := Lib.hid eL
    have HER := Lib.hid eR
    have HCK : Hid ((alR l' (cutS l' a b).1).2.2 = 0) := by rw [eL]; exact Lib.hid rfl
    have h40 : (cutS l' a b).1.length ≤ 40 := (alR_ok HCK.out).2.1
    clear hc eY eX eA eL eR
    go_upto_region 3 with (go_at_call 37; refine HCT.out.mono ?_; rintro e' w3 ⟨hb3, hp3⟩; rcases hp3 with ⟨hp3, _⟩ | ⟨_, v3, rfl, hown⟩; exact absurd HHC.out hp3; obtain ⟨A3, c3, rfl⟩ := Own.form hown)
    generalize (cutS l' a b).1 = es at *
    have HE : Hid (Sl tEdt w3 (lt w3.heap.size) A3 es.length c3 es) := by
      obtain ⟨A9, c9, e9, hs⟩ := OwnF.sl hown (by decide) (by show es.length * 160 ≤ _; omega)
      simp only [Value.slice.injEq, true_and] at e9
      obtain ⟨rfl, rfl⟩ := e9
      exact hs
    have hec := HE.out.hc
    have H3 := Lib.hid (H2.out.next hb3)
    have HB3 := Lib.hid hb3
    clear hb3 hown x0 x1 s0 s1 s2 s3 HCT
    have x0 := cell_blk (i := 0) H3.out.d_ rfl
    have x1 := cell_blk (i := 1) H3.out.d_ rfl
    have s0 := cell_blk (i := 0) H3.out.s_ rfl
    have s1 := cell_blk (i := 1) H3.out.s_ rfl
    have s2 := cell_blk (i := 2) H3.out.s_ rfl
    have s3 := cell_blk (i := 3) H3.out.s_ rfl
    go_upto_region 4 with (go_at_call 31; refine (HT1.out w3 HB3.out).mono ?_; rintro e' w4 ⟨rfl, hb4⟩)
    have H4 := Lib.hid (H3.out.next hb4)
    have HB34 := Lib.hid hb4
    have HB4 := Lib.hid (HB3.out.trans (hb4.mono HB3.out.size))
    clear x0 x1 s0 s1 s2 s3 hb4 HT1
    have x0 := cell_blk (i := 0) H4.out.d_ rfl
    have x1 := cell_blk (i := 1) H4.out.d_ rfl
    go_upto_region 7 with (go_at_call 21; refine (HTO.out w4 HB4.out).mono ?_; rintro e' w5 ⟨rfl, hb5⟩)
    have H5 := Lib.hid (H4.out.next hb5)
    have HB35 := Lib.hid (HB34.out.trans (hb5.mono HB34.out.size))
    have HB5 := Lib.hid (HB4.out.trans (hb5.mono HB4.out.size))
    clear x0 x1 hb5 HTO
    have x0 := cell_blk (i := 0) H5.out.d_ rfl
    have x1 := cell_blk (i := 1) H5.out.d_ rfl
    have s0 := cell_blk (i := 0) H5.out.s_ rfl
    have s1 := cell_blk (i := 1) H5.out.s_ rfl
    go_upto_region 8 with (go_at_call 31; refine (HT2.out w5 HB5.out).mono ?_; rintro e' w6 ⟨rfl, hb6⟩)
    have H6 := Lib.hid (H5.out.next hb6)
    have HB36 := Lib.hid (HB35.out.trans (hb6.mono HB35.out.size))
    have HB6 := Lib.hid (HB5.out.trans (hb6.mono HB5.out.size))
    clear x0 x1 s0 s1 hb6 HT2
    have x0 := cell_blk (i := 0) H6.out.d_ rfl
    have x1 := cell_blk (i := 1) H6.out.d_ rfl
    have HAL := Lib.hid (all_any A' k c' l' q A3 es.length c3 es w6 w6.heap.size ((HS2.out.below HB6.out (Nat.le_refl _)).up HB6.out.size) ((HE.out.below HB36.out (Nat.le_refl _)).up HB36.out.size) (Nat.le_refl _))
    go_upto_region 9 with (go_at_call 24; refine HAL.out.mono ?_; rintro e' w7 ⟨hb7, hp7⟩; rcases hp7 with ⟨hp7, _⟩ | ⟨_, A7, c7, rfl, hs7⟩; exact absurd HCK.out hp7)
    rw [HEL.out] at hs7
    rw [HEL.out]
    obtain ⟨w8, hw8⟩ : ∃ w8, w8 = w7.alloc (.cells #[.slice A7 l2.length c7, .bool q] 24) := ⟨_, rfl⟩
    rw [← hw8]
    have hb78 : Below w7.heap.size w7 w8 := by rw [hw8]; exact (Below.refl _ _).alloc (Nat.le_refl _) _
    have HX8 : Hid (w8.heap[w7.heap.size]? = some (.cells #[.slice A7 l2.length c7, .bool q] 24 (0, 0))) := by rw [hw8]; exact heap_alloc_new w7 _
    have H8 := Lib.hid (H6.out.next (hb7.trans (hb78.mono hb7.size)))
    have HT3 := Lib.hid (textOf_any A7 l2.length c7 l2 q 0 w8 w8.heap.size (((Sl.ltr hs7).below hb78 (Nat.le_refl _)).up hb78.size) (Nat.le_refl _))
    rw [HER.out] at HT3
    clear hw8 x0 x1 hb7 hs7 hb78 HAL HER HEL HCK
    have hm := ext_mid X Y Z
    have he := ext_end X Y Z
    have hsz : ((X ++ Y) ++ Z).size = X.size + Y.size + Z.size := by rw [ByteArray.size_append, ByteArray.size_append]
    generalize (X ++ Y) ++ Z = W at *
    rw [hsz] at he
    have HE9 := Lib.hid he
    have hle : X.size + Y.size ≤ W.size := by omega
    clear he
    have hwz : IntKind.i64.wrap ((X.size : Int) + (Y.size : Int)) = (X.size : Int) + (Y.size : Int) := IntWalk.i64_in _ (by omega)
    have hlt1 : ¬ (W.size : Int) < (X.size : Int) + (Y.size : Int) := by omega
    go_upto_region 11 with fail
    have o0 := cell_blk (i := 0) HX8.out rfl
    have o1 := cell_blk (i := 1) HX8.out rfl
    go_upto_region 12 with (go_at_call 21; refine HT3.out.mono ?_; rintro e' w9 ⟨rfl, hb9⟩)
    have H9 := Lib.hid (H8.out.next hb9)
    clear o0 o1 hb9 HT3
    go_wp2_with (go_at_call 27; refine (HBG.out w9).mono ?_; rintro e' w10 ⟨rfl, hb10⟩)
    go_ret
    refine ⟨?_, (H9.out.next hb10).below⟩
    show Ending.returned (.bool ((X ++ Z).toList == (X ++ W.extract (X.size + Y.size) (X.size + Y.size + Z.size)).toList)) = _
    rw [HE9.out]
    simp
  · have HCE := Lib.hid hc
    have HAN : Hid (∀ W, Below w2.heap.size w2 W → True) := fun _ _ => trivial
    obtain ⟨er, her⟩ : ∃ er, (cutS l' a b).2 = er := ⟨_, rfl⟩
    have j1 : (er != 0) = true := by rw [← her]; simpa using hc
    clear hc
    go_upto_region 3 with (go_at_call 37; refine HCT.out.mono ?_; rintro e' w3 ⟨hb3, hp3⟩; rcases hp3 with ⟨_, rfl⟩ | ⟨hp3, _⟩; rotate_left; exact absurd hp3 HCE.out; rw [her])
    have H3 := Lib.hid (H2.out.next hb3)
    have HB3 := Lib.hid hb3
    clear hb3 x0 x1 s0 s1 s2 s3 HCT her
    have x0 := cell_blk (i := 0) H3.out.d_ rfl
    have x1 := cell_blk (i := 1) H3.out.d_ rfl
    have s0 := cell_blk (i := 0) H3.out.s_ rfl
    have s1 := cell_blk (i := 1) H3.out.s_ rfl
    have s2 := cell_blk (i := 2) H3.out.s_ rfl
    have s3 := cell_blk (i := 3) H3.out.s_ rfl
    generalize textS l' a b = R1 at *
    obtain ⟨Y, e1⟩ := R1
    go_upto_region 4 with (go_at_call 31; refine (HT1.out w3 HB3.out).mono ?_; rintro e' w4 ⟨rfl, hb4⟩)
    have H4 := Lib.hid (H3.out.next hb4)
    clear x0 x1 s0 s1 s2 s3 hb4
    go_wp2_with (go_at_call 27; refine (HBG.out w4).mono ?_; rintro e' w5 ⟨rfl, hb5⟩)
    go_ret
    exact ⟨rfl, (H4.out.next hb5).below⟩
end Go.Proofs.YtcnogokemilhnaaDoor
