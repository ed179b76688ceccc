/-
The walks of package apart: Touch, Clash.
-/
import Derived.Test.YthkeciodjomakaaDoorApartW2
namespace Go.Proofs.YthkeciodjomakaaDoor
open Go.RowKit Go.Cl
attribute [local go_sem ↓] Go.wp_at_zero Go.wp_at_succ

theorem apErr_zero {l : List Nd} {e : Edt} (h : apErr l e = 0) : checkD l = 0 ∧ edErr l e = 0 := by
  unfold apErr at h
  by_cases hc : checkD l = 0
  · rw [if_neg (by rw [hc]; simp)] at h; exact ⟨hc, h⟩
  · rw [if_pos hc] at h; exact absurd h hc
/-- What Touch leaves behind. -/
def TouPost (w : World) (l : List Nd) (e : Edt) (e' : Ending) (w' : World) : Prop :=
  Below w.heap.size w w' ∧ ((apErr l e ≠ 0 ∧ e' = .returned (.tuple #[.slice none 0 0, .int .i64 (apErr l e)])) ∨
    (apErr l e = 0 ∧ ∃ g n' c' t, e' = .returned (.tuple #[.slice (some ⟨g, 0, none⟩) n' c', .int .i64 0]) ∧ OwnF (tInt .i64) w' w.heap.size 3 (.slice (some ⟨g, 0, none⟩) n' c') n' t ∧ t.length ≤ 3 ∧ ∀ x, x ∈ t ↔ x ∈ touchD l e))
set_option maxRecDepth 100000 in
set_option maxHeartbeats 4000000 in
theorem touch_any (A : Option Addr) (n c : Nat) (l : List Nd) (q : Bool) (e : Edt) (Aa : Option Addr) (na ca : Nat) (Ak : Option Addr) (nk ck : Nat) (w : World) (B : Nat) (hl : Sl tNd w (lt B) A n c l) (hB : B ≤ w.heap.size) (he : EdtOk w (lt B) e Aa na ca Ak nk ck) :
    Calls Tryd.prog 12 #[.agg #[.slice A n c, .bool q], .agg (edtCells e Aa na ca Ak nk ck)] w (TouPost w l e) := by
  obtain ⟨wa, hwa⟩ : ∃ wa, wa = w.alloc (.cells #[.slice A n c, .bool q] 24) := ⟨_, rfl⟩
  obtain ⟨w0, hw0⟩ : ∃ w0, w0 = wa.alloc (.cells (edtCells e Aa na ca Ak nk ck) 30) := ⟨_, rfl⟩
  have za : wa.heap.size = w.heap.size + 1 := by rw [hwa]; exact World.size_alloc w _
  have z0 : w0.heap.size = w.heap.size + 2 := by rw [hw0, World.size_alloc, za]
  have hxa : wa.heap[w.heap.size]? = some (.cells #[.slice A n c, .bool q] 24 (0, 0)) := by rw [hwa]; exact heap_alloc_new w _
  have hbe : w0.heap[w.heap.size + 1]? = some (.cells (edtCells e Aa na ca Ak nk ck) 30 (0, 0)) := by rw [hw0, ← za]; exact heap_alloc_new wa _
  have hbd : w0.heap[w.heap.size]? = some (.cells #[.slice A n c, .bool q] 24 (0, 0)) := by rw [hw0, Lib.alloc_old _ _ _ (by omega)]; exact hxa
  have hb0 : Below w.heap.size w w0 := by rw [hw0, hwa]; exact ((Below.refl _ _).alloc (Nat.le_refl _) _).alloc (by simp) _
  have H0 : Hid (TB w B A n c q l (edtCells e Aa na ca Ak nk ck) w0) := ⟨hb0, hbd, hbe, hl.below hb0 hB, hB⟩
  have HE0 := Lib.hid (he.below hb0 hB)
  have HZ := Lib.hid z0
  have x0 := H0.out.c0
  have x1 := H0.out.c1
  have HX := Lib.hid (fun (u : World) (h : u.heap[w.heap.size + 1]? = some (.cells (edtCells e Aa na ca Ak nk ck) 30 (0, 0))) => show ∀ (i : Nat) v, (edtCells e Aa na ca Ak nk ck)[i]? = some v → u.cell? ⟨w.heap.size + 1, i, none⟩ = some v from fun i v hv => cell_blk h hv)
  have g0 := HX.out w0 hbe 0 _ rfl
  have g1 := HX.out w0 hbe 1 _ rfl
  have g2 := HX.out w0 hbe 2 _ rfl
  have g3 := HX.out w0 hbe 3 _ rfl
  have g4 := HX.out w0 hbe 4 _ rfl
  have g5 := HX.out w0 hbe 5 _ rfl
  have g6 := HX.out w0 hbe 6 _ rfl
  have g7 := HX.out w0 hbe 7 _ rfl
  have g8 := HX.out w0 hbe 8 _ rfl
  have g9 := HX.out w0 hbe 9 _ rfl
  have g10 := HX.out w0 hbe 10 _ rfl
  have g11 := HX.out w0 hbe 11 _ rfl
  have HAP := Lib.hid (apply_any A n c l q e Aa na ca Ak nk ck w0 B H0.out.doc (Nat.le_trans H0.out.le H0.out.below.size) HE0.out)
  have HBW : Hid (B ≤ w.heap.size) := hB
  clear za z0 hxa hbe hbd hb0 hl he hB
  go_enter Tryd.func12, Tryd.ntmps12
  unfold edtCells at *
  go_upto_region 1 with fail
  rw [← hwa, ← hw0]
  clear hwa hw0
  go_upto_region 2 with (go_at_call 13; refine HAP.out.mono ?_; rintro e' w1 ⟨hb1, ⟨her, rfl⟩ | ⟨her, A', c', rfl, _⟩⟩)
  · have t1 : (apErr l e != 0) = true := by simpa using her
    obtain ⟨w2, hw2⟩ : ∃ w2, w2 = w1.alloc (.cells #[.slice none 0 0, .bool false] 24) := ⟨_, rfl⟩
    have HB2 := Lib.hid (show Below w.heap.size w w2 by rw [hw2]; exact (H0.out.below.trans (hb1.mono H0.out.below.size)).alloc (Nat.le_trans H0.out.below.size hb1.size) _)
    obtain ⟨er, her2⟩ : ∃ er, apErr l e = er := ⟨_, rfl⟩
    have HR := Lib.hid her2
    have HER := Lib.hid her
    rw [her2] at t1
    rw [← hw2, her2]
    clear hw2 her her2 x0 x1 g0 g1 g2 g3 g4 g5 g6 g7 g8 g9 g10 g11 HAP hb1
    go_wp2_with fail
    exact bodyPost_ret (v := .tuple #[.slice none 0 0, .int .i64 er]) (by simp [results, Tryd.results12, go_sem]) rfl ⟨HB2.out, Or.inl ⟨HER.out, by rw [HR.out]⟩⟩
  · obtain ⟨hck, hed⟩ := apErr_zero her
    have hgd := good_of hck
    have HER := Lib.hid her
    obtain ⟨w2, hw2⟩ : ∃ w2, w2 = w1.alloc (.cells #[.slice A' (edDo l e).length c', .bool q] 24) := ⟨_, rfl⟩
    have hb2 : Below w0.heap.size w0 w2 := by rw [hw2]; exact hb1.alloc hb1.size _
    have H2 := Lib.hid (H0.out.next hb2 (by rw [HZ.out]; exact Nat.le_refl _))
    have HTC := Lib.hid (touched_any A n c l q e Aa na ca Ak nk ck w2 B H2.out.doc (Nat.le_trans H2.out.le H2.out.below.size) (HE0.out.below hb2 (Nat.le_trans HBW.out H0.out.below.size)) hgd hed)
    have y0 := H2.out.c0
    have y1 := H2.out.c1
    have k0 := HX.out w2 H2.out.ebox 0 _ rfl
    have k1 := HX.out w2 H2.out.ebox 1 _ rfl
    have k2 := HX.out w2 H2.out.ebox 2 _ rfl
    have k3 := HX.out w2 H2.out.ebox 3 _ rfl
    have k4 := HX.out w2 H2.out.ebox 4 _ rfl
    have k5 := HX.out w2 H2.out.ebox 5 _ rfl
    have k6 := HX.out w2 H2.out.ebox 6 _ rfl
    have k7 := HX.out w2 H2.out.ebox 7 _ rfl
    have k8 := HX.out w2 H2.out.ebox 8 _ rfl
    have k9 := HX.out w2 H2.out.ebox 9 _ rfl
    have k10 := HX.out w2 H2.out.ebox 10 _ rfl
    have k11 := HX.out w2 H2.out.ebox 11 _ rfl
    rw [← hw2]
    clear hw2 her hck hed hgd hb1 hb2 x0 x1 g0 g1 g2 g3 g4 g5 g6 g7 g8 g9 g10 g11 HAP
    go_wp2_with (go_at_call 37; refine HTC.out.mono ?_; rintro e' w3 ⟨g, n', c3, t, rfl, hb3, hown, hlen, hmem⟩)
    exact bodyPost_ret (v := .tuple #[.slice (some ⟨g, 0, none⟩) n' c3, .int .i64 0]) (by simp [results, Tryd.results12, go_sem]) rfl ⟨H2.out.below.trans (hb3.mono H2.out.below.size), Or.inr ⟨HER.out, g, n', c3, t, rfl, Own.down hown H2.out.below.size, hlen, hmem⟩⟩
theorem hasInt_any (A : Option Addr) (n c : Nat) (l : List Int) (x : Int) (w : World) (D : Nat → Prop) (hl : Sl (tInt .i64) w D A n c l) :
    Calls Tryd.prog 44 #[.slice A n c, .int .i64 x] w fun e w' => e = .returned (.bool (l.contains x)) ∧ w' = w := by
  rcases Nat.eq_zero_or_pos n with h0 | h0
  · subst h0
    obtain rfl : l = [] := List.eq_nil_of_length_eq_zero hl.hn.symm
    exact (Tryd.slices_Contains_int_empty A c x w).mono fun e w' h => ⟨by rw [h.1]; rfl, h.2⟩
  · obtain ⟨b, o, cells, rfl, hb, hr, hc⟩ := hl.at_ h0
    have hn := hl.hn
    refine (Tryd.slices_Contains_int b o n c l x w (by omega) (by have := hl.small; omega) (fun j hj => ?_)).mono fun e w' h => ⟨by rw [h.1, hn, List.take_length], h.2⟩
    obtain ⟨b', o', e, _, hcell, _⟩ := hl.int (List.getElem?_eq_getElem hj)
    simp only [Option.some.injEq, Addr.mk.injEq] at e
    obtain ⟨rfl, rfl, _⟩ := e
    rw [hcell, List.getD_eq_getElem?_getD, List.getElem?_eq_getElem hj]; rfl
/-- The closure of Clash. -/
theorem clashOne_any (g : Nat) (A : Option Addr) (n c : Nat) (l : List Int) (x : Int) (w : World) (D : Nat → Prop) (hl : Sl (tInt .i64) w D A n c l) (hg : w.cell? ⟨g, 0, none⟩ = some (.slice A n c)) :
    Calls Tryd.prog 43 #[.int .i64 x, .pointer (some ⟨g, 0, none⟩)] w fun e w' => e = .returned (.bool (l.contains x)) ∧ Below w.heap.size w w' := by
  have HC := Lib.hid (hasInt_any A n c l x w D hl)
  clear hl
  generalize l.contains x = r at *
  go_enter Tryd.func43, Tryd.ntmps43
  go_wp2_with (go_at_call 44; refine HC.out.mono ?_; rintro e w1 ⟨rfl, rfl⟩)
  go_ret
  exact ⟨rfl, Below.refl _ _⟩
/-- The boxes of Clash: the document, the one edit, the other. -/
structure CB (w : World) (B : Nat) (A : Option Addr) (k c : Nat) (q : Bool) (l : List Nd) (ce cf : Array Value) (u : World) : Prop where
  tb : TB w B A k c q l ce u
  fbox : u.heap[w.heap.size + 2]? = some (.cells cf 30 (0, 0))
theorem CB.next {w : World} {B : Nat} {A : Option Addr} {k c : Nat} {q : Bool} {l : List Nd} {ce cf : Array Value} {u u' : World} (h : CB w B A k c q l ce cf u) {b : Nat} (hb : Below b u u') (h2 : w.heap.size + 3 ≤ b) : CB w B A k c q l ce cf u' :=
  ⟨h.tb.next hb (by omega), (hb.block _ (by omega)).trans h.fbox⟩
set_option maxRecDepth 100000 in
set_option maxHeartbeats 4000000 in
theorem clash_any (A : Option Addr) (n c : Nat) (l : List Nd) (q : Bool) (e : Edt) (Aa : Option Addr) (na ca : Nat) (Ak : Option Addr) (nk ck : Nat) (f : Edt) (Ab : Option Addr) (nb cb : Nat) (Aj : Option Addr) (nj cj : Nat) (w : World) (B : Nat) (hl : Sl tNd w (lt B) A n c l) (hB : B ≤ w.heap.size) (he : EdtOk w (lt B) e Aa na ca Ak nk ck) (hf : EdtOk w (lt B) f Ab nb cb Aj nj cj) :
    Calls Tryd.prog 16 #[.agg #[.slice A n c, .bool q], .agg (edtCells e Aa na ca Ak nk ck), .agg (edtCells f Ab nb cb Aj nj cj)] w fun e' w' => e' = .returned (.tuple #[.bool (clS l e f).1, .int .i64 (clS l e f).2]) ∧ Below w.heap.size w w' := by
  obtain ⟨wa, hwa⟩ : ∃ wa, wa = w.alloc (.cells #[.slice A n c, .bool q] 24) := ⟨_, rfl⟩
  obtain ⟨wb, hwb⟩ : ∃ wb, wb = wa.alloc (.cells (edtCells e Aa na ca Ak nk ck) 30) := ⟨_, rfl⟩
  obtain ⟨w0, hw0⟩ : ∃ w0, w0 = wb.alloc (.cells (edtCells f Ab nb cb Aj nj cj) 30) := ⟨_, rfl⟩
  have za : wa.heap.size = w.heap.size + 1 := by rw [hwa]; exact World.size_alloc w _
  have zb : wb.heap.size = w.heap.size + 2 := by rw [hwb, World.size_alloc, za]
  have z0 : w0.heap.size = w.heap.size + 3 := by rw [hw0, World.size_alloc, zb]
  have hxa : wa.heap[w.heap.size]? = some (.cells #[.slice A n c, .bool q] 24 (0, 0)) := by rw [hwa]; exact heap_alloc_new w _
  have hxb : wb.heap[w.heap.size + 1]? = some (.cells (edtCells e Aa na ca Ak nk ck) 30 (0, 0)) := by rw [hwb, ← za]; exact heap_alloc_new wa _
  have hbf : w0.heap[w.heap.size + 2]? = some (.cells (edtCells f Ab nb cb Aj nj cj) 30 (0, 0)) := by rw [hw0, ← zb]; exact heap_alloc_new wb _
  have hbe : w0.heap[w.heap.size + 1]? = some (.cells (edtCells e Aa na ca Ak nk ck) 30 (0, 0)) := by rw [hw0, Lib.alloc_old _ _ _ (by omega)]; exact hxb
  have hbd : w0.heap[w.heap.size]? = some (.cells #[.slice A n c, .bool q] 24 (0, 0)) := by rw [hw0, Lib.alloc_old _ _ _ (by omega), hwb, Lib.alloc_old _ _ _ (by omega)]; exact hxa
  have hb0 : Below w.heap.size w w0 := by rw [hw0, hwb, hwa]; exact (((Below.refl _ _).alloc (Nat.le_refl _) _).alloc (by simp) _).alloc (by simp; omega) _
  have H0 : Hid (CB w B A n c q l (edtCells e Aa na ca Ak nk ck) (edtCells f Ab nb cb Aj nj cj) w0) := ⟨⟨hb0, hbd, hbe, hl.below hb0 hB, hB⟩, hbf⟩
  have HE0 := Lib.hid (he.below hb0 hB)
  have HF0 := Lib.hid (hf.below hb0 hB)
  have HZ := Lib.hid z0
  have HBW : Hid (B ≤ w.heap.size) := hB
  have x0 := H0.out.tb.c0
  have x1 := H0.out.tb.c1
  have HX := Lib.hid (fun (u : World) (h : u.heap[w.heap.size + 1]? = some (.cells (edtCells e Aa na ca Ak nk ck) 30 (0, 0))) => show ∀ (i : Nat) v, (edtCells e Aa na ca Ak nk ck)[i]? = some v → u.cell? ⟨w.heap.size + 1, i, none⟩ = some v from fun i v hv => cell_blk h hv)
  have HY := Lib.hid (fun (u : World) (h : u.heap[w.heap.size + 2]? = some (.cells (edtCells f Ab nb cb Aj nj cj) 30 (0, 0))) => show ∀ (i : Nat) v, (edtCells f Ab nb cb Aj nj cj)[i]? = some v → u.cell? ⟨w.heap.size + 2, i, none⟩ = some v from fun i v hv => cell_blk h hv)
  have g0 := HX.out w0 hbe 0 _ rfl
  have g1 := HX.out w0 hbe 1 _ rfl
  have g2 := HX.out w0 hbe 2 _ rfl
  have g3 := HX.out w0 hbe 3 _ rfl
  have g4 := HX.out w0 hbe 4 _ rfl
  have g5 := HX.out w0 hbe 5 _ rfl
  have g6 := HX.out w0 hbe 6 _ rfl
  have g7 := HX.out w0 hbe 7 _ rfl
  have g8 := HX.out w0 hbe 8 _ rfl
  have g9 := HX.out w0 hbe 9 _ rfl
  have g10 := HX.out w0 hbe 10 _ rfl
  have g11 := HX.out w0 hbe 11 _ rfl
  have HTE := Lib.hid (touch_any A n c l q e Aa na ca Ak nk ck w0 B H0.out.tb.doc (Nat.le_trans H0.out.tb.le H0.out.tb.below.size) HE0.out)
  clear za zb z0 hxa hxb hbe hbd hbf hb0 hl he hf hB
  go_enter Tryd.func16, Tryd.ntmps16
  unfold edtCells at *
  go_upto_region 1 with fail
  rw [← hwa, ← hwb, ← hw0]
  clear hwa hwb hw0
  go_upto_region 2 with (go_at_call 12; refine HTE.out.mono ?_; rintro e' w1 ⟨hb1, ⟨her, rfl⟩ | ⟨her, g, n1, c1, t, rfl, hown, hlen, hmem⟩⟩)
  · have t1 : (apErr l e != 0) = true := by simpa using her
    have HR := Lib.hid (show clS l e f = (false, apErr l e) from by unfold clS; rw [if_pos her])
    have HB1 := Lib.hid (H0.out.tb.below.trans (hb1.mono H0.out.tb.below.size))
    obtain ⟨er, her2⟩ : ∃ er, apErr l e = er := ⟨_, rfl⟩
    rw [her2] at t1 HR
    rw [her2]
    clear her her2 x0 x1 g0 g1 g2 g3 g4 g5 g6 g7 g8 g9 g10 g11 HTE hb1
    go_wp2_with fail
    exact bodyPost_ret (v := .tuple #[.bool false, .int .i64 er]) (by simp [results, Tryd.results16, go_sem]) rfl ⟨by rw [HR.out], HB1.out⟩
  · have HER := Lib.hid her
    have H1 := Lib.hid (H0.out.next hb1 (by rw [HZ.out]; exact Nat.le_refl _))
    have HO1 := Lib.hid hown
    have HM1 := Lib.hid hmem
    have HL1 : Hid (n1 ≤ 3) := by have := Own.len hown (by decide); show n1 ≤ 3; omega
    have HTF := Lib.hid (touch_any A n c l q f Ab nb cb Aj nj cj w1 B H1.out.tb.doc (Nat.le_trans H1.out.tb.le H1.out.tb.below.size) (HF0.out.below hb1 (Nat.le_trans HBW.out H0.out.tb.below.size)))
    have y0 := H1.out.tb.c0
    have y1 := H1.out.tb.c1
    have k0 := HY.out w1 H1.out.fbox 0 _ rfl
    have k1 := HY.out w1 H1.out.fbox 1 _ rfl
    have k2 := HY.out w1 H1.out.fbox 2 _ rfl
    have k3 := HY.out w1 H1.out.fbox 3 _ rfl
    have k4 := HY.out w1 H1.out.fbox 4 _ rfl
    have k5 := HY.out w1 H1.out.fbox 5 _ rfl
    have k6 := HY.out w1 H1.out.fbox 6 _ rfl
    have k7 := HY.out w1 H1.out.fbox 7 _ rfl
    have k8 := HY.out w1 H1.out.fbox 8 _ rfl
    have k9 := HY.out w1 H1.out.fbox 9 _ rfl
    have k10 := HY.out w1 H1.out.fbox 10 _ rfl
    have k11 := HY.out w1 H1.out.fbox 11 _ rfl
    clear her hb1 hown hlen hmem x0 x1 g0 g1 g2 g3 g4 g5 g6 g7 g8 g9 g10 g11 HTE
    go_upto_region 5 with (go_at_call 12; refine HTF.out.mono ?_; rintro e' w2 ⟨hb2, ⟨hfr, rfl⟩ | ⟨hfr, g', n2, c2, t', rfl, hown2, hlen2, hmem2⟩⟩)
    · have t1 : (apErr l f != 0) = true := by simpa using hfr
      have HR := Lib.hid (show clS l e f = (false, apErr l f) from by unfold clS; rw [if_neg (by rw [HER.out]; simp), if_pos hfr])
      obtain ⟨w3, hw3⟩ : ∃ w3, w3 = w2.alloc (.cells #[.slice none 0 0] 26) := ⟨_, rfl⟩
      have HB3 := Lib.hid (show Below w.heap.size w w3 by rw [hw3]; exact (H1.out.tb.below.trans (hb2.mono H1.out.tb.below.size)).alloc (Nat.le_trans H1.out.tb.below.size hb2.size) _)
      obtain ⟨er, her2⟩ : ∃ er, apErr l f = er := ⟨_, rfl⟩
      rw [her2] at t1 HR
      rw [← hw3, her2]
      clear hw3 hfr her2 y0 y1 k0 k1 k2 k3 k4 k5 k6 k7 k8 k9 k10 k11 HTF hb2
      go_wp2_with fail
      exact bodyPost_ret (v := .tuple #[.bool false, .int .i64 er]) (by simp [results, Tryd.results16, go_sem]) rfl ⟨by rw [HR.out], HB3.out⟩
    · have HR := Lib.hid (show clS l e f = (clB l e f, 0) from by unfold clS; rw [if_neg (by rw [HER.out]; simp), if_neg (by rw [hfr]; simp)])
      obtain ⟨w3, hw3⟩ : ∃ w3, w3 = w2.alloc (.cells #[.slice (some ⟨g', 0, none⟩) n2 c2] 26) := ⟨_, rfl⟩
      have hbx : w3.heap[w2.heap.size]? = some (.cells #[.slice (some ⟨g', 0, none⟩) n2 c2] 26 (0, 0)) := by rw [hw3]; exact heap_alloc_new w2 _
      have hb13 : Below w1.heap.size w1 w3 := by rw [hw3]; exact hb2.alloc hb2.size _
      have hs1 := OwnF.sl (OwnF.below HO1.out hb13 (Nat.le_refl _)) (by decide) (by have := HL1.out; show n1 * 8 ≤ _; omega)
      obtain ⟨A1, d1, e1, hs1⟩ := hs1
      injection e1 with e1 _ e3
      subst e1 e3
      have hn2 : n2 ≤ 3 := by have := Own.len hown2 (by decide); omega
      obtain ⟨A2, d2, e2, hs2⟩ := OwnF.sl hown2 (by decide) (by show n2 * 8 ≤ _; omega)
      injection e2 with e2 _ e4
      subst e2 e4
      have hb23 : Below w2.heap.size w2 w3 := by rw [hw3]; exact (Below.refl _ _).alloc (Nat.le_refl _) _
      have HAN := Lib.hid (anyInt w2.heap.size (some ⟨g, 0, none⟩) n1 c1 t (fun x => t'.contains x) w3 w3.heap.size hs1 (Nat.le_refl _) (fun W hW x hx => by
        have hbxW := (hW.block w2.heap.size (Array.getElem?_eq_some_iff.1 hbx).1).trans hbx
        exact clashOne_any w2.heap.size (some ⟨g', 0, none⟩) n2 c2 t' x W _ ((hs2.below hb23 (Nat.le_refl _)).below hW hb23.size) (cell_blk hbxW rfl)))
      have HQ := Lib.hid (show (t.any fun x => t'.contains x) = clB l e f from by
        unfold clB
        have h2 : ∀ x : Int, t'.contains x = decide (x ∈ touchD l f) := fun x => by
          rw [Bool.eq_iff_iff, decide_eq_true_iff, ← hmem2 x]
          exact List.contains_iff_mem
        simp only [h2]
        exact any_mem _ HM1.out)
      generalize (t.any fun x => t'.contains x) = r at *
      have HB3 := Lib.hid (H1.out.tb.below.trans (hb13.mono H1.out.tb.below.size))
      rw [← hw3]
      clear hw3 hbx hb13 hb23 hs1 hs2 hown2 hmem2 hfr hb2 y0 y1 k0 k1 k2 k3 k4 k5 k6 k7 k8 k9 k10 k11 HTF
      go_wp2_with (go_at_call 42; refine HAN.out.mono ?_; rintro e' w4 ⟨rfl, hb4⟩)
      exact bodyPost_ret (v := .tuple #[.bool r, .int .i64 0]) (by simp [results, Tryd.results16, go_sem]) rfl ⟨by rw [HR.out, HQ.out], HB3.out.trans (hb4.mono HB3.out.size)⟩
end Go.Proofs.YthkeciodjomakaaDoor
