/-
The walk of dom.Apply: one edit of a document.
-/
import Derived.Test.YtmemadajjmmlpaaDoorEdOwn
import Derived.Test.YtmemadajjmmlpaaDoorEdWalk8
namespace Go.Proofs.YtmemadajjmmlpaaDoor
open Go.RowKit Go.Cl
attribute [local go_sem ↓] Go.wp_at_zero Go.wp_at_succ

/-- Between two blocks' numbers. -/
def rg (a b : Nat) : Nat → Prop := fun k => a ≤ k ∧ k < b
theorem OwnF.slr {α : Type} {T : Ty α} {w : World} {base : Nat} {e : TypeId} {v : Value} {n : Nat} {xs : List α} (h : OwnF T w base e v n xs) (hpos : 0 < T.size) (hn : n * T.bytes ≤ 140737488355328) : ∃ A c, v = .slice A n c ∧ Sl T w (rg base w.heap.size) A n c xs := by
  obtain ⟨A, c, rfl⟩ := Own.form h
  exact ⟨A, c, rfl, (Own.sl h hpos hn).more fun b hb => hb.elim False.elim id⟩
theorem ed_rows2 {w : World} {base : Nat} {D : Nat → Prop} : ∀ (l : List Nd) (ps : List (Value × Value)) (cells : List Value), ps.length = l.length → (∀ (i : Nat) x p, l[i]? = some x → ps[i]? = some p → Parts w base x p) → Row tN6 w D (List.zipWith ndRow l ps) cells → Row tNd w (rg base w.heap.size) l cells := by
  intro l
  induction l with
  | nil =>
    intro ps cells _ _ h
    exact h
  | cons x l ih =>
    intro ps cells hl hp h
    cases ps with
    | nil => simp at hl
    | cons p ps =>
      obtain ⟨c1, c2, rfl, ⟨rfl, _⟩, h2⟩ := h
      have hP := hp 0 x p rfl rfl
      obtain ⟨Aa, ca, ea, sa⟩ := OwnF.slr hP.attrs (by decide) (by have := hP.ok.attrs; show x.attrs.length * 32 ≤ _; omega)
      obtain ⟨Ak, ck, ek, sk⟩ := OwnF.slr hP.kids (by decide) (by have := hP.ok.kids; show x.kids.length * 8 ≤ _; omega)
      refine ⟨ndRow x p, c2, rfl, ?_, ih ps c2 (by simpa using hl) (fun i y q hy hq => hp (i + 1) y q (by simpa using hy) (by simpa using hq)) h2⟩
      unfold ndRow
      rw [ea, ek]
      exact nd_rep ⟨sa, sk, hP.ok.kind, hP.ok.name, hP.ok.text, hP.ok.parent⟩
theorem Ed.slr {w : World} {base : Nat} {l : List Nd} {ps : List (Value × Value)} {A0 : Option Addr} {n c : Nat} (h : Ed w base (.slice A0 n c) l ps) : Sl tNd w (rg base w.heap.size) A0 n c l := by
  have hrow := h.row
  have hn : n = l.length := by
    obtain ⟨_, h3, _⟩ := hrow
    rcases h3.2 with ⟨hv, h4⟩ | ⟨g', cap, cur, hv, _⟩
    · injection hv with _ hv _
      omega
    · injection hv
  subst hn
  have hs := Own.sl hrow (by decide) (by have := h.few; show l.length * 96 ≤ _; omega)
  refine ⟨rfl, hs.hc, by have := h.few; show l.length * 96 ≤ _; omega, hs.hm, hs.nil_, fun h0 => ?_⟩
  obtain ⟨b, o, cells, e, hD, hr, hc⟩ := hs.at_ h0
  refine ⟨b, o, cells, e, ?_, ed_rows2 l ps cells h.len h.parts hr, hc⟩
  rcases hD with hD | hD
  · exact hD.elim
  · exact hD
/-- What lies elsewhere turns. -/
theorem sl_far {α : Type} {T : Ty α} {w : World} {a b O : Nat} {A : Option Addr} {n c : Nat} {xs : List α} (h : Sl T w (rg a b) A n c xs) (hO : O < a) (i : Nat) (v : Value) : Sl T (w.setCell ⟨O, i, none⟩ v) (rg a b) A n c xs :=
  h.keep fun p hp => World.cell?_setCell_other w _ p v (fun e => by
    have h1 := hp.1
    rw [← e] at h1
    have h2 : a ≤ O := h1
    omega)
theorem Sl.ltr {α : Type} {T : Ty α} {w : World} {a b : Nat} {A : Option Addr} {n c : Nat} {xs : List α} (h : Sl T w (rg a b) A n c xs) : Sl T w (lt b) A n c xs := h.more fun _ hb => hb.2
theorem Sl.rgd {α : Type} {T : Ty α} {w : World} {a a' b b' : Nat} {A : Option Addr} {n c : Nat} {xs : List α} (h : Sl T w (rg a b) A n c xs) (ha : a' ≤ a) (hb : b ≤ b') : Sl T w (rg a' b') A n c xs := h.more fun _ hk => ⟨Nat.le_trans ha hk.1, Nat.lt_of_lt_of_le hk.2 hb⟩
def apErr (l : List Nd) (e : Edt) : Int := if checkD l ≠ 0 then checkD l else edErr l e
/-- What Apply leaves behind. -/
def ApPost (w : World) (l : List Nd) (q : Bool) (e : Edt) (e' : Ending) (w' : World) : Prop :=
  Below w.heap.size w w' ∧ ((apErr l e ≠ 0 ∧ e' = .returned (.tuple #[.agg #[.slice none 0 0, .bool false], .int .i64 0, .int .i64 (apErr l e)])) ∨
    (apErr l e = 0 ∧ ∃ A' c', e' = .returned (.tuple #[.agg #[.slice A' (edDo l e).length c', .bool q], .int .i64 (edMade l 0 e), .int .i64 0]) ∧ Sl tNd w' (rg w.heap.size w'.heap.size) A' (edDo l e).length c' (edDo l e)))
theorem Good.mods {l : List Nd} (h : Good l) : ∀ x ∈ l, Mod x := fun x hx => by
  obtain ⟨m, hm⟩ := List.mem_iff_getElem?.1 hx
  have h1 := h.kids_few hm
  exact ⟨((nodeE_iff x).1 (h.each x hx)).2.2.1.few, by omega⟩
/-- A document in its box, a place for a result, in a later world. -/
structure RB (w : World) (B : Nat) (A : Option Addr) (k c : Nat) (q : Bool) (l : List Nd) (hd hr : Nat) (u : World) : Prop where
  below : Below w.heap.size w u
  box : u.heap[hd]? = some (.cells #[.slice A k c, .bool q] 24 (0, 0))
  res : u.heap[hr]? = some (.cells #[.slice none 0 0, .bool false] 24 (0, 0))
  doc : Sl tNd u (lt B) A k c l
  le : B ≤ u.heap.size
section
variable {w : World} {B : Nat} {A : Option Addr} {k c : Nat} {q : Bool} {l : List Nd} {hd hr : Nat} {u u' : World}
theorem RB.next (h : RB w B A k c q l hd hr u) {b : Nat} (hb : Below b u u') (hw : w.heap.size ≤ b) (h1 : hd < b) (h2 : hr < b) (hB : B ≤ b) : RB w B A k c q l hd hr u' :=
  ⟨h.below.trans (hb.mono hw), (hb.block _ h1).trans h.box, (hb.block _ h2).trans h.res, h.doc.below hb hB, Nat.le_trans h.le hb.size⟩
end
set_option maxRecDepth 100000 in
set_option maxHeartbeats 4000000 in
theorem apply_any (A : Option Addr) (n c : Nat) (l : List Nd) (q : Bool) (e : Edt) (Aa : Option Addr) (na ca : Nat) (Ak : Option Addr) (nk ck : Nat) (w : World) (B : Nat) (hl : Sl tNd w (lt B) A n c l) (hB : B ≤ w.heap.size) (he : EdtOk w (lt B) e Aa na ca Ak nk ck) :
    Calls Tryd.prog 25 #[.agg #[.slice A n c, .bool q], .agg (edtCells e Aa na ca Ak nk ck)] w (ApPost w l q e) := by
  obtain ⟨wa, hwa⟩ : ∃ wa, wa = w.alloc (.cells #[.slice A n c, .bool q] 24) := ⟨_, rfl⟩
  obtain ⟨wb, hwb⟩ : ∃ wb, wb = wa.alloc (.cells (edtCells e Aa na ca Ak nk ck) 59) := ⟨_, rfl⟩
  obtain ⟨w0, hw0⟩ : ∃ w0, w0 = wb.alloc (.cells #[.slice none 0 0, .bool false] 24) := ⟨_, rfl⟩
  have za : wa.heap.size = w.heap.size + 1 := by rw [hwa]; exact World.size_alloc w _
  have zb : wb.heap.size = w.heap.size + 2 := by rw [hwb, World.size_alloc, za]
  have z0 : w0.heap.size = w.heap.size + 3 := by rw [hw0, World.size_alloc, zb]
  have hxa : wa.heap[w.heap.size]? = some (.cells #[.slice A n c, .bool q] 24 (0, 0)) := by rw [hwa]; exact heap_alloc_new w _
  have hxb : wb.heap[w.heap.size + 1]? = some (.cells (edtCells e Aa na ca Ak nk ck) 59 (0, 0)) := by rw [hwb, ← za]; exact heap_alloc_new wa _
  have hx0 : w0.heap[w.heap.size + 2]? = some (.cells #[.slice none 0 0, .bool false] 24 (0, 0)) := by rw [hw0, ← zb]; exact heap_alloc_new wb _
  have hbd : w0.heap[w.heap.size]? = some (.cells #[.slice A n c, .bool q] 24 (0, 0)) := by rw [hw0, Lib.alloc_old _ _ _ (by omega), hwb, Lib.alloc_old _ _ _ (by omega)]; exact hxa
  have hbe : w0.heap[w.heap.size + 1]? = some (.cells (edtCells e Aa na ca Ak nk ck) 59 (0, 0)) := by rw [hw0, Lib.alloc_old _ _ _ (by omega)]; exact hxb
  have hb0 : Below w.heap.size w w0 := by rw [hw0, hwb, hwa]; exact (((Below.refl _ _).alloc (Nat.le_refl _) _).alloc (by simp) _).alloc (by simp; omega) _
  have H0 : Hid (RB w B A n c q l w.heap.size (w.heap.size + 1 + 1) w0) := ⟨hb0, hbd, hx0, hl.below hb0 hB, Nat.le_trans hB hb0.size⟩
  have HBE := Lib.hid hbe
  have HE := Lib.hid he
  have HZ := Lib.hid z0
  have HN := Lib.hid hl.hn
  have HBW : Hid (B ≤ w.heap.size) := hB
  clear za zb z0 hxa hxb hx0 hbd hbe hb0 hl he hB
  go_enter Tryd.func25, Tryd.ntmps25
  unfold edtCells at *
  go_upto_region 1 with fail
  rw [← hwa, ← hwb, ← hw0]
  clear hwa hwb hw0
  have x0 := cell_blk (i := 0) H0.out.box rfl
  have x1 := cell_blk (i := 1) H0.out.box rfl
  have HCK := Lib.hid (check_dom A n c l q w0 B H0.out.doc H0.out.le)
  by_cases hck : checkD l = 0
  · have hgood := good_of hck
    have HG := Lib.hid hgood
    have HAE := Lib.hid (show apErr l e = edErr l e from by unfold apErr; rw [if_neg (by simpa using hck)])
    rw [hck] at HCK
    have hpos := hgood.pos
    have hsm := hgood.small
    have HMD := Lib.hid hgood.mods
    clear hck hgood
    go_upto_region 4 with (go_at_call 24; refine HCK.out.mono ?_; rintro e' w1 ⟨rfl, hb1⟩)
    have hz := HZ.out
    have H1 := Lib.hid (H0.out.next hb1 (by omega) (by omega) (by omega) H0.out.le)
    have HE1 := Lib.hid ((hb1.block _ (by omega)).trans HBE.out)
    have HEO1 := Lib.hid ((HE.out.below H0.out.below HBW.out).below hb1 H0.out.le)
    have y0 := cell_blk (i := 0) H1.out.box rfl
    have y1 := cell_blk (i := 1) H1.out.box rfl
    have HOW := Lib.hid (own_any A n c l q w1 B H1.out.doc H1.out.le (by have := HN.out; omega) (by have := HN.out; omega) HMD.out)
    have HZ1 : Hid (w.heap.size + 3 ≤ w1.heap.size) := by have := hb1.size; show _ ≤ _; omega
    clear hz hb1 x0 x1 HCK HMD
    go_upto_region 5 with (go_at_call 50; refine HOW.out.mono ?_; rintro e' w2 ⟨g, c', ps, rfl, hb2, hed, hnc⟩)
    obtain ⟨w3, hw3⟩ : ∃ w3, w3 = w2.alloc (.cells #[.slice (some ⟨g, 0, none⟩) n c', .bool q, .int .i64 0] 100) := ⟨_, rfl⟩
    rw [← hw3]
    have hb3 : Below w1.heap.size w1 w3 := by rw [hw3]; exact hb2.alloc hb2.size _
    have hx3 : w3.heap[w2.heap.size]? = some (.cells #[.slice (some ⟨g, 0, none⟩) n c', .bool q, .int .i64 0] 100 (0, 0)) := by rw [hw3]; exact heap_alloc_new w2 _
    have hne3 : Ed w3 w1.heap.size (.slice (some ⟨g, 0, none⟩) n c') l ps := by rw [hw3]; exact hed.next ((Below.refl _ _).alloc (Nat.le_refl _) _)
    have HN' := HN.out
    have HAT : Hid (EdAt w3 w2.heap.size g c' w1.heap.size l q 0 ps) := ⟨by rw [← HN']; exact hx3, by rw [← HN']; exact hne3, hb2.size, hpos, by omega⟩
    have hz1 := HZ1.out
    have H3 := Lib.hid (H1.out.next hb3 (by omega) (by omega) (by omega) H1.out.le)
    have HE3 := Lib.hid ((hb3.block _ (by omega)).trans HE1.out)
    have HEO3 := Lib.hid (HEO1.out.below hb3 H1.out.le)
    have HED := Lib.hid (edit_any w3 w2.heap.size g c' w1.heap.size l q 0 ps e Aa na ca Ak nk ck HAT.out HG.out ⟨HEO3.out.node.up H1.out.le, HEO3.out.at_, HEO3.out.to_, HEO3.out.before, HEO3.out.name, HEO3.out.value⟩)
    have HB3 := Lib.hid hb3
    have HSZ3 : Hid (w1.heap.size ≤ w3.heap.size) := hb3.size
    have e0 : w3.cell? ⟨w.heap.size + 1, 0, none⟩ = some (.int .i64 e.do_) := cell_blk HE3.out rfl
    have e1 : w3.cell? ⟨w.heap.size + 1, 1, none⟩ = some (.int .i64 e.at_) := cell_blk HE3.out rfl
    have e2 : w3.cell? ⟨w.heap.size + 1, 2, none⟩ = some (.int .i64 e.to_) := cell_blk HE3.out rfl
    have e3 : w3.cell? ⟨w.heap.size + 1, 3, none⟩ = some (.int .i64 e.before) := cell_blk HE3.out rfl
    have e4 : w3.cell? ⟨w.heap.size + 1, 4, none⟩ = some (.string e.name) := cell_blk HE3.out rfl
    have e5 : w3.cell? ⟨w.heap.size + 1, 5, none⟩ = some (.string e.value) := cell_blk HE3.out rfl
    have e6 : w3.cell? ⟨w.heap.size + 1, 6, none⟩ = some (.int .i64 e.node.kind) := cell_blk HE3.out rfl
    have e7 : w3.cell? ⟨w.heap.size + 1, 7, none⟩ = some (.string e.node.name) := cell_blk HE3.out rfl
    have e8 : w3.cell? ⟨w.heap.size + 1, 8, none⟩ = some (.slice Aa na ca) := cell_blk HE3.out rfl
    have e9 : w3.cell? ⟨w.heap.size + 1, 9, none⟩ = some (.string e.node.text) := cell_blk HE3.out rfl
    have e10 : w3.cell? ⟨w.heap.size + 1, 10, none⟩ = some (.int .i64 e.node.parent) := cell_blk HE3.out rfl
    have e11 : w3.cell? ⟨w.heap.size + 1, 11, none⟩ = some (.slice Ak nk ck) := cell_blk HE3.out rfl
    clear hb2 hed hw3 hb3 hx3 hne3 HN' hz1 y0 y1 hnc hpos hsm HOW
    unfold edtCells at HED
    by_cases hee : edErr l e = 0
    · have HR := Lib.hid (HAE.out.trans hee)
      rw [hee] at HED
      clear hee
      go_upto_region 8 with (go_at_call 51; refine HED.out.mono ?_; rintro e' w4 ⟨rfl, hb4, hp4⟩)
      obtain ⟨g4, c4, ps4, hat4⟩ := hp4 trivial
      have hz1 := HZ1.out
      have H4 := Lib.hid (H3.out.next hb4 (by omega) (by omega) (by omega) H1.out.le)
      have s0 := hat4.c0
      have s1 := hat4.c1
      have s2 := hat4.c2
      have r0 := cell_blk (i := 0) H4.out.res rfl
      have r1 := cell_blk (i := 1) H4.out.res rfl
      have q0 := free_blk (i := 0) H4.out.res
      have q1 := free_blk (i := 1) H4.out.res
      have hEr : w.heap.size + 1 + 1 ≠ w2.heap.size := by have := hat4.le; omega
      have HEr := Lib.hid hEr
      have HAT4 := Lib.hid hat4
      have HB4 := Lib.hid hb4
      clear hat4 hb4 hp4 hz1 hEr e0 e1 e2 e3 e4 e5 e6 e7 e8 e9 e10 e11 HED
      obtain ⟨l', hl'⟩ : ∃ l', edDo l e = l' := ⟨_, rfl⟩
      obtain ⟨md, hmd⟩ : ∃ md, edMade l 0 e = md := ⟨_, rfl⟩
      rw [hl', hmd] at HAT4
      rw [hl'] at s0
      rw [hmd] at s2
      have HL' := Lib.hid hl'
      have HMD' := Lib.hid hmd
      clear hl' hmd
      go_region_held3 (fun w' => w'.cell? ⟨w2.heap.size, 0, none⟩ = some (.slice (some ⟨g4, 0, none⟩) l'.length c4) ∧ w'.cell? ⟨w2.heap.size, 1, none⟩ = some (.bool q) ∧ w'.cell? ⟨w2.heap.size, 2, none⟩ = some (.int .i64 md)) (first | exact ⟨s0, s1, s2⟩ | exact ⟨cell_far HEr.out (cell_far HEr.out s0 _) _, cell_far HEr.out (cell_far HEr.out s1 _) _, cell_far HEr.out (cell_far HEr.out s2 _) _⟩ | go_keep) (fail)
      have hres1 := set_blk (i := 0) H4.out.res (.slice (some ⟨g4, 0, none⟩) l'.length c4)
      have hres2 := set_blk (i := 1) hres1 (.bool q)
      have t0 := cell_blk (i := 0) (v := .slice (some ⟨g4, 0, none⟩) l'.length c4) hres2 rfl
      have t1 := cell_blk (i := 1) (v := .bool q) hres2 rfl
      have hed5 := ((HAT4.out.ed.other H4.out.res (by decide) (by decide) (by decide) (grown_set w4 _ 0 (.slice (some ⟨g4, 0, none⟩) l'.length c4))).other hres1 (by decide) (by decide) (by decide) (grown_set _ _ 1 (.bool q))).next ((Below.refl _ _).drew)
      have HSL5 := Lib.hid (Sl.rgd hed5.slr (by have := HZ1.out; omega : w.heap.size ≤ w1.heap.size) (Nat.le_refl _))
      have HB5 := Lib.hid ((H4.out.below.setCell (p := ⟨w.heap.size + 1 + 1, 0, none⟩) (by show w.heap.size ≤ w.heap.size + 1 + 1; omega) (.slice (some ⟨g4, 0, none⟩) l'.length c4)).setCell (p := ⟨w.heap.size + 1 + 1, 1, none⟩) (by show w.heap.size ≤ w.heap.size + 1 + 1; omega) (.bool q)).drew
      clear hres1 hres2 hed5
      go_wp2_with fail
      refine bodyPost_ret (v := .tuple #[.agg #[.slice (some ⟨g4, 0, none⟩) l'.length c4, .bool q], .int .i64 md, .int .i64 0]) (by simp [results, Tryd.results25, go_sem, t0, t1]) rfl ⟨HB5.out, Or.inr ⟨HR.out, some ⟨g4, 0, none⟩, c4, ?_, ?_⟩⟩
      · rw [HL'.out, HMD'.out]
      · rw [HL'.out]
        exact HSL5.out
    · have HR := Lib.hid (show apErr l e ≠ 0 from by rw [HAE.out]; exact hee)
      have hee1 : (edErr l e != 0) = true := by simpa using hee
      clear hee
      generalize edErr l e = er at *
      go_upto_region 7 with (go_at_call 51; refine HED.out.mono ?_; rintro e' w4 ⟨rfl, hb4, hp4⟩)
      have hz1 := HZ1.out
      have H4 := Lib.hid (H3.out.next hb4 (by omega) (by omega) (by omega) H1.out.le)
      have r0 := cell_blk (i := 0) H4.out.res rfl
      have r1 := cell_blk (i := 1) H4.out.res rfl
      have q0 := free_blk (i := 0) H4.out.res
      have q1 := free_blk (i := 1) H4.out.res
      have hres1 := set_blk (i := 0) H4.out.res (.slice none 0 0)
      have hres2 := set_blk (i := 1) hres1 (.bool false)
      have t0 := cell_blk (i := 0) (v := .slice none 0 0) hres2 rfl
      have t1 := cell_blk (i := 1) (v := .bool false) hres2 rfl
      have HB5 := Lib.hid ((H4.out.below.setCell (p := ⟨w.heap.size + 1 + 1, 0, none⟩) (by show w.heap.size ≤ w.heap.size + 1 + 1; omega) (.slice none 0 0)).setCell (p := ⟨w.heap.size + 1 + 1, 1, none⟩) (by show w.heap.size ≤ w.heap.size + 1 + 1; omega) (.bool false))
      clear hz1 hb4 hp4 hres1 hres2 e0 e1 e2 e3 e4 e5 e6 e7 e8 e9 e10 e11 HED
      go_wp2_with fail
      refine bodyPost_ret (v := .tuple #[.agg #[.slice none 0 0, .bool false], .int .i64 0, .int .i64 er]) (by simp [results, Tryd.results25, go_sem, t0, t1]) rfl ⟨HB5.out, Or.inl ⟨HR.out, ?_⟩⟩
      rw [HAE.out]
  · have hcc : apErr l e = checkD l := by unfold apErr; rw [if_pos hck]
    have HCC := Lib.hid hcc
    have HR := Lib.hid (show apErr l e ≠ 0 from by rw [hcc]; exact hck)
    have hck1 : (checkD l != 0) = true := by simpa using hck
    clear hck hcc
    generalize checkD l = er at *
    go_upto_region 3 with (go_at_call 24; refine HCK.out.mono ?_; rintro e' w1 ⟨rfl, hb1⟩)
    have hz := HZ.out
    have H4 := Lib.hid (H0.out.next hb1 (by omega) (by omega) (by omega) H0.out.le)
    have r0 := cell_blk (i := 0) H4.out.res rfl
    have r1 := cell_blk (i := 1) H4.out.res rfl
    have q0 := free_blk (i := 0) H4.out.res
    have q1 := free_blk (i := 1) H4.out.res
    have hres1 := set_blk (i := 0) H4.out.res (.slice none 0 0)
    have hres2 := set_blk (i := 1) hres1 (.bool false)
    have t0 := cell_blk (i := 0) (v := .slice none 0 0) hres2 rfl
    have t1 := cell_blk (i := 1) (v := .bool false) hres2 rfl
    have HB5 := Lib.hid ((H4.out.below.setCell (p := ⟨w.heap.size + 1 + 1, 0, none⟩) (by show w.heap.size ≤ w.heap.size + 1 + 1; omega) (.slice none 0 0)).setCell (p := ⟨w.heap.size + 1 + 1, 1, none⟩) (by show w.heap.size ≤ w.heap.size + 1 + 1; omega) (.bool false))
    clear hz hb1 hres1 hres2 x0 x1 HCK
    go_wp2_with fail
    refine bodyPost_ret (v := .tuple #[.agg #[.slice none 0 0, .bool false], .int .i64 0, .int .i64 er]) (by simp [results, Tryd.results25, go_sem, t0, t1]) rfl ⟨HB5.out, Or.inl ⟨HR.out, ?_⟩⟩
    rw [HCC.out]
end Go.Proofs.YtmemadajjmmlpaaDoor
