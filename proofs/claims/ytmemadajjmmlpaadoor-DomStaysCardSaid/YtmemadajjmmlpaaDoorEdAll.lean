/-
The walk of dom.All: edits of a document, one behind the other.
-/
import Derived.Test.YtmemadajjmmlpaaDoorEdApply
namespace Go.Proofs.YtmemadajjmmlpaaDoor
open Go.RowKit Go.Cl
attribute [local go_sem ↓] Go.wp_at_zero Go.wp_at_succ

def tEdt : Ty Edt := tMap (tPair (tInt .i64) (tPair (tInt .i64) (tPair (tInt .i64) (tPair (tInt .i64) (tPair tStr (tPair tStr tNd)))))) (fun e => (e.do_, e.at_, e.to_, e.before, e.name, e.value, e.node)) 160
theorem edt_cells {w : World} {D : Nat → Prop} {e : Edt} {cs : List Value} (h : tEdt.rep w D e cs) : ∃ Aa na ca Ak nk ck, cs = (edtCells e Aa na ca Ak nk ck).toList ∧ EdtOk w D e Aa na ca Ak nk ck := by
  obtain ⟨c1, c2, rfl, ⟨rfl, h1⟩, c3, c4, rfl, ⟨rfl, h2⟩, c5, c6, rfl, ⟨rfl, h3⟩, c7, c8, rfl, ⟨rfl, h4⟩, c9, c10, rfl, ⟨rfl, h5⟩, c11, c12, rfl, ⟨rfl, h6⟩, h7⟩ := h
  obtain ⟨Aa, na, ca, Ak, nk, ck, rfl, hn⟩ := nd_cells h7
  exact ⟨Aa, na, ca, Ak, nk, ck, rfl, hn, h2, h3, h4, h5, h6⟩
theorem edt_rep {w : World} {D : Nat → Prop} {e : Edt} {Aa : Option Addr} {na ca : Nat} {Ak : Option Addr} {nk ck : Nat} (h : EdtOk w D e Aa na ca Ak nk ck) (hd : (Lit.int .i64 e.do_).wf = true) : tEdt.rep w D e (edtCells e Aa na ca Ak nk ck).toList :=
  ⟨[_], _, rfl, ⟨rfl, hd⟩, [_], _, rfl, ⟨rfl, h.at_⟩, [_], _, rfl, ⟨rfl, h.to_⟩, [_], _, rfl, ⟨rfl, h.before⟩, [_], _, rfl, ⟨rfl, h.name⟩, [_], _, rfl, ⟨rfl, h.value⟩, nd_rep h.node⟩
/-- One edit of a slice of them. -/
theorem edt_get {w : World} {D : Nat → Prop} {A : Option Addr} {n c : Nat} {es : List Edt} (h : Sl tEdt w D A n c es) {i : Nat} {e : Edt} (he : es[i]? = some e) :
    ∃ b o Aa na ca Ak nk ck, A = some ⟨b, o, none⟩ ∧ D b ∧ EdtOk w D e Aa na ca Ak nk ck ∧ ∀ (j : Nat) u, (edtCells e Aa na ca Ak nk ck)[j]? = some u → w.cell? ⟨b, o + (i * 12 + j), none⟩ = some u := by
  obtain ⟨b, o, cs, e', hD, hr, hc⟩ := h.get he
  obtain ⟨Aa, na, ca, Ak, nk, ck, rfl, hn⟩ := edt_cells hr
  exact ⟨b, o, Aa, na, ca, Ak, nk, ck, e', hD, hn, fun j u hu => hc j u (by simpa using hu)⟩
/-- What All says ahead of its edits. -/
def alErr (l : List Nd) (es : List Edt) : Int := if checkD l ≠ 0 then checkD l else if 40 < es.length then 2 else 0
/-- What All tells: the document, which edit is wrong, and why. -/
def alR (l : List Nd) (es : List Edt) : List Nd × Int × Int := if alErr l es ≠ 0 then ([], 0, alErr l es) else edAll 0 l es
/-- What All leaves behind. -/
def AlPost (w : World) (l : List Nd) (q : Bool) (es : List Edt) (e' : Ending) (w' : World) : Prop :=
  Below w.heap.size w w' ∧ (((alR l es).2.2 ≠ 0 ∧ e' = .returned (.tuple #[.agg #[.slice none 0 0, .bool false], .int .i64 (alR l es).2.1, .int .i64 (alR l es).2.2])) ∨
    ((alR l es).2.2 = 0 ∧ ∃ A' c', e' = .returned (.tuple #[.agg #[.slice A' (alR l es).1.length c', .bool q], .int .i64 0, .int .i64 0]) ∧ Sl tNd w' (rg w.heap.size w'.heap.size) A' (alR l es).1.length c' (alR l es).1))
theorem edAll_bad {l : List Nd} {es : List Edt} {k : Nat} {e : Edt} (he : es[k]? = some e) (h : edErr l e ≠ 0) : edAll k l (es.drop k) = ([], (k : Int), edErr l e) := by
  rw [List.drop_eq_getElem_cons (List.getElem?_eq_some_iff.1 he).1, (List.getElem?_eq_some_iff.1 he).2, edAll, if_pos h]
theorem edAll_go {l : List Nd} {es : List Edt} {k : Nat} {e : Edt} (he : es[k]? = some e) (h : edErr l e = 0) : edAll k l (es.drop k) = edAll (k + 1) (edDo l e) (es.drop (k + 1)) := by
  rw [List.drop_eq_getElem_cons (List.getElem?_eq_some_iff.1 he).1, (List.getElem?_eq_some_iff.1 he).2, edAll, if_neg (by simpa using h)]
theorem edAll_end {l : List Nd} {es : List Edt} : edAll es.length l (es.drop es.length) = (l, 0, 0) := by
  rw [List.drop_length]
  rfl
/-- At the head of a round. -/
def AlRel (w : World) (B : Nat) (A : Option Addr) (n c : Nat) (q : Bool) (l : List Nd) (hd hr E b1 : Nat) (R : List Nd × Int × Int) (es : List Edt) (k : Nat) (wr : World) : Prop :=
  ∃ g cg lk made ps, RB w B A n c q l hd hr wr ∧ EdAt wr E g cg b1 lk q made ps ∧ Good lk ∧ R = edAll k lk (es.drop k)
set_option maxRecDepth 100000 in
set_option maxHeartbeats 4000000 in
theorem all_any (A : Option Addr) (n c : Nat) (l : List Nd) (q : Bool) (A2 : Option Addr) (m c2 : Nat) (es : List Edt) (w : World) (B : Nat) (hl : Sl tNd w (lt B) A n c l) (hes : Sl tEdt w (lt B) A2 m c2 es) (hB : B ≤ w.heap.size) :
    Calls Tryd.prog 21 #[.agg #[.slice A n c, .bool q], .slice A2 m c2] w (AlPost w l q es) := by
  obtain ⟨wa, hwa⟩ : ∃ wa, wa = w.alloc (.cells #[.slice A n c, .bool q] 24) := ⟨_, rfl⟩
  obtain ⟨w0, hw0⟩ : ∃ w0, w0 = wa.alloc (.cells #[.slice none 0 0, .bool false] 24) := ⟨_, rfl⟩
  have za : wa.heap.size = w.heap.size + 1 := by rw [hwa]; exact World.size_alloc w _
  have z0 : w0.heap.size = w.heap.size + 2 := by rw [hw0, World.size_alloc, za]
  have hxa : wa.heap[w.heap.size]? = some (.cells #[.slice A n c, .bool q] 24 (0, 0)) := by rw [hwa]; exact heap_alloc_new w _
  have hx0 : w0.heap[w.heap.size + 1]? = some (.cells #[.slice none 0 0, .bool false] 24 (0, 0)) := by rw [hw0, ← za]; exact heap_alloc_new wa _
  have hbd : w0.heap[w.heap.size]? = some (.cells #[.slice A n c, .bool q] 24 (0, 0)) := by rw [hw0, Lib.alloc_old _ _ _ (by omega)]; exact hxa
  have hb0 : Below w.heap.size w w0 := by rw [hw0, hwa]; exact ((Below.refl _ _).alloc (Nat.le_refl _) _).alloc (by simp) _
  have H0 : Hid (RB w B A n c q l w.heap.size (w.heap.size + 1) w0) := ⟨hb0, hbd, hx0, hl.below hb0 hB, Nat.le_trans hB hb0.size⟩
  have HZ := Lib.hid z0
  have HN := Lib.hid hl.hn
  have HES := Lib.hid hes
  have HBW : Hid (B ≤ w.heap.size) := hB
  have HM := Lib.hid hes.hn
  have hm := hes.small
  have hmc := hes.hc
  clear za z0 hxa hx0 hbd hb0 hl hes hB
  have hm63 : m ≤ 9223372036854775807 := by omega
  have x0 := cell_blk (i := 0) H0.out.box rfl
  have x1 := cell_blk (i := 1) H0.out.box rfl
  have HCK := Lib.hid (check_dom A n c l q w0 B H0.out.doc H0.out.le)
  have HBAD : Hid (∀ er : Int, er ≠ 0 → alErr l es = er → (alR l es).2.2 ≠ 0 ∧ (alR l es).2.1 = 0 ∧ (alR l es).2.2 = er) := fun er h1 h2 => by
    have : alR l es = ([], 0, alErr l es) := by unfold alR; rw [if_pos (by rw [h2]; exact h1)]
    rw [this, h2]
    exact ⟨h1, rfl, rfl⟩
  go_enter Tryd.func21, Tryd.ntmps21
  go_upto_region 1 with fail
  rw [← hwa, ← hw0]
  clear hwa hw0
  by_cases hck : checkD l = 0
  · have hgood := good_of hck
    have HG := Lib.hid hgood
    rw [hck] at HCK
    have hpos := hgood.pos
    have hsm := hgood.small
    have HMD := Lib.hid hgood.mods
    by_cases h40 : 40 < m
    · have HR := Lib.hid (HBAD.out 2 (by decide) (by unfold alErr; rw [if_neg (by simpa using hck), if_pos (by have := HM.out; omega)]))
      clear hck hgood
      go_upto_region 5 with (go_at_call 24; refine HCK.out.mono ?_; rintro e' w1 ⟨rfl, hb1⟩)
      have hz := HZ.out
      have H4 := Lib.hid (H0.out.next hb1 (by omega) (by omega) (by omega) H0.out.le)
      have r0 := cell_blk (i := 0) H4.out.res rfl
      have r1 := cell_blk (i := 1) H4.out.res rfl
      have q0 := free_blk (i := 0) H4.out.res
      have q1 := free_blk (i := 1) H4.out.res
      have hres1 := set_blk (i := 0) H4.out.res (.slice none 0 0)
      have hres2 := set_blk (i := 1) hres1 (.bool false)
      have t0 := cell_blk (i := 0) (v := .slice none 0 0) hres2 rfl
      have t1 := cell_blk (i := 1) (v := .bool false) hres2 rfl
      have HB5 := Lib.hid ((H4.out.below.setCell (p := ⟨w.heap.size + 1, 0, none⟩) (by show w.heap.size ≤ w.heap.size + 1; omega) (.slice none 0 0)).setCell (p := ⟨w.heap.size + 1, 1, none⟩) (by show w.heap.size ≤ w.heap.size + 1; omega) (.bool false))
      clear hres1 hres2 hz hb1 x0 x1
      go_wp2_with fail
      refine bodyPost_ret (v := .tuple #[.agg #[.slice none 0 0, .bool false], .int .i64 0, .int .i64 2]) (by simp [results, Tryd.results21, go_sem, t0, t1]) rfl ⟨HB5.out, Or.inl ⟨HR.out.1, ?_⟩⟩
      rw [HR.out.2.1, HR.out.2.2]
    have HAL := Lib.hid (show alR l es = edAll 0 l es from by unfold alR; rw [if_neg]; unfold alErr; rw [if_neg (by simpa using hck), if_neg (by have := HM.out; omega)]; simp)
    clear hck hgood HBAD
    go_upto_region 6 with (go_at_call 24; refine HCK.out.mono ?_; rintro e' w1 ⟨rfl, hb1⟩)
    have hz := HZ.out
    have H1 := Lib.hid (H0.out.next hb1 (by omega) (by omega) (by omega) H0.out.le)
    have y0 := cell_blk (i := 0) H1.out.box rfl
    have y1 := cell_blk (i := 1) H1.out.box rfl
    have HOW := Lib.hid (own_any A n c l q w1 B H1.out.doc H1.out.le (by have := HN.out; omega) (by have := HN.out; omega) HMD.out)
    have HZ1 : Hid (w.heap.size + 2 ≤ w1.heap.size) := by have := hb1.size; show _ ≤ _; omega
    clear hz hb1 x0 x1 HCK HMD
    go_upto_region 7 with (go_at_call 50; refine HOW.out.mono ?_; rintro e' w2 ⟨g, c', ps, rfl, hb2, hed, hnc⟩)
    obtain ⟨w3, hw3⟩ : ∃ w3, w3 = w2.alloc (.cells #[.slice (some ⟨g, 0, none⟩) n c', .bool q, .int .i64 0] 100) := ⟨_, rfl⟩
    rw [← hw3]
    have hb3 : Below w1.heap.size w1 w3 := by rw [hw3]; exact hb2.alloc hb2.size _
    have hx3 : w3.heap[w2.heap.size]? = some (.cells #[.slice (some ⟨g, 0, none⟩) n c', .bool q, .int .i64 0] 100 (0, 0)) := by rw [hw3]; exact heap_alloc_new w2 _
    have hne3 : Ed w3 w1.heap.size (.slice (some ⟨g, 0, none⟩) n c') l ps := by rw [hw3]; exact hed.next ((Below.refl _ _).alloc (Nat.le_refl _) _)
    have HN' := HN.out
    have HAT : Hid (EdAt w3 w2.heap.size g c' w1.heap.size l q 0 ps) := ⟨by rw [← HN']; exact hx3, by rw [← HN']; exact hne3, hb2.size, hpos, by omega⟩
    have hz1 := HZ1.out
    have H3 := Lib.hid (H1.out.next hb3 (by omega) (by omega) (by omega) H1.out.le)
    have HREL : Hid (AlRel w B A n c q l w.heap.size (w.heap.size + 1) w2.heap.size w1.heap.size (edAll 0 l es) es 0 w3) := ⟨g, c', l, 0, ps, H3.out, HAT.out, HG.out, by rw [List.drop_zero]⟩
    have HB1 : Hid (B ≤ w1.heap.size) := H1.out.le
    clear hb2 hed hw3 hb3 hx3 hne3 HN' hz1 y0 y1 hnc hpos hsm HOW HAT H1 H3 HG
    obtain ⟨b1, hb1⟩ : ∃ b1, w1.heap.size = b1 := ⟨_, rfl⟩
    obtain ⟨E, hE⟩ : ∃ E, w2.heap.size = E := ⟨_, rfl⟩
    rw [hb1, hE] at HREL
    rw [hb1] at HZ1 HB1
    rw [hE]
    clear hE hb1
    go_upto_region 8 with fail
    go_loopw [31] (fun s wr => ∃ k : Nat, k ≤ m ∧ s = .int .i64 (k : Int) ∧ Hid (AlRel w B A n c q l w.heap.size (w.heap.size + 1) E b1 (edAll 0 l es) es k wr)) (fun s _ => m - (intOf s).toNat)
    case atStart => exact ⟨0, Nat.zero_le _, rfl, HREL⟩
    case round =>
      obtain ⟨k, hk, rfl, HR0⟩ := hrel
      obtain ⟨g, cg, lk, made, ps, hrb, hat, hgd, hR⟩ := HR0.out
      by_cases hlt : k < m
      · obtain ⟨e, he⟩ : ∃ e, es[k]? = some e := get_some (by have := HM.out; omega)
        obtain ⟨b, o, Aa, na, ca, Ak, nk, ck, rfl, _, hok, hc⟩ := edt_get (HES.out.below hrb.below HBW.out) he
        have f0 : wr.cell? ⟨b, o + k * 12, none⟩ = some (.int .i64 e.do_) := hc 0 _ rfl
        have f1 : wr.cell? ⟨b, o + k * 12 + 1, none⟩ = some (.int .i64 e.at_) := by rw [Nat.add_assoc]; exact hc 1 _ rfl
        have f2 : wr.cell? ⟨b, o + k * 12 + 2, none⟩ = some (.int .i64 e.to_) := by rw [Nat.add_assoc]; exact hc 2 _ rfl
        have f3 : wr.cell? ⟨b, o + k * 12 + 3, none⟩ = some (.int .i64 e.before) := by rw [Nat.add_assoc]; exact hc 3 _ rfl
        have f4 : wr.cell? ⟨b, o + k * 12 + 4, none⟩ = some (.string e.name) := by rw [Nat.add_assoc]; exact hc 4 _ rfl
        have f5 : wr.cell? ⟨b, o + k * 12 + 5, none⟩ = some (.string e.value) := by rw [Nat.add_assoc]; exact hc 5 _ rfl
        have f6 : wr.cell? ⟨b, o + k * 12 + 6, none⟩ = some (.int .i64 e.node.kind) := by rw [Nat.add_assoc]; exact hc 6 _ rfl
        have f7 : wr.cell? ⟨b, o + k * 12 + 7, none⟩ = some (.string e.node.name) := by rw [Nat.add_assoc]; exact hc 7 _ rfl
        have f8 : wr.cell? ⟨b, o + k * 12 + 8, none⟩ = some (.slice Aa na ca) := by rw [Nat.add_assoc]; exact hc 8 _ rfl
        have f9 : wr.cell? ⟨b, o + k * 12 + 9, none⟩ = some (.string e.node.text) := by rw [Nat.add_assoc]; exact hc 9 _ rfl
        have f10 : wr.cell? ⟨b, o + k * 12 + 10, none⟩ = some (.int .i64 e.node.parent) := by rw [Nat.add_assoc]; exact hc 10 _ rfl
        have f11 : wr.cell? ⟨b, o + k * 12 + 11, none⟩ = some (.slice Ak nk ck) := by rw [Nat.add_assoc]; exact hc 11 _ rfl
        have i1 : (0 : Int) ≤ (k : Int) := by omega
        have i2 : (k : Int) < (m : Int) := by omega
        have HOK := Lib.hid hok
        have HRB := Lib.hid hrb
        have HAT := Lib.hid hat
        have HGD := Lib.hid hgd
        have HRR := Lib.hid hR
        have HE := Lib.hid he
        clear hok hrb hat hgd hR he hc HR0
        go_upto_region 10 with fail
        obtain ⟨w5, hw5⟩ : ∃ w5, w5 = wr.alloc (.cells #[.int .i64 e.do_, .int .i64 e.at_, .int .i64 e.to_, .int .i64 e.before, .string e.name, .string e.value, .int .i64 e.node.kind, .string e.node.name, .slice Aa na ca, .string e.node.text, .int .i64 e.node.parent, .slice Ak nk ck] 59) := ⟨_, rfl⟩
        rw [← hw5]
        have hb5 : Below wr.heap.size wr w5 := by rw [hw5]; exact (Below.refl _ _).alloc (Nat.le_refl _) _
        have hx5 : w5.heap[wr.heap.size]? = some (.cells #[.int .i64 e.do_, .int .i64 e.at_, .int .i64 e.to_, .int .i64 e.before, .string e.name, .string e.value, .int .i64 e.node.kind, .string e.node.name, .slice Aa na ca, .string e.node.text, .int .i64 e.node.parent, .slice Ak nk ck] 59 (0, 0)) := by rw [hw5]; exact heap_alloc_new wr _
        have hbr : b1 ≤ wr.heap.size := Nat.le_trans HAT.out.le (Nat.le_of_lt HAT.out.lt)
        have hz1 := HZ1.out
        have hB1 := HB1.out
        have H5 := Lib.hid (HRB.out.next hb5 (by omega) (by omega) (by omega) (by omega))
        have HAT5 := Lib.hid (HAT.out.next hb5)
        have hok5 := HOK.out.below hb5 (by omega)
        have HED := Lib.hid (edit_any w5 E g cg b1 lk q made ps e Aa na ca Ak nk ck HAT5.out HGD.out ⟨hok5.node.up hB1, hok5.at_, hok5.to_, hok5.before, hok5.name, hok5.value⟩)
        unfold edtCells at HED
        have e0 : w5.cell? ⟨wr.heap.size, 0, none⟩ = some (.int .i64 e.do_) := cell_blk hx5 rfl
        have e1 : w5.cell? ⟨wr.heap.size, 1, none⟩ = some (.int .i64 e.at_) := cell_blk hx5 rfl
        have e2 : w5.cell? ⟨wr.heap.size, 2, none⟩ = some (.int .i64 e.to_) := cell_blk hx5 rfl
        have e3 : w5.cell? ⟨wr.heap.size, 3, none⟩ = some (.int .i64 e.before) := cell_blk hx5 rfl
        have e4 : w5.cell? ⟨wr.heap.size, 4, none⟩ = some (.string e.name) := cell_blk hx5 rfl
        have e5 : w5.cell? ⟨wr.heap.size, 5, none⟩ = some (.string e.value) := cell_blk hx5 rfl
        have e6 : w5.cell? ⟨wr.heap.size, 6, none⟩ = some (.int .i64 e.node.kind) := cell_blk hx5 rfl
        have e7 : w5.cell? ⟨wr.heap.size, 7, none⟩ = some (.string e.node.name) := cell_blk hx5 rfl
        have e8 : w5.cell? ⟨wr.heap.size, 8, none⟩ = some (.slice Aa na ca) := cell_blk hx5 rfl
        have e9 : w5.cell? ⟨wr.heap.size, 9, none⟩ = some (.string e.node.text) := cell_blk hx5 rfl
        have e10 : w5.cell? ⟨wr.heap.size, 10, none⟩ = some (.int .i64 e.node.parent) := cell_blk hx5 rfl
        have e11 : w5.cell? ⟨wr.heap.size, 11, none⟩ = some (.slice Ak nk ck) := cell_blk hx5 rfl
        clear hw5 hb5 hx5 hbr hz1 hB1 hok5 f0 f1 f2 f3 f4 f5 f6 f7 f8 f9 f10 f11
        by_cases hee : edErr lk e = 0
        · have HGO := Lib.hid (HRR.out.trans (edAll_go HE.out hee))
          have HGD' := Lib.hid (good_ed HGD.out hee)
          rw [hee] at HED
          clear hee
          go_wp2_with (go_at_call 51; refine HED.out.mono ?_; rintro e' w6 ⟨rfl, hb6, hp6⟩)
          obtain ⟨g6, c6, ps6, hat6⟩ := hp6 trivial
          have hz1 := HZ1.out
          have HRL6 : Hid (AlRel w B A n c q l w.heap.size (w.heap.size + 1) E b1 (edAll 0 l es) es (k + 1) w6) := ⟨g6, c6, _, _, ps6, H5.out.next hb6 (by omega) (by omega) (by omega) HB1.out, hat6, HGD'.out, HGO.out⟩
          clear hat6 hp6 hb6 hz1
          go_roundw
          case rel => exact ⟨k + 1, by omega, by go_num, HRL6⟩
          case measure => simp [intOf]; omega
        · have hbad := HRR.out.trans (edAll_bad HE.out hee)
          have HR : Hid ((alR l es).2.2 ≠ 0 ∧ (alR l es).2.1 = (k : Int) ∧ (alR l es).2.2 = edErr lk e) := by rw [HAL.out, hbad]; exact ⟨hee, rfl, rfl⟩
          have hee1 : (edErr lk e != 0) = true := by simpa using hee
          clear hee hbad
          generalize edErr lk e = er at *
          go_upto_region 12 with (go_at_call 51; refine HED.out.mono ?_; rintro e' w6 ⟨rfl, hb6, hp6⟩)
          have hz1 := HZ1.out
          have H6 := Lib.hid (H5.out.next hb6 (by omega) (by omega) (by omega) HB1.out)
          have r0 := cell_blk (i := 0) H6.out.res rfl
          have r1 := cell_blk (i := 1) H6.out.res rfl
          have q0 := free_blk (i := 0) H6.out.res
          have q1 := free_blk (i := 1) H6.out.res
          have hres1 := set_blk (i := 0) H6.out.res (.slice none 0 0)
          have hres2 := set_blk (i := 1) hres1 (.bool false)
          have t0 := cell_blk (i := 0) (v := .slice none 0 0) hres2 rfl
          have t1 := cell_blk (i := 1) (v := .bool false) hres2 rfl
          have HB5 := Lib.hid ((H6.out.below.setCell (p := ⟨w.heap.size + 1, 0, none⟩) (by show w.heap.size ≤ w.heap.size + 1; omega) (.slice none 0 0)).setCell (p := ⟨w.heap.size + 1, 1, none⟩) (by show w.heap.size ≤ w.heap.size + 1; omega) (.bool false))
          clear hres1 hres2 hz1 hb6 hp6 e0 e1 e2 e3 e4 e5 e6 e7 e8 e9 e10 e11
          go_wp2_with fail
          refine bodyPost_ret (v := .tuple #[.agg #[.slice none 0 0, .bool false], .int .i64 (k : Int), .int .i64 er]) (by simp [results, Tryd.results21, go_sem, t0, t1]) rfl ⟨HB5.out, Or.inl ⟨HR.out.1, ?_⟩⟩
          rw [HR.out.2.1, HR.out.2.2]
      · obtain rfl : k = es.length := by have := HM.out; omega
        have hE0 := hR.trans edAll_end
        have HR := Lib.hid (HAL.out.trans hE0)
        have s0 := hat.c0
        have s1 := hat.c1
        have r0 := cell_blk (i := 0) hrb.res rfl
        have r1 := cell_blk (i := 1) hrb.res rfl
        have q0 := free_blk (i := 0) hrb.res
        have q1 := free_blk (i := 1) hrb.res
        have hres1 := set_blk (i := 0) hrb.res (.slice (some ⟨g, 0, none⟩) lk.length cg)
        have hres2 := set_blk (i := 1) hres1 (.bool q)
        have t0 := cell_blk (i := 0) (v := .slice (some ⟨g, 0, none⟩) lk.length cg) hres2 rfl
        have t1 := cell_blk (i := 1) (v := .bool q) hres2 rfl
        have HSL5 := Lib.hid (Sl.rgd (((hat.ed.other hrb.res (by decide) (by decide) (by decide) (grown_set wr _ 0 (.slice (some ⟨g, 0, none⟩) lk.length cg))).other hres1 (by decide) (by decide) (by decide) (grown_set _ _ 1 (.bool q))).slr) (by have := HZ1.out; omega : w.heap.size ≤ b1) (Nat.le_refl _))
        have HB5 := Lib.hid ((hrb.below.setCell (p := ⟨w.heap.size + 1, 0, none⟩) (by show w.heap.size ≤ w.heap.size + 1; omega) (.slice (some ⟨g, 0, none⟩) lk.length cg)).setCell (p := ⟨w.heap.size + 1, 1, none⟩) (by show w.heap.size ≤ w.heap.size + 1; omega) (.bool q))
        clear hres1 hres2 hE0 hrb hat hgd hR HR0
        go_wp2_with fail
        refine bodyPost_ret (v := .tuple #[.agg #[.slice (some ⟨g, 0, none⟩) lk.length cg, .bool q], .int .i64 0, .int .i64 0]) (by simp [results, Tryd.results21, go_sem, t0, t1]) rfl ⟨HB5.out, Or.inr ⟨by rw [HR.out], some ⟨g, 0, none⟩, cg, ?_, ?_⟩⟩
        · rw [HR.out]
        · rw [HR.out]
          exact HSL5.out
  · have HR := Lib.hid (HBAD.out (checkD l) hck (by unfold alErr; rw [if_pos hck]))
    have hck1 : (checkD l != 0) = true := by simpa using hck
    have hck2 : (checkD l == 0) = false := by simpa using hck
    clear hck
    generalize checkD l = er at *
    go_upto_region 5 with (go_at_call 24; refine HCK.out.mono ?_; rintro e' w1 ⟨rfl, hb1⟩)
    have hz := HZ.out
    have H4 := Lib.hid (H0.out.next hb1 (by omega) (by omega) (by omega) H0.out.le)
    have r0 := cell_blk (i := 0) H4.out.res rfl
    have r1 := cell_blk (i := 1) H4.out.res rfl
    have q0 := free_blk (i := 0) H4.out.res
    have q1 := free_blk (i := 1) H4.out.res
    have hres1 := set_blk (i := 0) H4.out.res (.slice none 0 0)
    have hres2 := set_blk (i := 1) hres1 (.bool false)
    have t0 := cell_blk (i := 0) (v := .slice none 0 0) hres2 rfl
    have t1 := cell_blk (i := 1) (v := .bool false) hres2 rfl
    have HB5 := Lib.hid ((H4.out.below.setCell (p := ⟨w.heap.size + 1, 0, none⟩) (by show w.heap.size ≤ w.heap.size + 1; omega) (.slice none 0 0)).setCell (p := ⟨w.heap.size + 1, 1, none⟩) (by show w.heap.size ≤ w.heap.size + 1; omega) (.bool false))
    clear hres1 hres2 hz hb1 x0 x1
    go_wp2_with fail
    refine bodyPost_ret (v := .tuple #[.agg #[.slice none 0 0, .bool false], .int .i64 0, .int .i64 er]) (by simp [results, Tryd.results21, go_sem, t0, t1]) rfl ⟨HB5.out, Or.inl ⟨HR.out.1, ?_⟩⟩
    rw [HR.out.2.1, HR.out.2.2]
end Go.Proofs.YtmemadajjmmlpaaDoor
