/-
The walk of record.Do.
-/
import Derived.Test.YtfeighclpaijoaaGreatDoorRecNote
import Derived.Test.YtfeighclpaijoaaGreatDoorFoldAll
namespace Go.Proofs.YtfeighclpaijoaaGreatDoor
open Go.RowKit Go.Cl
attribute [local go_sem ↓] Go.wp_at_zero Go.wp_at_succ

theorem run_pre {l d : List Nd} {es : List Edt} (h : runE l es = some d) {k : Nat} {e : Edt} (he : es[k]? = some e) {lk : List Nd} (hk : runE l (es.take k) = some lk) : edErr lk e = 0 ∧ runE l (es.take (k + 1)) = some (edDo lk e) := by
  have h1 : es = es.take k ++ e :: es.drop (k + 1) := by
    rw [← (List.getElem?_eq_some_iff.1 he).2, ← List.drop_eq_getElem_cons (List.getElem?_eq_some_iff.1 he).1, List.take_append_drop]
  rw [h1, runE_app, hk] at h
  have h2 : runE lk (e :: es.drop (k + 1)) = some d := h
  have h0 : edErr lk e = 0 := by
    by_cases h0 : edErr lk e = 0
    · exact h0
    · rw [runE, if_neg h0] at h2; cases h2
  refine ⟨h0, ?_⟩
  rw [take_snoc he, runE_app, hk]
  show runE lk [e] = _
  rw [runE, if_pos h0, runE]
theorem steps_snoc {l : List Nd} {es : List Edt} {k : Nat} {e : Edt} (he : es[k]? = some e) {lk : List Nd} (hk : runE l (es.take k) = some lk) : stepsD l (es.take (k + 1)) = stepsD l (es.take k) ++ [noteD lk (edDo lk e) e] := by
  rw [take_snoc he, steps_app _ _ _ _ hk]
  rfl
theorem al_run {l : List Nd} {es : List Edt} (h : (alR l es).2.2 = 0) : checkD l = 0 ∧ es.length ≤ 40 ∧ runE l es = some (alR l es).1 := by
  have h0 : alErr l es = 0 := by
    by_cases h0 : alErr l es = 0
    · exact h0
    · unfold alR at h
      rw [if_pos h0] at h
      exact absurd h h0
  have e1 : alR l es = edAll 0 l es := by unfold alR; rw [if_neg (by simpa using h0)]
  have hc : checkD l = 0 := by
    by_cases hc : checkD l = 0
    · exact hc
    · unfold alErr at h0
      rw [if_pos hc] at h0
      exact absurd h0 hc
  refine ⟨hc, ?_, ?_⟩
  · unfold alErr at h0
    rw [if_neg (by simpa using hc)] at h0
    by_cases h40 : 40 < es.length
    · rw [if_pos h40] at h0; cases h0
    · omega
  · rw [e1] at h ⊢
    obtain ⟨d, hd⟩ := run_edAll es l 0 h
    rw [edAll_run _ _ _ 0 hd, hd]
theorem al_nil {l : List Nd} (h : checkD l = 0) : alR l [] = (l, 0, 0) := by
  have h0 : alErr l [] = 0 := by unfold alErr; rw [if_neg (by rw [h]; simp), if_neg (by simp)]
  unfold alR
  rw [if_neg (by rw [h0]; simp), edAll_run [] l l 0 rfl]
theorem all_none (A : Option Addr) (n c : Nat) (l : List Nd) (q : Bool) (w : World) (B : Nat) (hl : Sl tNd w (lt B) A n c l) (hB : B ≤ w.heap.size) (hck : checkD l = 0) :
    Calls Tryz.prog 10 #[.agg #[.slice A n c, .bool q], .slice none 0 0] w fun e' w' => Below w.heap.size w w' ∧ ∃ A' c', e' = .returned (.tuple #[.agg #[.slice A' l.length c', .bool q], .int .i64 0, .int .i64 0]) ∧ Sl tNd w' (rg w.heap.size w'.heap.size) A' l.length c' l := by
  refine (all_any A n c l q none 0 0 [] w B hl Sl.nil hB).mono fun e' w' h => ?_
  obtain ⟨hb, h⟩ := h
  rw [al_nil hck] at h
  rcases h with ⟨h, _⟩ | ⟨_, A', c', h, hs⟩
  · exact absurd rfl h
  · exact ⟨hb, A', c', h, hs⟩
theorem apply_good (A : Option Addr) (n c : Nat) (l : List Nd) (q : Bool) (e : Edt) (Aa : Option Addr) (na ca : Nat) (Ak : Option Addr) (nk ck : Nat) (w : World) (B : Nat) (hl : Sl tNd w (lt B) A n c l) (hB : B ≤ w.heap.size) (he : EdtOk w (lt B) e Aa na ca Ak nk ck) (G : Good l) (her : edErr l e = 0) :
    Calls Tryz.prog 14 #[.agg #[.slice A n c, .bool q], .agg (edtCells e Aa na ca Ak nk ck)] w fun e' w' => Below w.heap.size w w' ∧ ∃ A' c', e' = .returned (.tuple #[.agg #[.slice A' (edDo l e).length c', .bool q], .int .i64 (edMade l 0 e), .int .i64 0]) ∧ Sl tNd w' (rg w.heap.size w'.heap.size) A' (edDo l e).length c' (edDo l e) := by
  refine (apply_any A n c l q e Aa na ca Ak nk ck w B hl hB he).mono fun e' w' h => ?_
  obtain ⟨hb, h⟩ := h
  rcases h with ⟨h, _⟩ | ⟨_, h⟩
  · unfold apErr at h
    rw [if_neg (by rw [check_of G]; simp)] at h
    exact absurd her h
  · exact ⟨hb, h⟩
theorem StpOk.keep {w w' : World} {D D' : Nat → Prop} {s : Stp} {Aa : Option Addr} {na ca : Nat} {Ak : Option Addr} {nk ck : Nat} (h : StpOk w D s Aa na ca Ak nk ck) (hk : ∀ p : Addr, D p.block → w'.cell? p = w.cell? p) (hm : ∀ b, D b → D' b) : StpOk w' D' s Aa na ca Ak nk ck :=
  ⟨⟨⟨(h.edit.node.attrs.keep hk).more hm, (h.edit.node.kids.keep hk).more hm, h.edit.node.kind, h.edit.node.name, h.edit.node.text, h.edit.node.parent⟩, h.edit.at_, h.edit.to_, h.edit.before, h.edit.name, h.edit.value⟩, h.do_, h.was, h.parent, h.place⟩
/-- Ahead of the append of a step. -/
theorem step_own {b0 : Nat} {wr w7 w8 : World} {v : Value} {xs : List Stp} {s : Stp} {Aa : Option Addr} {na ca : Nat} {Ak : Option Addr} {nk ck : Nat} (h : ∃ D, Own tStp wr b0 48 D v xs.length xs ∧ ∀ b, D b → b0 ≤ b ∧ b < wr.heap.size ∧ some b ≠ v.ownBlock) (h8 : Below wr.heap.size wr w8) (h7 : wr.heap.size ≤ w7.heap.size) (hb : b0 ≤ wr.heap.size) (hs : StpOk w8 (rg w7.heap.size w8.heap.size) s Aa na ca Ak nk ck) (o : Obj) :
    ∃ D', Own tStp (w8.alloc o) b0 48 D' v xs.length xs ∧ (∀ b, D' b → b < (w8.alloc o).heap.size ∧ some b ≠ v.ownBlock) ∧ tStp.rep (w8.alloc o) D' s (stpCells s Aa na ca Ak nk ck).toList ∧ ∀ b, D' b → b0 ≤ b := by
  obtain ⟨D, ho, hD⟩ := h
  have ho8 := Own.below ho h8 (fun k hk => (Own.lt ho k hk).2) (fun b hb' => (hD b hb').2.1)
  have hlow : ∀ k, v.ownBlock = some k → k < wr.heap.size := fun k hk => (Own.lt ho k hk).2
  refine ⟨fun b => D b ∨ rg w7.heap.size w8.heap.size b, ?_, fun b hb' => ?_, ?_, fun b hb' => ?_⟩
  · exact Own.alloc (ho8.more fun _ h => Or.inl h) _ fun b hb' => by
      rcases hb' with hb' | hb'
      · exact Nat.lt_of_lt_of_le (hD b hb').2.1 h8.size
      · exact hb'.2
  · rcases hb' with hb' | hb'
    · exact ⟨by rw [World.size_alloc]; have := (hD b hb').2.1; have := h8.size; omega, (hD b hb').2.2⟩
    · refine ⟨by rw [World.size_alloc]; have := hb'.2; omega, fun e' => ?_⟩
      have h1 := hlow b e'.symm
      have h2 := hb'.1
      omega
  · exact stp_rep (hs.keep (fun p hp => World.cell?_alloc_lt w8 _ p hp.2) fun _ h => Or.inr h)
  · rcases hb' with hb' | hb'
    · exact (hD b hb').1
    · have := hb'.1; omega
/-- The list of steps that a call builds. -/
def SOwn (b0 : Nat) (v : Value) (xs : List Stp) (wr : World) : Prop :=
  ∃ D, Own tStp wr b0 48 D v xs.length xs ∧ ∀ b, D b → b0 ≤ b ∧ b < wr.heap.size ∧ some b ≠ v.ownBlock
theorem SOwn.next {b0 : Nat} {wr wr' : World} {v : Value} {xs : List Stp} (h : SOwn b0 v xs wr) (hb : Below wr.heap.size wr wr') : SOwn b0 v xs wr' := by
  obtain ⟨D, ho, hD⟩ := h
  exact ⟨D, Own.below ho hb (fun k hk => (Own.lt ho k hk).2) (fun b hb' => (hD b hb').2.1), fun b hb' => ⟨(hD b hb').1, Nat.lt_of_lt_of_le (hD b hb').2.1 hb.size, (hD b hb').2.2⟩⟩
theorem SOwn.sl {b0 : Nat} {wr : World} {A : Option Addr} {n c : Nat} {xs : List Stp} (h : SOwn b0 (.slice A n c) xs wr) (hf : xs.length ≤ 1000) : n = xs.length ∧ Sl tStp wr (rg b0 wr.heap.size) A xs.length c xs := by
  obtain ⟨D, ho, hD⟩ := h
  have hn : n = xs.length := by
    obtain ⟨_, h3, _⟩ := ho
    rcases h3.2 with ⟨hv, h4⟩ | ⟨g', cap, cur, hv, _⟩
    · injection hv with _ hv _
      omega
    · injection hv
  subst hn
  refine ⟨rfl, (Own.sl ho (by decide) (by show xs.length * 200 ≤ _; omega)).more fun k hk => ?_⟩
  rcases hk with hk | hk
  · exact ⟨(hD k hk).1, (hD k hk).2.1⟩
  · exact hk
/-- What Do leaves behind. -/
def DoPost (w : World) (l : List Nd) (q : Bool) (es : List Edt) (e' : Ending) (w' : World) : Prop :=
  Below w.heap.size w w' ∧ (((alR l es).2.2 ≠ 0 ∧ e' = .returned (.tuple #[.agg #[.slice none 0 0, .bool false], .slice none 0 0, .int .i64 (alR l es).2.1, .int .i64 (alR l es).2.2])) ∨
    ((alR l es).2.2 = 0 ∧ ∃ A' c' A5 c5, e' = .returned (.tuple #[.agg #[.slice A' (alR l es).1.length c', .bool q], .slice A5 es.length c5, .int .i64 0, .int .i64 0]) ∧ Sl tNd w' (rg w.heap.size w'.heap.size) A' (alR l es).1.length c' (alR l es).1 ∧ Sl tStp w' (rg w.heap.size w'.heap.size) A5 es.length c5 (stepsD l es)))
/-- At the head of a round. -/
def DoRel (w : World) (q : Bool) (l : List Nd) (es : List Edt) (b0 k : Nat) (v : Value) (wr : World) : Prop :=
  ∃ A' c' lk, runE l (es.take k) = some lk ∧ Below w.heap.size w wr ∧ wr.heap[w.heap.size]? = some (.cells #[.slice A' lk.length c', .bool q] 24 (0, 0)) ∧ wr.heap[w.heap.size + 1]? = some (.cells #[.slice none 0 0, .bool false] 24 (0, 0)) ∧
    Sl tNd wr (rg (w.heap.size + 2) wr.heap.size) A' lk.length c' lk ∧ SOwn b0 v (stepsD l (es.take k)) wr ∧ b0 ≤ wr.heap.size ∧ w.heap.size + 2 ≤ b0
set_option maxRecDepth 100000 in
set_option maxHeartbeats 8000000 in
theorem do_any (A : Option Addr) (n c : Nat) (l : List Nd) (q : Bool) (A2 : Option Addr) (m c2 : Nat) (es : List Edt) (w : World) (B : Nat) (hl : Sl tNd w (lt B) A n c l) (hes : Sl tEdt w (lt B) A2 m c2 es) (hB : B ≤ w.heap.size) :
    Calls Tryz.prog 7 #[.agg #[.slice A n c, .bool q], .slice A2 m c2] w (DoPost w l q es) := by
  obtain ⟨wa, hwa⟩ : ∃ wa, wa = w.alloc (.cells #[.slice A n c, .bool q] 24) := ⟨_, rfl⟩
  obtain ⟨w0, hw0⟩ : ∃ w0, w0 = wa.alloc (.cells #[.slice none 0 0, .bool false] 24) := ⟨_, rfl⟩
  have za : wa.heap.size = w.heap.size + 1 := by rw [hwa]; exact World.size_alloc w _
  have z0 : w0.heap.size = w.heap.size + 2 := by rw [hw0, World.size_alloc, za]
  have hxa : wa.heap[w.heap.size]? = some (.cells #[.slice A n c, .bool q] 24 (0, 0)) := by rw [hwa]; exact heap_alloc_new w _
  have hx0 : w0.heap[w.heap.size + 1]? = some (.cells #[.slice none 0 0, .bool false] 24 (0, 0)) := by rw [hw0, ← za]; exact heap_alloc_new wa _
  have hbd : w0.heap[w.heap.size]? = some (.cells #[.slice A n c, .bool q] 24 (0, 0)) := by rw [hw0, Lib.alloc_old _ _ _ (by omega)]; exact hxa
  have hb0 : Below w.heap.size w w0 := by rw [hw0, hwa]; exact ((Below.refl _ _).alloc (Nat.le_refl _) _).alloc (by simp) _
  have HB0 := Lib.hid hb0
  have HZ0 := Lib.hid z0
  have HBD := Lib.hid hbd
  have HX0 := Lib.hid hx0
  have HL0 := Lib.hid (hl.below hb0 hB)
  have HES := Lib.hid hes
  have HBW : Hid (B ≤ w.heap.size) := hB
  have HM := Lib.hid hes.hn
  have hmc := hes.hc
  have HAL := Lib.hid (all_any A n c l q A2 m c2 es w0 B (hl.below hb0 hB) (hes.below hb0 hB) (Nat.le_trans hB hb0.size))
  have x0 := cell_blk (i := 0) hbd rfl
  have x1 := cell_blk (i := 1) hbd rfl
  clear za z0 hxa hx0 hbd hb0 hl hes hB
  go_enter Tryz.func7, Tryz.ntmps7
  go_upto_region 1 with fail
  rw [← hwa, ← hw0]
  clear hwa hw0
  go_upto_region 2 with (go_at_call 10; refine HAL.out.mono ?_; rintro e' w1 ⟨hb1, ⟨her, rfl⟩ | ⟨her, A', c', rfl, _⟩⟩)
  · have t1 : ((alR l es).2.2 != 0) = true := by simpa using her
    obtain ⟨w2, hw2⟩ : ∃ w2, w2 = w1.alloc (.cells #[.slice none 0 0, .bool false] 24) := ⟨_, rfl⟩
    have hb2 : Below w0.heap.size w0 w2 := by rw [hw2]; exact hb1.alloc hb1.size _
    have hr2 := (hb2.block (w.heap.size + 1) (by rw [HZ0.out]; omega)).trans HX0.out
    have HB2 := Lib.hid (HB0.out.trans (hb2.mono HB0.out.size))
    have HER := Lib.hid her
    have r0 := cell_blk (i := 0) hr2 rfl
    have r1 := cell_blk (i := 1) hr2 rfl
    have q0 := free_blk (i := 0) hr2
    have q1 := free_blk (i := 1) hr2
    have hres1 := set_blk (i := 0) hr2 (.slice none 0 0)
    have hres2 := set_blk (i := 1) hres1 (.bool false)
    have s0 := cell_blk (i := 0) (v := .slice none 0 0) hres2 rfl
    have s1 := cell_blk (i := 1) (v := .bool false) hres2 rfl
    obtain ⟨er, her2⟩ : ∃ er, (alR l es).2.2 = er := ⟨_, rfl⟩
    obtain ⟨i0, hi0⟩ : ∃ i0, (alR l es).2.1 = i0 := ⟨_, rfl⟩
    have HE2 := Lib.hid her2
    have HI2 := Lib.hid hi0
    rw [her2] at t1
    rw [← hw2, her2, hi0]
    clear hw2 her her2 hi0 x0 x1 HAL hb1 hb2 hr2 hres1 hres2
    go_wp2_with fail
    refine bodyPost_ret (v := .tuple #[.agg #[.slice none 0 0, .bool false], .slice none 0 0, .int .i64 i0, .int .i64 er]) (by simp [results, Tryz.results7, go_sem, s0, s1]) rfl ⟨?_, Or.inl ⟨HER.out, by rw [HE2.out, HI2.out]⟩⟩
    exact (HB2.out.setCell (p := ⟨w.heap.size + 1, 0, none⟩) (by show w.heap.size ≤ w.heap.size + 1; omega) _).setCell (p := ⟨w.heap.size + 1, 1, none⟩) (by show w.heap.size ≤ w.heap.size + 1; omega) _
  · obtain ⟨hck, h40, hrun⟩ := al_run her
    have HER := Lib.hid her
    have HCK := Lib.hid hck
    have HRUN := Lib.hid hrun
    have hm40 : m ≤ 40 := by have := HM.out; omega
    obtain ⟨w2, hw2⟩ : ∃ w2, w2 = w1.alloc (.cells #[.slice A' (alR l es).1.length c', .bool q] 24) := ⟨_, rfl⟩
    have hb2 : Below w0.heap.size w0 w2 := by rw [hw2]; exact hb1.alloc hb1.size _
    have hd2 := (hb2.block w.heap.size (by rw [HZ0.out]; omega)).trans HBD.out
    have HB02 := Lib.hid hb2
    have HAL2 := Lib.hid (all_none A n c l q w2 B (HL0.out.below hb2 (Nat.le_trans HBW.out HB0.out.size)) (Nat.le_trans HBW.out (Nat.le_trans HB0.out.size hb2.size)) hck)
    have y0 := cell_blk (i := 0) hd2 rfl
    have y1 := cell_blk (i := 1) hd2 rfl
    rw [← hw2]
    clear hw2 her hck h40 hrun x0 x1 HAL hb1 hb2 hd2
    go_upto_region 6 with (go_at_call 10; refine HAL2.out.mono ?_; rintro e' w3 ⟨hb3, A3, c3, rfl, hs3⟩; have h03 := HB02.out.trans (hb3.mono HB02.out.size); have hd3 := (h03.block w.heap.size (by rw [HZ0.out]; omega)).trans HBD.out; have v0 := cell_blk (i := 0) hd3 rfl; have v1 := cell_blk (i := 1) hd3 rfl; have v2 := free_blk (i := 0) hd3; have v3 := free_blk (i := 1) hd3)
    obtain ⟨w4, hw4⟩ : ∃ w4, w4 = (w3.setCell ⟨w.heap.size, 0, none⟩ (.slice A3 l.length c3)).setCell ⟨w.heap.size, 1, none⟩ (.bool q) := ⟨_, rfl⟩
    have hd4 : w4.heap[w.heap.size]? = some (.cells #[.slice A3 l.length c3, .bool q] 24 (0, 0)) := by rw [hw4]; exact set_blk (set_blk hd3 _) _
    have hr4 : w4.heap[w.heap.size + 1]? = some (.cells #[.slice none 0 0, .bool false] 24 (0, 0)) := by
      rw [hw4]
      exact (heap_setCell_other _ _ _ _ (by show w.heap.size + 1 ≠ w.heap.size; omega)).trans ((heap_setCell_other _ _ _ _ (by show w.heap.size + 1 ≠ w.heap.size; omega)).trans ((h03.block _ (by rw [HZ0.out]; omega)).trans HX0.out))
    have hb4 : Below w.heap.size w w4 := by rw [hw4]; exact ((HB0.out.trans (h03.mono HB0.out.size)).setCell (Nat.le_refl _) _).setCell (Nat.le_refl _) _
    have hz4 : w3.heap.size ≤ w4.heap.size := by rw [hw4]; simp
    have hs4 : Sl tNd w4 (rg w2.heap.size w3.heap.size) A3 l.length c3 l := by rw [hw4]; exact sl_far (sl_far hs3 (by have := HB0.out.size; have := HB02.out.size; have := HZ0.out; omega) _ _) (by have := HB0.out.size; have := HB02.out.size; have := HZ0.out; omega) _ _
    have hw2w : w.heap.size + 2 ≤ w4.heap.size := by have := h03.size; have := HZ0.out; omega
    have HREL : Hid (DoRel w q l es w4.heap.size 0 (.slice none 0 0) w4) := ⟨A3, c3, l, rfl, hb4, hd4, hr4, Sl.rgd hs4 (by rw [← HZ0.out]; exact HB02.out.size) hz4, ⟨fun _ => False, Own.nil _ _ _ _, fun _ h => h.elim⟩, Nat.le_refl _, hw2w⟩
    rw [← hw4]
    clear hw4 hd4 hr4 hb4 hz4 hs4 hw2w h03 hd3 hb3 hs3 v0 v1 v2 v3 HAL2
    obtain ⟨b0, hb0⟩ : ∃ b0, w4.heap.size = b0 := ⟨_, rfl⟩
    rw [hb0] at HREL
    clear hb0
    go_upto_region 7 with fail
    go_loopw [11, 37] (fun v s wr => ∃ k : Nat, k ≤ m ∧ s = .int .i64 (k : Int) ∧ Hid (DoRel w q l es b0 k v wr)) (fun _ s _ => m - (intOf s).toNat)
    case atStart => exact ⟨0, Nat.zero_le _, rfl, HREL⟩
    case round =>
      obtain ⟨k, hk, rfl, HR⟩ := hrel
      obtain ⟨Ak0, ck0, lk, hrk, hbr, hdr, hrr, hsr, hor, hzr, hz2⟩ := HR.out
      by_cases hlt : k < m
      · obtain ⟨e, he⟩ : ∃ e, es[k]? = some e := get_some (by have := HM.out; omega)
        obtain ⟨her, hnx⟩ := run_pre HRUN.out he hrk
        have hgk : Good lk := runE_good _ _ _ (good_of HCK.out) hrk
        obtain ⟨b, o, Aa, na, ca, Ak, nk, ck, rfl, hbb, hok, hce⟩ := edt_get (HES.out.below hbr HBW.out) he
        have hed : (Lit.int .i64 e.do_).wf = true := by
          obtain ⟨_, _, _, _, _, hr, _⟩ := HES.out.get he
          obtain ⟨c1, c2, _, ⟨_, h1⟩, _⟩ := hr
          exact h1
        have q0 : wr.cell? ⟨b, o + k * 12, none⟩ = some (.int .i64 e.do_) := by exact hce 0 _ rfl
        have q1 : wr.cell? ⟨b, o + k * 12 + 1, none⟩ = some (.int .i64 e.at_) := by rw [Nat.add_assoc]; exact hce 1 _ rfl
        have q2 : wr.cell? ⟨b, o + k * 12 + 2, none⟩ = some (.int .i64 e.to_) := by rw [Nat.add_assoc]; exact hce 2 _ rfl
        have q3 : wr.cell? ⟨b, o + k * 12 + 3, none⟩ = some (.int .i64 e.before) := by rw [Nat.add_assoc]; exact hce 3 _ rfl
        have q4 : wr.cell? ⟨b, o + k * 12 + 4, none⟩ = some (.string e.name) := by rw [Nat.add_assoc]; exact hce 4 _ rfl
        have q5 : wr.cell? ⟨b, o + k * 12 + 5, none⟩ = some (.string e.value) := by rw [Nat.add_assoc]; exact hce 5 _ rfl
        have q6 : wr.cell? ⟨b, o + k * 12 + 6, none⟩ = some (.int .i64 e.node.kind) := by rw [Nat.add_assoc]; exact hce 6 _ rfl
        have q7 : wr.cell? ⟨b, o + k * 12 + 7, none⟩ = some (.string e.node.name) := by rw [Nat.add_assoc]; exact hce 7 _ rfl
        have q8 : wr.cell? ⟨b, o + k * 12 + 8, none⟩ = some (.slice Aa na ca) := by rw [Nat.add_assoc]; exact hce 8 _ rfl
        have q9 : wr.cell? ⟨b, o + k * 12 + 9, none⟩ = some (.string e.node.text) := by rw [Nat.add_assoc]; exact hce 9 _ rfl
        have q10 : wr.cell? ⟨b, o + k * 12 + 10, none⟩ = some (.int .i64 e.node.parent) := by rw [Nat.add_assoc]; exact hce 10 _ rfl
        have q11 : wr.cell? ⟨b, o + k * 12 + 11, none⟩ = some (.slice Ak nk ck) := by rw [Nat.add_assoc]; exact hce 11 _ rfl
        have HOK := Lib.hid hok
        have HED := Lib.hid hed
        have HER2 := Lib.hid her
        have HNX := Lib.hid hnx
        have HGK := Lib.hid hgk
        have HBR := Lib.hid hbr
        have HDR := Lib.hid hdr
        have HRR := Lib.hid hrr
        have HSR := Lib.hid (Sl.ltr hsr)
        have HOR := Lib.hid hor
        have HZR := Lib.hid hzr
        have HZ2 := Lib.hid hz2
        have HSN := Lib.hid (steps_snoc he hrk)
        have i1 : (0 : Int) ≤ (k : Int) := by omega
        have i2 : (k : Int) < (m : Int) := by omega
        clear hok hed her hnx hgk hbr hdr hrr hsr hor hzr hz2 he hrk hce HR
        go_upto_region 9 with fail
        obtain ⟨w5, hw5⟩ : ∃ w5, w5 = wr.alloc (.cells #[.int .i64 e.do_, .int .i64 e.at_, .int .i64 e.to_, .int .i64 e.before, .string e.name, .string e.value, .int .i64 e.node.kind, .string e.node.name, .slice Aa na ca, .string e.node.text, .int .i64 e.node.parent, .slice Ak nk ck] 45) := ⟨_, rfl⟩
        have hx5 : w5.heap[wr.heap.size]? = some (.cells #[.int .i64 e.do_, .int .i64 e.at_, .int .i64 e.to_, .int .i64 e.before, .string e.name, .string e.value, .int .i64 e.node.kind, .string e.node.name, .slice Aa na ca, .string e.node.text, .int .i64 e.node.parent, .slice Ak nk ck] 45 (0, 0)) := by rw [hw5]; exact heap_alloc_new wr _
        have hb5 : Below wr.heap.size wr w5 := by rw [hw5]; exact (Below.refl _ _).alloc (Nat.le_refl _) _
        have hwl : w.heap.size < wr.heap.size := by have := HZ2.out; have := HZR.out; omega
        have hd5 := (hb5.block w.heap.size hwl).trans HDR.out
        have hok5 := EdtOk.below HOK.out hb5 (Nat.le_trans HBW.out HBR.out.size)
        have hbw5 : B ≤ w5.heap.size := Nat.le_trans HBW.out (Nat.le_trans HBR.out.size hb5.size)
        have hup5 : EdtOk w5 (lt w5.heap.size) e Aa na ca Ak nk ck := ⟨hok5.node.up hbw5, hok5.at_, hok5.to_, hok5.before, hok5.name, hok5.value⟩
        have HAP := Lib.hid (apply_good Ak0 lk.length ck0 lk q e Aa na ca Ak nk ck w5 w5.heap.size ((HSR.out.below hb5 (Nat.le_refl _)).up hb5.size) (Nat.le_refl _) hup5 HGK.out HER2.out)
        have HX5 := Lib.hid hx5
        have HB5 := Lib.hid hb5
        have HD5 := Lib.hid hd5
        have HOK5 := Lib.hid hok5
        have HWL : Hid (w.heap.size < wr.heap.size) := hwl
        have HBW5 : Hid (B ≤ w5.heap.size) := hbw5
        have HX5L : Hid (wr.heap.size < w5.heap.size) := (Array.getElem?_eq_some_iff.1 hx5).1
        have g0 := cell_blk (i := 0) hx5 rfl
        have g1 := cell_blk (i := 1) hx5 rfl
        have g2 := cell_blk (i := 2) hx5 rfl
        have g3 := cell_blk (i := 3) hx5 rfl
        have g4 := cell_blk (i := 4) hx5 rfl
        have g5 := cell_blk (i := 5) hx5 rfl
        have g6 := cell_blk (i := 6) hx5 rfl
        have g7 := cell_blk (i := 7) hx5 rfl
        have g8 := cell_blk (i := 8) hx5 rfl
        have g9 := cell_blk (i := 9) hx5 rfl
        have g10 := cell_blk (i := 10) hx5 rfl
        have g11 := cell_blk (i := 11) hx5 rfl
        have d0 := cell_blk (i := 0) hd5 rfl
        have d1 := cell_blk (i := 1) hd5 rfl
        unfold edtCells at HAP
        rw [← hw5]
        clear hw5 hx5 hb5 hwl hd5 hok5 hbw5 hup5 q0 q1 q2 q3 q4 q5 q6 q7 q8 q9 q10 q11
        go_upto_region 10 with (go_at_call 14; refine HAP.out.mono ?_; rintro e' w6 ⟨hb6, A6, c6, rfl, hs6⟩)
        obtain ⟨ln, hln⟩ : ∃ ln, edDo lk e = ln := ⟨_, rfl⟩
        have HLN := Lib.hid hln
        have hmm : e.do_ = 4 → edMade lk 0 e = lk.length := fun h4 => by unfold edMade; rw [if_pos h4]
        obtain ⟨md, hmd⟩ : ∃ md, edMade lk 0 e = md := ⟨_, rfl⟩
        rw [hln] at hs6
        rw [hmd] at hmm
        rw [hln, hmd]
        obtain ⟨w7, hw7⟩ : ∃ w7, w7 = w6.alloc (.cells #[.slice A6 ln.length c6, .bool q] 24) := ⟨_, rfl⟩
        have hb67 : Below w6.heap.size w6 w7 := by rw [hw7]; exact (Below.refl _ _).alloc (Nat.le_refl _) _
        have hb57 := hb6.trans (hb67.mono hb6.size)
        have hn7 : w7.heap[w6.heap.size]? = some (.cells #[.slice A6 ln.length c6, .bool q] 24 (0, 0)) := by rw [hw7]; exact heap_alloc_new w6 _
        have hd7 := (hb57.block w.heap.size (Nat.lt_of_lt_of_le HWL.out HB5.out.size)).trans HD5.out
        have hx7 := (hb57.block wr.heap.size HX5L.out).trans HX5.out
        have hs7 := (Sl.ltr hs6).below hb67 (Nat.le_refl _)
        have hbr7 : Below wr.heap.size wr w7 := HB5.out.trans (hb57.mono HB5.out.size)
        have hok7 := HOK5.out.below hb57 HBW5.out
        have hbw7 : B ≤ w7.heap.size := Nat.le_trans HBW5.out hb57.size
        have HNT := Lib.hid (noted_any Ak0 lk.length ck0 lk q A6 ln.length c6 q e Aa na ca Ak nk ck md w7 w7.heap.size ((HSR.out.below hbr7 (Nat.le_refl _)).up hbr7.size) (by rw [hln]; exact hs7.up hb67.size) (Nat.le_refl _) ⟨hok7.node.up hbw7, hok7.at_, hok7.to_, hok7.before, hok7.name, hok7.value⟩ HED.out HGK.out HER2.out hmm)
        obtain ⟨s, hs⟩ : ∃ s, noteD lk (edDo lk e) e = s := ⟨_, rfl⟩
        rw [hs] at HNT HSN
        have HS7 := Lib.hid (hs6.keep fun p hp => World.cell?_alloc_lt w6 (.cells #[.slice A6 ln.length c6, .bool q] 24) p hp.2)
        rw [← hw7] at HS7
        have HL56 : Hid (wr.heap.size ≤ w5.heap.size) := HB5.out.size
        have HL67 : Hid (w6.heap.size ≤ w7.heap.size) := hb67.size
        have HBR7 := Lib.hid hbr7
        have HD7 := Lib.hid hd7
        have HN7 := Lib.hid hn7
        have HS67 : Hid (w6.heap.size < w7.heap.size) := (Array.getElem?_eq_some_iff.1 hn7).1
        have HS56 : Hid (wr.heap.size ≤ w6.heap.size) := Nat.le_trans HB5.out.size hb6.size
        rw [← hw7]
        clear hw7 hb6 hb67 hb57 hn7 hd7 hs7 hbr7 hok7 hbw7 hs6 hmm hmd hs hln HAP g0 g1 g2 g3 g4 g5 g6 g7 g8 g9 g10 g11 d0 d1
        have g0 := cell_blk (i := 0) hx7 rfl
        have g1 := cell_blk (i := 1) hx7 rfl
        have g2 := cell_blk (i := 2) hx7 rfl
        have g3 := cell_blk (i := 3) hx7 rfl
        have g4 := cell_blk (i := 4) hx7 rfl
        have g5 := cell_blk (i := 5) hx7 rfl
        have g6 := cell_blk (i := 6) hx7 rfl
        have g7 := cell_blk (i := 7) hx7 rfl
        have g8 := cell_blk (i := 8) hx7 rfl
        have g9 := cell_blk (i := 9) hx7 rfl
        have g10 := cell_blk (i := 10) hx7 rfl
        have g11 := cell_blk (i := 11) hx7 rfl
        have d0 := cell_blk (i := 0) HD7.out rfl
        have d1 := cell_blk (i := 1) HD7.out rfl
        have n0 := cell_blk (i := 0) HN7.out rfl
        have n1 := cell_blk (i := 1) HN7.out rfl
        obtain ⟨ss, hss⟩ : ∃ ss, stepsD l (es.take k) = ss := ⟨_, rfl⟩
        have hsl : ss.length = k := by rw [← hss, steps_len, List.length_take]; have := HM.out; omega
        rw [hss] at HOR HSN
        unfold edtCells at HNT
        have hbz : b0 ≤ wr.heap.size := HZR.out
        have HOW := Lib.hid (fun (w8 : World) (A8 : Option Addr) (c8 : Nat) (A9 : Option Addr) (c9 : Nat) (hb : Below w7.heap.size w7 w8) (hok : StpOk w8 (rg w7.heap.size w8.heap.size) s A8 s.edit.node.attrs.length c8 A9 s.edit.node.kids.length c9) (o : Obj) => step_own (b0 := b0) (v := u11) (xs := ss) HOR.out (HBR7.out.trans (hb.mono HBR7.out.size)) HBR7.out.size hbz hok o)
        clear hss hx7
        go_upto_region 11 with (first | (go_at_call 15; refine HNT.out.mono ?_; rintro e' w8 ⟨A8, c8, A9, c9, rfl, hb8, hok8⟩; obtain ⟨D', hown, hD', hrep, hlo⟩ := HOW.out w8 A8 c8 A9 c9 hb8 hok8 (.cells (stpCells s A8 s.edit.node.attrs.length c8 A9 s.edit.node.kids.length c9) 48); unfold stpCells at hown hD' hrep ⊢; have HOWN := Lib.hid hown; have HDD := Lib.hid hD'; have HREP := Lib.hid hrep; have HLO := Lib.hid hlo; have hz8 := hb8.size; clear hown hD' hrep hlo hok8) | (at_builtin; refine wpList_ap1 _ rfl (.tmp 48) (.tmp 54) 27 rfl elemStp (v := u11) (n := ss.length) (xs := ss) (base := b0) (D := D') rfl HOWN.out HDD.out rfl HREP.out (cell_new w8 _ _) (by omega) (by omega) (by rw [World.size_alloc]; have := HBR7.out.size; omega) ?_; intro v9 w9 hown9 hg9 hbl9 hv9))
        have hlow : ∀ j, u11.ownBlock = some j → j < wr.heap.size := by
          obtain ⟨D, ho, _⟩ := HOR.out
          exact fun j hj => (Own.lt ho j hj).2
        have hb78 : Below w7.heap.size w7 w8 := hb8
        obtain ⟨wA, hwA⟩ : ∃ wA, wA = w8.alloc (.cells #[.int .i64 s.edit.do_, .int .i64 s.edit.at_, .int .i64 s.edit.to_, .int .i64 s.edit.before, .string s.edit.name, .string s.edit.value, .int .i64 s.edit.node.kind, .string s.edit.node.name, .slice A8 s.edit.node.attrs.length c8, .string s.edit.node.text, .int .i64 s.edit.node.parent, .slice A9 s.edit.node.kids.length c9, .bool s.had, .string s.was, .int .i64 s.parent, .int .i64 s.place] 48) := ⟨_, rfl⟩
        have hbA : Below w7.heap.size w7 wA := by rw [hwA]; exact hb78.alloc hb78.size _
        have hk9 : ∀ j, j < w7.heap.size → wr.heap.size ≤ j ∨ j < b0 → w9.heap[j]? = w7.heap[j]? := fun j h1 h2 => by
          have hg := hg9
          rw [show w8.alloc _ = wA from hwA.symm] at hg
          rcases h2 with h2 | h2
          · exact (hg.block j (Nat.lt_of_lt_of_le h1 hbA.size) (fun e => by have := hlow j e.symm; omega)).trans (hbA.block j h1)
          · have hb := hbl9
            rw [show w8.alloc _ = wA from hwA.symm] at hb
            exact (hb.block j h2).trans (hbA.block j h1)
        have hz9 : w7.heap.size ≤ w9.heap.size := by
          have hb := hbl9.size
          rw [World.size_alloc] at hb
          have := hb78.size
          omega
        have hb09 : Below w.heap.size w w9 := by
          have hb := hbl9
          rw [show w8.alloc _ = wA from hwA.symm] at hb
          exact ((HBR.out.trans (HBR7.out.mono HBR.out.size)).trans (hbA.mono (Nat.le_trans HBR.out.size HBR7.out.size))).trans (hb.mono (by have := HZ2.out; omega))
        have hwl := HWL.out
        have hz2 := HZ2.out
        have h67 := HS67.out
        have h56 := HS56.out
        have hd9 := (hk9 w.heap.size (Nat.lt_of_lt_of_le hwl HBR7.out.size) (Or.inr (by omega))).trans HD7.out
        have hr9 := (hk9 (w.heap.size + 1) (by have := HBR7.out.size; omega) (Or.inr (by omega))).trans ((HBR7.out.block (w.heap.size + 1) (by omega)).trans HRR.out)
        have hn9 := (hk9 w6.heap.size h67 (Or.inl h56)).trans HN7.out
        have hs9 : Sl tNd w9 (rg w5.heap.size w6.heap.size) A6 ln.length c6 ln := HS7.out.keep fun p hp => World.cell?_of_block (hk9 p.block (Nat.lt_of_lt_of_le hp.2 HL67.out) (Or.inl (Nat.le_trans HL56.out hp.1)))
        have hso : SOwn b0 v9 (ss ++ [s]) w9 := ⟨D', by rw [List.length_append]; exact hown9, fun b hb' => ⟨HLO.out b hb', Nat.lt_of_lt_of_le (HDD.out b hb').1 hbl9.size, by
          rcases hv9 with hv | hv
          · rw [hv]; exact (HDD.out b hb').2
          · rw [hv]; intro e'; exact absurd (Option.some.inj e') (Nat.ne_of_lt (HDD.out b hb').1)⟩⟩
        have e0 := cell_blk (i := 0) hd9 rfl
        have e1 := cell_blk (i := 1) hd9 rfl
        have e2 := free_blk (i := 0) hd9
        have e3 := free_blk (i := 1) hd9
        have m0 := cell_blk (i := 0) hn9 rfl
        have m1 := cell_blk (i := 1) hn9 rfl
        have hso2 : SOwn b0 v9 (ss ++ [s]) ((w9.setCell ⟨w.heap.size, 0, none⟩ (.slice A6 ln.length c6)).setCell ⟨w.heap.size, 1, none⟩ (.bool q)) := by
          obtain ⟨D, ho, hD⟩ := hso
          have key : ∀ (W : World) (i : Nat) (x : Value), Own tStp W b0 48 D v9 (ss ++ [s]).length (ss ++ [s]) → (∀ b, D b → b < W.heap.size) → Own tStp (W.setCell ⟨w.heap.size, i, none⟩ x) b0 48 D v9 (ss ++ [s]).length (ss ++ [s]) := fun W i x ho hlt =>
            Own.kept ho (grown_set W w.heap.size i x) (by
              cases hv : v9.ownBlock with
              | none => exact Or.inl rfl
              | some j => exact Or.inr (fun e => by have := (Own.lt ho j hv).1; injection e; omega)) (fun b hb => ⟨hlt b hb, fun e => by have := (hD b hb).1; injection e; omega⟩)
          exact ⟨D, key _ _ _ (key _ _ _ ho fun b hb => (hD b hb).2.1) (fun b hb => by simp; exact (hD b hb).2.1), fun b hb => ⟨(hD b hb).1, by simp; exact (hD b hb).2.1, (hD b hb).2.2⟩⟩
        have HNEW : Hid (DoRel w q l es b0 (k + 1) v9 ((w9.setCell ⟨w.heap.size, 0, none⟩ (.slice A6 ln.length c6)).setCell ⟨w.heap.size, 1, none⟩ (.bool q))) := by
          refine ⟨A6, c6, ln, by rw [HNX.out, HLN.out], (hb09.setCell (p := ⟨w.heap.size, 0, none⟩) (Nat.le_refl _) _).setCell (p := ⟨w.heap.size, 1, none⟩) (Nat.le_refl _) _, set_blk (set_blk hd9 _) _, ?_, ?_, by rw [HSN.out]; exact hso2, ?_, hz2⟩
          · exact (heap_setCell_other _ _ _ _ (by show w.heap.size + 1 ≠ w.heap.size; omega)).trans ((heap_setCell_other _ _ _ _ (by show w.heap.size + 1 ≠ w.heap.size; omega)).trans hr9)
          · exact Sl.rgd (sl_far (sl_far hs9 (by have := HL56.out; omega) _ _) (by have := HL56.out; omega) _ _) (by have := HL56.out; have := HZR.out; omega) (by simp; omega)
          · simp; have := HZR.out; have := HBR7.out.size; omega
        clear hlow hb78 hwA hbA hk9 hz9 hb09 hwl hz2 h67 h56 hd9 hr9 hn9 hs9 hso hso2 hown9 hg9 hbl9 hv9 d0 d1 n0 n1 g0 g1 g2 g3 g4 g5 g6 g7 g8 g9 g10 g11
        go_wp2_with fail
        go_roundw
        case rel => exact ⟨k + 1, by omega, by go_num, HNEW⟩
        case measure => simp [intOf]; omega
      · obtain rfl : k = m := by omega
        have htk : es.take k = es := List.take_of_length_le (by have := HM.out; omega)
        rw [htk] at hrk hor
        obtain rfl : (alR l es).1 = lk := Option.some.inj (HRUN.out.symm.trans hrk)
        have hsl : (stepsD l es).length = k := by rw [steps_len]; exact HM.out.symm
        have hform : ∃ A5 c5, u11 = .slice A5 k c5 := by
          obtain ⟨D, ho, _⟩ := hor
          obtain ⟨A5, c5, e5⟩ := Own.form ho
          rw [hsl] at e5
          exact ⟨A5, c5, e5⟩
        obtain ⟨A5, c5, rfl⟩ := hform
        have hst := (hor.sl (by rw [hsl]; omega)).2
        rw [hsl] at hst
        have e0 := cell_blk (i := 0) hdr rfl
        have e1 := cell_blk (i := 1) hdr rfl
        have r0 := cell_blk (i := 0) hrr rfl
        have r1 := cell_blk (i := 1) hrr rfl
        have q0 := free_blk (i := 0) hrr
        have q1 := free_blk (i := 1) hrr
        have hres1 := set_blk (i := 0) hrr (.slice Ak0 (alR l es).1.length ck0)
        have hres2 := set_blk (i := 1) hres1 (.bool q)
        have s0 := cell_blk (i := 0) (v := .slice Ak0 (alR l es).1.length ck0) hres2 rfl
        have s1 := cell_blk (i := 1) (v := .bool q) hres2 rfl
        have HB9 := Lib.hid ((hbr.setCell (p := ⟨w.heap.size + 1, 0, none⟩) (by show w.heap.size ≤ w.heap.size + 1; omega) (.slice Ak0 (alR l es).1.length ck0)).setCell (p := ⟨w.heap.size + 1, 1, none⟩) (by show w.heap.size ≤ w.heap.size + 1; omega) (.bool q))
        have hne : ∀ b, rg b0 wr.heap.size b → b ≠ w.heap.size + 1 := fun b hb e => by have := hb.1; omega
        have HST := Lib.hid (Sl.rgd (sl_far (sl_far hst (by omega : w.heap.size + 1 < b0) 0 (.slice Ak0 (alR l es).1.length ck0)) (by omega : w.heap.size + 1 < b0) 1 (.bool q)) (by omega : w.heap.size ≤ b0) (Nat.le_refl _))
        have HSL := Lib.hid (Sl.rgd (sl_far (sl_far hsr (by omega : w.heap.size + 1 < w.heap.size + 2) 0 (.slice Ak0 (alR l es).1.length ck0)) (by omega : w.heap.size + 1 < w.heap.size + 2) 1 (.bool q)) (by omega : w.heap.size ≤ w.heap.size + 2) (Nat.le_refl _))
        clear htk hrk hor hsl hst hres1 hres2 hne hsr hdr hrr hbr hzr hz2 HR
        obtain ⟨N, hN⟩ : ∃ N, (alR l es).1.length = N := ⟨_, rfl⟩
        rw [hN] at e0 s0 s1 HSL HST
        have HN := Lib.hid hN
        rw [hN] at HB9
        clear hN
        go_wp2_with fail
        refine bodyPost_ret (v := .tuple #[.agg #[.slice Ak0 N ck0, .bool q], .slice A5 k c5, .int .i64 0, .int .i64 0]) (by simp [results, Tryz.results7, go_sem, s0, s1]) rfl ⟨HB9.out, Or.inr ⟨HER.out, Ak0, ck0, A5, c5, ?_, ?_, ?_⟩⟩
        · rw [HN.out, ← HM.out]
        · rw [HN.out]
          exact Sl.rgd HSL.out (Nat.le_refl _) (by simp)
        · rw [← HM.out]
          exact Sl.rgd HST.out (Nat.le_refl _) (by simp)
end Go.Proofs.YtfeighclpaijoaaGreatDoor
