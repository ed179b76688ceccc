/-
The walk of span's After, where a text is set and all is well.
-/
import Derived.Test.YtcnogokemilhnaaDoorSpanMoved
import Derived.Test.YtcnogokemilhnaaDoorEdDocs
namespace Go.Proofs.YtcnogokemilhnaaDoor
open Go.RowKit Go.Cl
attribute [local go_sem ↓] Go.wp_at_zero Go.wp_at_succ

set_option maxRecDepth 100000 in
set_option maxHeartbeats 4000000 in
theorem after_text (A : Option Addr) (n c : Nat) (l : List Nd) (q : Bool) (e : Edt) (Aa : Option Addr) (na ca : Nat) (Ak : Option Addr) (nk ck : Nat) (a b : Pt) (w : World) (B : Nat) (hl : Sl tNd w (lt B) A n c l) (hB : B ≤ w.heap.size) (he : EdtOk w (lt B) e Aa na ca Ak nk ck) (ha1 : (Lit.int .i64 a.node).wf = true) (ha2 : (Lit.int .i64 a.at_).wf = true) (hb1 : (Lit.int .i64 b.node).wf = true) (hb2 : (Lit.int .i64 b.at_).wf = true)
    (h3 : e.do_ = 3) (hsp : spanS l a b = 0) (hap : apErr l e = 0) :
    Calls Tryd.prog 29 #[.agg #[.slice A n c, .bool q], .agg (edtCells e Aa na ca Ak nk ck), .agg #[.int .i64 a.node, .int .i64 a.at_, .int .i64 b.node, .int .i64 b.at_]] w fun e' w' => e' = .returned (.tuple #[.agg #[.int .i64 a.node, .int .i64 (textTo a e), .int .i64 b.node, .int .i64 (textTo b e)], .int .i64 0]) ∧ Below w.heap.size w w' := by
  obtain ⟨wa, hwa⟩ : ∃ wa, wa = w.alloc (.cells #[.slice A n c, .bool q] 24) := ⟨_, rfl⟩
  obtain ⟨wb, hwb⟩ : ∃ wb, wb = wa.alloc (.cells (edtCells e Aa na ca Ak nk ck) 53) := ⟨_, rfl⟩
  obtain ⟨wd, hwd⟩ : ∃ wd, wd = wb.alloc (.cells #[.int .i64 a.node, .int .i64 a.at_, .int .i64 b.node, .int .i64 b.at_] 63) := ⟨_, rfl⟩
  obtain ⟨w0, hw0⟩ : ∃ w0, w0 = wd.alloc (.cells #[.int .i64 0, .int .i64 0, .int .i64 0, .int .i64 0] 63) := ⟨_, rfl⟩
  have za : wa.heap.size = w.heap.size + 1 := by rw [hwa]; exact World.size_alloc w _
  have zb : wb.heap.size = w.heap.size + 1 + 1 := by rw [hwb, World.size_alloc, za]
  have zd : wd.heap.size = w.heap.size + 1 + 1 + 1 := by rw [hwd, World.size_alloc, zb]
  have hx1 : w0.heap[w.heap.size]? = some (.cells #[.slice A n c, .bool q] 24 (0, 0)) := by rw [hw0, Lib.alloc_old _ _ _ (by omega), hwd, Lib.alloc_old _ _ _ (by omega), hwb, Lib.alloc_old _ _ _ (by omega), hwa]; exact heap_alloc_new w _
  have hx2 : w0.heap[w.heap.size + 1]? = some (.cells (edtCells e Aa na ca Ak nk ck) 53 (0, 0)) := by rw [hw0, Lib.alloc_old _ _ _ (by omega), hwd, Lib.alloc_old _ _ _ (by omega), hwb, ← za]; exact heap_alloc_new wa _
  have hx3 : w0.heap[w.heap.size + 1 + 1]? = some (.cells #[.int .i64 a.node, .int .i64 a.at_, .int .i64 b.node, .int .i64 b.at_] 63 (0, 0)) := by rw [hw0, Lib.alloc_old _ _ _ (by omega), hwd, ← zb]; exact heap_alloc_new wb _
  have hx4 : w0.heap[w.heap.size + 1 + 1 + 1]? = some (.cells #[.int .i64 0, .int .i64 0, .int .i64 0, .int .i64 0] 63 (0, 0)) := by rw [hw0, ← zd]; exact heap_alloc_new wd _
  have hb0 : Below w.heap.size w w0 := by rw [hw0, hwd, hwb, hwa]; exact ((((Below.refl _ _).alloc (Nat.le_refl _) _).alloc (by simp) _).alloc (by simp; omega) _).alloc (by simp; omega) _
  have HSP := Lib.hid (span_any A n c l q a b w0 B (hl.below hb0 hB) (Nat.le_trans hB hb0.size) ha1 ha2 hb1 hb2)
  rw [hsp] at HSP
  have HB0 := Lib.hid hb0
  have HX1 := Lib.hid hx1
  have HX2 := Lib.hid hx2
  have HX3 := Lib.hid hx3
  have HX4 := Lib.hid hx4
  have HAP : Hid (∀ W : World, Below w0.heap.size w0 W → Calls Tryd.prog 28 #[.agg #[.slice A n c, .bool q], .agg (edtCells e Aa na ca Ak nk ck)] W fun e' w' => Below W.heap.size W w' ∧ ∃ A' n' c' m', e' = .returned (.tuple #[.agg #[.slice A' n' c', .bool q], .int .i64 m', .int .i64 0])) := fun W hb => by
    have hbw := hb0.trans (hb.mono hb0.size)
    refine (apply_any A n c l q e Aa na ca Ak nk ck W B (hl.below hbw hB) (Nat.le_trans hB hbw.size) (he.below hbw hB)).mono fun e' w' ⟨h1, h2⟩ => ⟨h1, ?_⟩
    rcases h2 with ⟨h2, _⟩ | ⟨_, A', c', h2, _⟩
    · exact absurd hap h2
    · exact ⟨A', _, c', _, h2⟩
  have HMA := Lib.hid (fun W => moved_text A n c q a e Aa na ca Ak nk ck W h3 he.value)
  have HMB := Lib.hid (fun W => moved_text A n c q b e Aa na ca Ak nk ck W h3 he.value)
  unfold edtCells at *
  have d0 := cell_blk (i := 0) hx1 rfl
  have d1 := cell_blk (i := 1) hx1 rfl
  have p0 := cell_blk (i := 0) hx3 rfl
  have p1 := cell_blk (i := 1) hx3 rfl
  have p2 := cell_blk (i := 2) hx3 rfl
  have p3 := cell_blk (i := 3) hx3 rfl
  clear za zb zd hx1 hx2 hx3 hx4 hb0 hl hB he ha1 ha2 hb1 hb2 h3 hsp hap
  go_enter Tryd.func29, Tryd.ntmps29
  go_upto_region 1 with fail
  rw [← hwa, ← hwb, ← hwd, ← hw0]
  clear hwa hwb hwd hw0
  go_upto_region 2 with (go_at_call 61; refine HSP.out.mono ?_; rintro e' w1 ⟨rfl, hbs⟩)
  obtain ⟨w2, hw2⟩ : ∃ w2, w2 = w1.alloc (.cells #[.slice A n c, .bool q] 106) := ⟨_, rfl⟩
  rw [← hw2]
  have hb12 : Below w1.heap.size w1 w2 := by rw [hw2]; exact (Below.refl _ _).alloc (Nat.le_refl _) _
  have hb02 : Below w0.heap.size w0 w2 := hbs.trans (hb12.mono hbs.size)
  have HR2 : Hid (w2.heap[w1.heap.size]? = some (.cells #[.slice A n c, .bool q] 106 (0, 0))) := by rw [hw2]; exact heap_alloc_new w1 _
  have HA2 := Lib.hid (HAP.out w2 hb02)
  have HB02 := Lib.hid hb02
  have y1 := (hb02.block _ (Array.getElem?_eq_some_iff.1 HX1.out).1).trans HX1.out
  have y2 := (hb02.block _ (Array.getElem?_eq_some_iff.1 HX2.out).1).trans HX2.out
  have c0 := cell_blk (i := 0) y1 rfl
  have c1 := cell_blk (i := 1) y1 rfl
  have k0 := cell_blk (i := 0) y2 rfl
  have k1 := cell_blk (i := 1) y2 rfl
  have k2 := cell_blk (i := 2) y2 rfl
  have k3 := cell_blk (i := 3) y2 rfl
  have k4 := cell_blk (i := 4) y2 rfl
  have k5 := cell_blk (i := 5) y2 rfl
  have k6 := cell_blk (i := 6) y2 rfl
  have k7 := cell_blk (i := 7) y2 rfl
  have k8 := cell_blk (i := 8) y2 rfl
  have k9 := cell_blk (i := 9) y2 rfl
  have k10 := cell_blk (i := 10) y2 rfl
  have k11 := cell_blk (i := 11) y2 rfl
  clear hw2 hbs hb12 hb02 y1 y2 d0 d1 p0 p1 p2 p3 HSP HAP
  go_upto_region 6 with (go_at_call 28; refine HA2.out.mono ?_; rintro e' w3 ⟨hb3, A', n', c', m', rfl⟩)
  have hb03 := HB02.out.trans (hb3.mono HB02.out.size)
  have z2 := (hb03.block _ (Array.getElem?_eq_some_iff.1 HX2.out).1).trans HX2.out
  have z3 := (hb03.block _ (Array.getElem?_eq_some_iff.1 HX3.out).1).trans HX3.out
  have zr := (hb3.block _ (Array.getElem?_eq_some_iff.1 HR2.out).1).trans HR2.out
  have HB03 := Lib.hid hb03
  clear c0 c1 k0 k1 k2 k3 k4 k5 k6 k7 k8 k9 k10 k11 hb3 hb03
  have g0 := cell_blk (i := 0) zr rfl
  have g1 := cell_blk (i := 1) zr rfl
  have e0 := cell_blk (i := 0) z2 rfl
  have e1 := cell_blk (i := 1) z2 rfl
  have e2 := cell_blk (i := 2) z2 rfl
  have e3 := cell_blk (i := 3) z2 rfl
  have e4 := cell_blk (i := 4) z2 rfl
  have e5 := cell_blk (i := 5) z2 rfl
  have e6 := cell_blk (i := 6) z2 rfl
  have e7 := cell_blk (i := 7) z2 rfl
  have e8 := cell_blk (i := 8) z2 rfl
  have e9 := cell_blk (i := 9) z2 rfl
  have e10 := cell_blk (i := 10) z2 rfl
  have e11 := cell_blk (i := 11) z2 rfl
  have s0 := cell_blk (i := 0) z3 rfl
  have s1 := cell_blk (i := 1) z3 rfl
  have s2 := cell_blk (i := 2) z3 rfl
  have s3 := cell_blk (i := 3) z3 rfl
  clear zr z2 z3 HA2
  refine wp_region_G (S := (fun w' : World => w'.cell? ⟨w1.heap.size, 0, none⟩ = some (.slice A n c) ∧ w'.cell? ⟨w1.heap.size, 1, none⟩ = some (.bool q) ∧ w'.cell? ⟨w.heap.size + 1, 0, none⟩ = some (.int .i64 e.do_) ∧ w'.cell? ⟨w.heap.size + 1, 1, none⟩ = some (.int .i64 e.at_) ∧ w'.cell? ⟨w.heap.size + 1, 2, none⟩ = some (.int .i64 e.to_) ∧ w'.cell? ⟨w.heap.size + 1, 3, none⟩ = some (.int .i64 e.before) ∧ w'.cell? ⟨w.heap.size + 1, 4, none⟩ = some (.string e.name) ∧ w'.cell? ⟨w.heap.size + 1, 5, none⟩ = some (.string e.value) ∧ w'.cell? ⟨w.heap.size + 1, 6, none⟩ = some (.int .i64 e.node.kind) ∧ w'.cell? ⟨w.heap.size + 1, 7, none⟩ = some (.string e.node.name) ∧ w'.cell? ⟨w.heap.size + 1, 8, none⟩ = some (.slice Aa na ca) ∧ w'.cell? ⟨w.heap.size + 1, 9, none⟩ = some (.string e.node.text) ∧ w'.cell? ⟨w.heap.size + 1, 10, none⟩ = some (.int .i64 e.node.parent) ∧ w'.cell? ⟨w.heap.size + 1, 11, none⟩ = some (.slice Ak nk ck) ∧ w'.cell? ⟨w.heap.size + 1 + 1, 0, none⟩ = some (.int .i64 a.node) ∧ w'.cell? ⟨w.heap.size + 1 + 1, 1, none⟩ = some (.int .i64 a.at_) ∧ w'.cell? ⟨w.heap.size + 1 + 1, 2, none⟩ = some (.int .i64 b.node) ∧ w'.cell? ⟨w.heap.size + 1 + 1, 3, none⟩ = some (.int .i64 b.at_))) (T := [11, 12]) (by kernel_rfl) ?_
  have hS : (fun w' : World => w'.cell? ⟨w1.heap.size, 0, none⟩ = some (.slice A n c) ∧ w'.cell? ⟨w1.heap.size, 1, none⟩ = some (.bool q) ∧ w'.cell? ⟨w.heap.size + 1, 0, none⟩ = some (.int .i64 e.do_) ∧ w'.cell? ⟨w.heap.size + 1, 1, none⟩ = some (.int .i64 e.at_) ∧ w'.cell? ⟨w.heap.size + 1, 2, none⟩ = some (.int .i64 e.to_) ∧ w'.cell? ⟨w.heap.size + 1, 3, none⟩ = some (.int .i64 e.before) ∧ w'.cell? ⟨w.heap.size + 1, 4, none⟩ = some (.string e.name) ∧ w'.cell? ⟨w.heap.size + 1, 5, none⟩ = some (.string e.value) ∧ w'.cell? ⟨w.heap.size + 1, 6, none⟩ = some (.int .i64 e.node.kind) ∧ w'.cell? ⟨w.heap.size + 1, 7, none⟩ = some (.string e.node.name) ∧ w'.cell? ⟨w.heap.size + 1, 8, none⟩ = some (.slice Aa na ca) ∧ w'.cell? ⟨w.heap.size + 1, 9, none⟩ = some (.string e.node.text) ∧ w'.cell? ⟨w.heap.size + 1, 10, none⟩ = some (.int .i64 e.node.parent) ∧ w'.cell? ⟨w.heap.size + 1, 11, none⟩ = some (.slice Ak nk ck) ∧ w'.cell? ⟨w.heap.size + 1 + 1, 0, none⟩ = some (.int .i64 a.node) ∧ w'.cell? ⟨w.heap.size + 1 + 1, 1, none⟩ = some (.int .i64 a.at_) ∧ w'.cell? ⟨w.heap.size + 1 + 1, 2, none⟩ = some (.int .i64 b.node) ∧ w'.cell? ⟨w.heap.size + 1 + 1, 3, none⟩ = some (.int .i64 b.at_)) w3.drew := ⟨g0, g1, e0, e1, e2, e3, e4, e5, e6, e7, e8, e9, e10, e11, s0, s1, s2, s3⟩
  refine wpAnyG_take (i := 0) (v := ?_) rfl (by kernel_rfl) (by kernel_rfl) (by kernel_rfl) (by kernel_rfl) (fun _ _ _ h => h) hS rfl ?_ ?_
  rotate_left
  · intro w' hSw
    (try dsimp only at hSw)
    first | (go_simp; done) | (go_simp; with_reducible rfl)
  refine wpAnyG_pure (i := 1) (v := ?_) rfl (by kernel_rfl) (by kernel_rfl) (by kernel_rfl) (fun _ _ _ h => h) rfl ?_ ?_
  rotate_left
  · intro w'
    first | (go_simp; done) | (go_simp; with_reducible rfl)
  refine wpAnyG_take (i := 2) (v := ?_) rfl (by kernel_rfl) (by kernel_rfl) (by kernel_rfl) (by kernel_rfl) (fun _ _ _ h => h) hS rfl ?_ ?_
  rotate_left
  · intro w' hSw
    (try dsimp only at hSw)
    first | (go_simp; done) | (go_simp; with_reducible rfl)
  refine wpAnyG_take (i := 3) (v := ?_) rfl (by kernel_rfl) (by kernel_rfl) (by kernel_rfl) (by kernel_rfl) (fun _ _ _ h => h) hS rfl ?_ ?_
  rotate_left
  · intro w' hSw
    (try dsimp only at hSw)
    first | (go_simp; done) | (go_simp; with_reducible rfl)
  refine wpAnyG_take (i := 5) (v := ?_) rfl (by kernel_rfl) (by kernel_rfl) (by kernel_rfl) (by kernel_rfl) (fun _ _ _ h => h) hS rfl ?_ ?_
  rotate_left
  · intro w' hSw
    (try dsimp only at hSw)
    first | (go_simp; done) | (go_simp; with_reducible rfl)
  refine wpAnyG_pure (i := 6) (v := ?_) rfl (by kernel_rfl) (by kernel_rfl) (by kernel_rfl) (fun _ _ _ h => h) rfl ?_ ?_
  rotate_left
  · intro w'
    first | (go_simp; done) | (go_simp; with_reducible rfl)
  refine wpAnyG_take (i := 7) (v := ?_) rfl (by kernel_rfl) (by kernel_rfl) (by kernel_rfl) (by kernel_rfl) (fun _ _ _ h => h) hS rfl ?_ ?_
  rotate_left
  · intro w' hSw
    (try dsimp only at hSw)
    first | (go_simp; done) | (go_simp; with_reducible rfl)
  refine wpAnyG_take (i := 8) (v := ?_) rfl (by kernel_rfl) (by kernel_rfl) (by kernel_rfl) (by kernel_rfl) (fun _ _ _ h => h) hS rfl ?_ ?_
  rotate_left
  · intro w' hSw
    (try dsimp only at hSw)
    first | (go_simp; done) | (go_simp; with_reducible rfl)
  refine wpAnyG_one (i := 4) (by kernel_rfl) rfl rfl (fun K hK => ?_)
  go_simp
  go_at_call 62
  refine (HMA.out w3.drew).mono ?_
  rintro e' w4 ⟨rfl, hb4⟩
  have hb34 : Below w3.heap.size w3 w4 := ((Below.refl _ w3).drew).trans hb4
  go_wp2_with fail
  refine hK.out _ _ (fun _ _ => ⟨cell_be g0 hb34, cell_be g1 hb34, cell_be e0 hb34, cell_be e1 hb34, cell_be e2 hb34, cell_be e3 hb34, cell_be e4 hb34, cell_be e5 hb34, cell_be e6 hb34, cell_be e7 hb34, cell_be e8 hb34, cell_be e9 hb34, cell_be e10 hb34, cell_be e11 hb34, cell_be s0 hb34, cell_be s1 hb34, cell_be s2 hb34, cell_be s3 hb34⟩) ?_
  clear hK K hS
  refine wpAnyG_one (i := 9) (by kernel_rfl) rfl rfl (fun K hK => ?_)
  go_simp
  go_at_call 62
  refine (HMB.out w4).mono ?_
  rintro e' w5 ⟨rfl, hb5⟩
  have hb35 : Below w3.heap.size w3 w5 := hb34.trans (hb5.mono hb34.size)
  go_wp2_with fail
  refine hK.out _ _ (fun _ _ => ⟨cell_be g0 hb35, cell_be g1 hb35, cell_be e0 hb35, cell_be e1 hb35, cell_be e2 hb35, cell_be e3 hb35, cell_be e4 hb35, cell_be e5 hb35, cell_be e6 hb35, cell_be e7 hb35, cell_be e8 hb35, cell_be e9 hb35, cell_be e10 hb35, cell_be e11 hb35, cell_be s0 hb35, cell_be s1 hb35, cell_be s2 hb35, cell_be s3 hb35⟩) ?_
  clear hK K
  refine wpAnyG_one (i := 10) (by kernel_rfl) rfl rfl (fun K hK => ?_)
  go_simp
  refine hK.out _ _ (fun _ h => h) ?_
  clear hK K
  have hb05 := HB03.out.trans (hb35.mono HB03.out.size)
  have v4 := (hb05.block _ (Array.getElem?_eq_some_iff.1 HX4.out).1).trans HX4.out
  have x0 := cell_blk (i := 0) v4 rfl
  have x1 := cell_blk (i := 1) v4 rfl
  have x2 := cell_blk (i := 2) v4 rfl
  have x3 := cell_blk (i := 3) v4 rfl
  have f0 := free_blk (i := 0) v4
  have f1 := free_blk (i := 1) v4
  have f2 := free_blk (i := 2) v4
  have f3 := free_blk (i := 3) v4
  have q1 := set_blk (i := 0) v4 (.int .i64 a.node)
  have q2 := set_blk (i := 1) q1 (.int .i64 (textTo a e))
  have q3 := set_blk (i := 2) q2 (.int .i64 b.node)
  have q4 := set_blk (i := 3) q3 (.int .i64 (textTo b e))
  have u0 := cell_blk (i := 0) (v := .int .i64 a.node) q4 rfl
  have u1 := cell_blk (i := 1) (v := .int .i64 (textTo a e)) q4 rfl
  have u2 := cell_blk (i := 2) (v := .int .i64 b.node) q4 rfl
  have u3 := cell_blk (i := 3) (v := .int .i64 (textTo b e)) q4 rfl
  have hres : ∀ (j : Nat) (x : Value) (u : World), Below w.heap.size w u → Below w.heap.size w (u.setCell ⟨w.heap.size + 1 + 1 + 1, j, none⟩ x) := fun j x u h => h.setCell (p := ⟨w.heap.size + 1 + 1 + 1, j, none⟩) (by show w.heap.size ≤ w.heap.size + 1 + 1 + 1; omega) x
  have HBF := Lib.hid (hres 3 (.int .i64 (textTo b e)) _ (hres 2 (.int .i64 b.node) _ (hres 1 (.int .i64 (textTo a e)) _ (hres 0 (.int .i64 a.node) _ (HB0.out.trans (hb05.mono HB0.out.size))))))
  clear q1 q2 q3 q4 v4 hres hb05 hb35 hb34
  refine wpAnyG_one (i := 11) (by kernel_rfl) rfl rfl (fun K hK => ?_)
  go_simp
  go_wp2_with fail
  refine hK.out _ _ (fun h => absurd (by decide) h) ?_
  clear hK K
  refine wpAnyG_one (i := 12) (by kernel_rfl) rfl rfl (fun K hK => ?_)
  go_simp
  refine hK.out _ _ (fun h => absurd (by decide) h) ?_
  clear hK K
  refine wpAnyG_done (by kernel_rfl) ?_ _
  go_wp2_with fail
  refine bodyPost_ret (v := .tuple #[.agg #[.int .i64 a.node, .int .i64 (textTo a e), .int .i64 b.node, .int .i64 (textTo b e)], .int .i64 0]) (by simp [results, Tryd.results29, go_sem, u0, u1, u2, u3]) rfl ⟨rfl, HBF.out⟩
end Go.Proofs.YtcnogokemilhnaaDoor
