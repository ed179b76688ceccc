/-
Patches: the walk of made, at a node without kids and attributes.
-/
import Derived.Test.YtomleengbnfikaaDoorPatNode
namespace Go.Proofs.YtomleengbnfikaaDoor
open Go.RowKit Go.Cl
attribute [local go_sem ↓] Go.wp_at_zero Go.wp_at_succ

set_option maxRecDepth 100000 in
set_option maxHeartbeats 4000000 in
theorem push_rep (w : World) (base E : Nat) (A : Option Addr) (n c : Nat) (q : Bool) (A2 : Option Addr) (n2 c2 : Nat) (q2 : Bool) (v : Value) (es : List Edt) (m : Int) (e : Edt) (h : Df w base E A n c q A2 n2 c2 q2 v es m) (he : ∀ W : World, tEdt.rep W (fun _ => False) e (edtCells e none 0 0 none 0 0).toList) (hle : es.length ≤ 100000) :
    Calls Tryd.prog 30 #[.pointer (some ⟨E, 0, none⟩), .agg (edtCells e none 0 0 none 0 0)] w fun e' w' => e' = .returned undef ∧ DStep w base E A n c q A2 n2 c2 q2 v (es ++ [e]) m w' := by
  obtain ⟨w0, hw0⟩ : ∃ w0, w0 = w.alloc (.cells (edtCells e none 0 0 none 0 0) 30) := ⟨_, rfl⟩
  have hx0 : w0.heap[w.heap.size]? = some (.cells (edtCells e none 0 0 none 0 0) 30 (0, 0)) := by rw [hw0]; exact heap_alloc_new w _
  have hb0 : Below w.heap.size w w0 := by rw [hw0]; exact (Below.refl _ _).alloc (Nat.le_refl _) _
  have h0 := h.next hb0
  obtain ⟨Av, cv, rfl⟩ := Own.form h.row
  have hrow := OwnF.drew (OwnF.al h0.row (.cells (edtCells e none 0 0 none 0 0) 30))
  obtain ⟨v', w2, hrun, hown, hg, hbl, hv⟩ := run_ap1 (P := Tryd.prog) (t := 40) (ty := 40) (c := 1) (w0.alloc (.cells (edtCells e none 0 0 none 0 0) 30)).drew elemEdt hrow (fun _ h => h.elim) (y := e) (cs := (edtCells e none 0 0 none 0 0).toList) (he _) (cell_new w0 _ _) (by omega) (by omega) (by show base ≤ (w0.alloc _).heap.size; rw [World.size_alloc]; exact Nat.le_succ_of_le (Nat.le_trans h0.lo (Nat.le_of_lt h0.lt)))
  obtain ⟨Aw, cw, rfl⟩ := Own.form hown
  have HRUN := Lib.hid hrun
  have HOWN := Lib.hid hown
  have HG := Lib.hid hg
  have HV := Lib.hid hv
  have HB0 := Lib.hid hb0
  have HD := Lib.hid h
  have HD0 := Lib.hid h0
  have hES : E < w.heap.size := h.lt
  have HX0 := Lib.hid hx0
  have HBX : Hid (Bx2 E w.heap.size (.cells (dfCells A n c q A2 n2 c2 q2 (.slice Av es.length cv) m) 59 (0, 0)) (.cells (edtCells e none 0 0 none 0 0) 30 (0, 0)) w0) := ⟨h0.box, hx0⟩
  have hz0 : w0.heap.size = w.heap.size + 1 := by rw [hw0]; exact World.size_alloc w _
  have HBX2 : Hid (Bx2 E w.heap.size (.cells (dfCells A n c q A2 n2 c2 q2 (.slice Av es.length cv) m) 59 (0, 0)) (.cells (edtCells e none 0 0 none 0 0) 30 (0, 0)) w2) := by
    have h1 := HBX.out.next (show Below w0.heap.size w0 (w0.alloc (.cells (edtCells e none 0 0 none 0 0) 30)).drew from ((Below.refl _ w0).alloc (Nat.le_refl _) _).drew)
    have hsz : (w0.alloc (.cells (edtCells e none 0 0 none 0 0) 30)).drew.heap.size = w0.heap.size + 1 := World.size_alloc w0 _
    refine ⟨(hg.block E (by omega) (Ne.symm h.ne)).trans h1.1, (hg.block w.heap.size (by omega) fun e2 => ?_).trans h1.2⟩
    have := (Own.lt h.row _ e2.symm).2
    omega
  unfold edtCells
  unfold edtCells at hw0
  clear hrow hrun hown hg hbl hv hb0 h h0 hx0
  go_enter Tryd.func30, Tryd.ntmps30
  go_upto_region 1 with fail
  rw [← hw0]
  clear hw0
  refine wp_region_G (S := Bx2 E w.heap.size (.cells (dfCells A n c q A2 n2 c2 q2 (.slice Av es.length cv) m) 59 (0, 0)) (.cells (edtCells e none 0 0 none 0 0) 30 (0, 0))) (T := [10]) (by kernel_rfl) ?_
  have hS : Bx2 E w.heap.size (.cells (dfCells A n c q A2 n2 c2 q2 (.slice Av es.length cv) m) 59 (0, 0)) (.cells (edtCells e none 0 0 none 0 0) 30 (0, 0)) w0.drew := HBX.out.next (Below.refl _ w0).drew
  refine wpAnyG_pure (i := 0) (v := ?_) rfl (by kernel_rfl) (by kernel_rfl) (by kernel_rfl) (fun _ _ _ h => h) rfl ?_ ?_
  rotate_left
  · intro w'
    first | (go_simp; done) | (go_simp; with_reducible rfl)
  refine wpAnyG_pure (i := 1) (v := ?_) rfl (by kernel_rfl) (by kernel_rfl) (by kernel_rfl) (fun _ _ _ h => h) rfl ?_ ?_
  rotate_left
  · intro w'
    first | (go_simp; done) | (go_simp; with_reducible rfl)
  refine wpAnyG_pure (i := 2) (v := ?_) rfl (by kernel_rfl) (by kernel_rfl) (by kernel_rfl) (fun _ _ _ h => h) rfl ?_ ?_
  rotate_left
  · intro w'
    first | (go_simp; done) | (go_simp; with_reducible rfl)
  refine wpAnyG_pure (i := 3) (v := ?_) rfl (by kernel_rfl) (by kernel_rfl) (by kernel_rfl) (fun _ _ _ h => h) rfl ?_ ?_
  rotate_left
  · intro w'
    first | (go_simp; done) | (go_simp; with_reducible rfl)
  refine wpAnyG_take (i := 4) (v := ?_) rfl (by kernel_rfl) (by kernel_rfl) (by kernel_rfl) (by kernel_rfl) (fun _ _ _ h => h) hS rfl ?_ ?_
  rotate_left
  · intro w' hSw
    have x4 : w'.cell? ⟨E, 4, none⟩ = some (.slice Av es.length cv) := cell_blk (i := 4) hSw.1 rfl
    first | (go_simp; done) | (go_simp; with_reducible rfl)
  refine wpAnyG_take (i := 5) (v := ?_) rfl (by kernel_rfl) (by kernel_rfl) (by kernel_rfl) (by kernel_rfl) (fun _ _ _ h => h) hS rfl ?_ ?_
  rotate_left
  · intro w' hSw
    have x0 : w'.cell? ⟨w.heap.size, 0, none⟩ = some (.int .i64 e.do_) := cell_blk (i := 0) hSw.2 rfl
    have x1 : w'.cell? ⟨w.heap.size, 1, none⟩ = some (.int .i64 e.at_) := cell_blk (i := 1) hSw.2 rfl
    have x2 : w'.cell? ⟨w.heap.size, 2, none⟩ = some (.int .i64 e.to_) := cell_blk (i := 2) hSw.2 rfl
    have x3 : w'.cell? ⟨w.heap.size, 3, none⟩ = some (.int .i64 e.before) := cell_blk (i := 3) hSw.2 rfl
    have x4 : w'.cell? ⟨w.heap.size, 4, none⟩ = some (.string e.name) := cell_blk (i := 4) hSw.2 rfl
    have x5 : w'.cell? ⟨w.heap.size, 5, none⟩ = some (.string e.value) := cell_blk (i := 5) hSw.2 rfl
    have x6 : w'.cell? ⟨w.heap.size, 6, none⟩ = some (.int .i64 e.node.kind) := cell_blk (i := 6) hSw.2 rfl
    have x7 : w'.cell? ⟨w.heap.size, 7, none⟩ = some (.string e.node.name) := cell_blk (i := 7) hSw.2 rfl
    have x8 : w'.cell? ⟨w.heap.size, 8, none⟩ = some (.slice none 0 0) := cell_blk (i := 8) hSw.2 rfl
    have x9 : w'.cell? ⟨w.heap.size, 9, none⟩ = some (.string e.node.text) := cell_blk (i := 9) hSw.2 rfl
    have x10 : w'.cell? ⟨w.heap.size, 10, none⟩ = some (.int .i64 e.node.parent) := cell_blk (i := 10) hSw.2 rfl
    have x11 : w'.cell? ⟨w.heap.size, 11, none⟩ = some (.slice none 0 0) := cell_blk (i := 11) hSw.2 rfl
    first | (go_simp; done) | (go_simp; with_reducible rfl)
  refine wpAnyG_one (i := 6) (by kernel_rfl) rfl rfl (fun K hK => ?_)
  go_simp
  refine hK.out _ _ (fun _ _ => HBX.out.next (((Below.refl _ w0).alloc (Nat.le_refl _) _).drew)) ?_
  clear hK K hS
  refine wpAnyG_one (i := 7) (by kernel_rfl) rfl rfl (fun K hK => ?_)
  refine wp_append_runI (.tmp 8) (.tmp 10) 40 rfl (.slice Av es.length cv) (.slice (some ⟨w0.heap.size, 0, none⟩) 1 1) (by go_simp) (by go_simp) HRUN.out ?_
  refine hK.out _ _ (fun _ _ => HBX2.out) ?_
  clear hK K
  refine wpAnyG_pure (i := 8) (v := ?_) rfl (by kernel_rfl) (by kernel_rfl) (by kernel_rfl) (fun _ _ _ h => h) rfl ?_ ?_
  rotate_left
  · intro w'
    first | (go_simp; done) | (go_simp; with_reducible rfl)
  refine wpAnyG_pure (i := 9) (v := ?_) rfl (by kernel_rfl) (by kernel_rfl) (by kernel_rfl) (fun _ _ _ h => h) rfl ?_ ?_
  rotate_left
  · intro w'
    first | (go_simp; done) | (go_simp; with_reducible rfl)
  have y4 := free_blk (i := 4) HBX2.out.1
  have z4 : w2.cell? ⟨E, 4, none⟩ = some (.slice Av es.length cv) := cell_blk (i := 4) HBX2.out.1 rfl
  refine wpAnyG_one (i := 10) (by kernel_rfl) rfl rfl (fun K hK => ?_)
  go_simp
  refine hK.out _ _ (fun h => absurd (by decide) h) ?_
  clear hK K
  refine wpAnyG_done (by kernel_rfl) ?_ _
  go_simp
  have hDS : DStep w base E A n c q A2 n2 c2 q2 (.slice Av es.length cv) (es ++ [e]) m (w2.setCell ⟨E, 4, none⟩ (.slice Aw (es.length + 1) cw)) := by
    have hll : (es ++ [e]).length = es.length + 1 := by simp
    refine ⟨⟨.slice Aw (es.length + 1) cw, ⟨set_blk (i := 4) HBX2.out.1 _, ?_, HD.out.lo⟩, fun b hb => ?_⟩, ?_⟩
    · rw [hll]
      exact Own.kept HOWN.out (grown_set w2 E 4 _) (Or.inr (own_ne_block (by decide) HOWN.out HBX2.out.1)) (fun _ h => h.elim)
    · rcases HV.out with h | h
      · exact .inl (h.symm.trans hb)
      · rw [h] at hb
        injection hb with hb
        right
        rw [← hb]
        show w.heap.size ≤ (w0.alloc _).heap.size
        rw [World.size_alloc]
        omega
    · have t1 : Tou (fun b => b = E ∨ (Value.slice Av es.length cv).ownBlock = some b) w (w0.alloc (.cells (edtCells e none 0 0 none 0 0) 30)).drew := Tou.of_below (HB0.out.trans ((((Below.refl _ w0).alloc (Nat.le_refl _) _).drew).mono HB0.out.size))
      have t2 := t1.trans (Tou.of_grown HG.out) fun k _ h => .inr h.symm
      exact t2.trans (tou_set w2 E 4 _) fun k _ h => .inl h
  go_wp2_with fail
  exact bodyPost_end (results_none rfl _ _ _) rfl ⟨rfl, hDS⟩

theorem clone_nil (w : World) : Calls Tryd.prog 25 #[.slice none 0 0] w fun e w' => e = .returned (.slice none 0 0) ∧ Below w.heap.size w w' := by
  have heq := fun (a : Option Addr) (k q : Nat) (wx : World) => Lib.run_eql_slice_nil (P := Tryd.prog) wx 25 37 a k q 0 0 Tryd.underlying25
  go_enter Tryd.func25, Tryd.ntmps25
  go_wp2_with fail
  go_ret
  exact ⟨rfl, Below.refl _ _⟩
/-- The edit that makes a node. -/
def makeE (kd : Int) (nm tx : ByteArray) : Edt := ⟨4, 0, 0, 0, ⟨#[]⟩, ⟨#[]⟩, ⟨kd, nm, [], tx, 0, []⟩⟩
theorem make_rep {W : World} {kd : Int} {nm tx : ByteArray} (hkd : (Lit.int .i64 kd).wf = true) (hnm : nm.size ≤ 1000) (htx : tx.size ≤ 1000) : tEdt.rep W (fun _ => False) (makeE kd nm tx) (edtCells (makeE kd nm tx) none 0 0 none 0 0).toList :=
  edt_rep ⟨⟨Sl.nil, Sl.nil, hkd, Nat.le_trans hnm (show 1000 ≤ 1152921504606846976 by decide), Nat.le_trans htx (show 1000 ≤ 1152921504606846976 by decide), rfl⟩, rfl, rfl, rfl, Nat.zero_le _, Nat.zero_le _⟩ rfl
set_option maxRecDepth 100000 in
set_option maxHeartbeats 8000000 in
theorem made_one (w : World) (base E : Nat) (A : Option Addr) (n c : Nat) (q : Bool) (b2 o2 n2 c2 : Nat) (q2 : Bool) (v : Value) (es : List Edt) (m k : Nat) (kd par : Int) (nm tx : ByteArray) (h : Df w base E A n c q (some ⟨b2, o2, none⟩) n2 c2 q2 v es (m : Int)) (hle : es.length ≤ 1000) (hm : m ≤ 1000) (hkn : k < n2)
    (hkd : (Lit.int .i64 kd).wf = true) (hnm : nm.size ≤ 1000) (htx : tx.size ≤ 1000)
    (p0 : w.cell? ⟨b2, o2 + k * 6, none⟩ = some (.int .i64 kd)) (p1 : w.cell? ⟨b2, o2 + k * 6 + 1, none⟩ = some (.string nm)) (p2 : w.cell? ⟨b2, o2 + k * 6 + 2, none⟩ = some (.slice none 0 0)) (p3 : w.cell? ⟨b2, o2 + k * 6 + 3, none⟩ = some (.string tx)) (p4 : w.cell? ⟨b2, o2 + k * 6 + 4, none⟩ = some (.int .i64 par)) (p5 : w.cell? ⟨b2, o2 + k * 6 + 5, none⟩ = some (.slice none 0 0)) (hb2 : b2 ≠ E) :
    Calls Tryd.prog 34 #[.pointer (some ⟨E, 0, none⟩), .int .i64 (k : Int)] w fun e' w' => e' = .returned (.int .i64 (m : Int)) ∧ DStep w base E A n c q (some ⟨b2, o2, none⟩) n2 c2 q2 v (es ++ [makeE kd nm tx]) ((m : Int) + 1) w' := by
  obtain ⟨w1, hw1⟩ : ∃ w1, w1 = w.setCell ⟨E, 5, none⟩ (.int .i64 ((m : Int) + 1)) := ⟨_, rfl⟩
  have hd1 : Df w1 base E A n c q (some ⟨b2, o2, none⟩) n2 c2 q2 v es ((m : Int) + 1) := by
    rw [hw1]
    exact ⟨set_blk (i := 5) h.box _, Own.kept h.row (grown_set w E 5 _) (Or.inr h.ne) (fun _ h => h.elim), h.lo⟩
  have ht1 : Tou (fun b => b = E ∨ v.ownBlock = some b) w w1 := by rw [hw1]; exact (tou_set w E 5 _).mono fun _ _ e => .inl e
  have hf : ∀ (i : Nat) u, w.cell? ⟨b2, i, none⟩ = some u → w1.cell? ⟨b2, i, none⟩ = some u := fun i u hu => by rw [hw1]; exact cell_far (Ne.symm hb2) hu _
  have r0 := hf _ _ p0
  have r1 := hf _ _ p1
  have r2 := hf _ _ p2
  have r3 := hf _ _ p3
  have r4 := hf _ _ p4
  have r5 := hf _ _ p5
  obtain ⟨w2, hw2⟩ : ∃ w2, w2 = w1.alloc (.cells #[.int .i64 kd, .string nm, .slice none 0 0, .string tx, .int .i64 par, .slice none 0 0] 28) := ⟨_, rfl⟩
  have hb12 : Below w1.heap.size w1 w2 := by rw [hw2]; exact balloc3 (Below.refl _ _) _
  have hx2 : w2.heap[w1.heap.size]? = some (.cells #[.int .i64 kd, .string nm, .slice none 0 0, .string tx, .int .i64 par, .slice none 0 0] 28 (0, 0)) := by rw [hw2]; exact heap_alloc_new w1 _
  have hZ : w1.heap.size = w.heap.size := by rw [hw1]; simp
  rw [hZ] at hx2
  have hd2 := hd1.next hb12
  have e5 : w.cell? ⟨E, 5, none⟩ = some (.int .i64 (m : Int)) := cell_blk (i := 5) h.box rfl
  have f5 := free_blk (i := 5) h.box
  have e2 : w1.cell? ⟨E, 2, none⟩ = some (.slice (some ⟨b2, o2, none⟩) n2 c2) := cell_blk (i := 2) hd1.box rfl
  have k1 : (0 : Int) ≤ (k : Int) := by omega
  have k2 : (k : Int) < (n2 : Int) := by omega
  have HPU := Lib.hid (fun (W : World) (hW : Below w2.heap.size w2 W) => (show Calls Tryd.prog 30 #[.pointer (some ⟨E, 0, none⟩), .agg #[.int .i64 4, .int .i64 0, .int .i64 0, .int .i64 0, .string ⟨#[]⟩, .string ⟨#[]⟩, .int .i64 kd, .string nm, .slice none 0 0, .string tx, .int .i64 0, .slice none 0 0]] W _ from push_rep W base E A n c q (some ⟨b2, o2, none⟩) n2 c2 q2 v es ((m : Int) + 1) (makeE kd nm tx) (hd2.next hW) (fun _ => make_rep hkd hnm htx) (by omega)))
  have HCN := Lib.hid (fun W => clone_nil W)
  have HX2 := Lib.hid hx2
  have HD2 := Lib.hid hd2
  have HT1 := Lib.hid ht1
  have HB12 := Lib.hid hb12
  have g0 := cell_blk (i := 0) (v := .int .i64 kd) hx2 rfl
  have g1 := cell_blk (i := 1) (v := .string nm) hx2 rfl
  have g2 := cell_blk (i := 2) (v := .slice none 0 0) hx2 rfl
  have g3 := cell_blk (i := 3) (v := .string tx) hx2 rfl
  have g5 := cell_blk (i := 5) (v := .slice none 0 0) hx2 rfl
  clear h hd1 ht1 hf p0 p1 p2 p3 p4 p5 hb12 hx2 hd2
  go_enter Tryd.func34, Tryd.ntmps34
  go_upto_region 3 with fail
  rw [← hw1]
  clear hw1 e5 f5
  go_upto_region 4 with fail
  rw [← hw2]
  clear hw2 r0 r1 r2 r3 r4 r5 e2
  refine wp_region_G (S := fun W : World => W.heap[w.heap.size]? = some (.cells #[.int .i64 kd, .string nm, .slice none 0 0, .string tx, .int .i64 par, .slice none 0 0] 28 (0, 0))) (T := []) (by kernel_rfl) ?_
  have hS : (fun W : World => W.heap[w.heap.size]? = some (.cells #[.int .i64 kd, .string nm, .slice none 0 0, .string tx, .int .i64 par, .slice none 0 0] 28 (0, 0))) w2.drew := HX2.out
  refine wpAnyG_pure (i := 0) (v := ?_) rfl (by kernel_rfl) (by kernel_rfl) (by kernel_rfl) (fun _ _ _ h => h) rfl ?_ ?_
  rotate_left
  · intro w'
    first | (go_simp; done) | (go_simp; with_reducible rfl)
  refine wpAnyG_pure (i := 1) (v := ?_) rfl (by kernel_rfl) (by kernel_rfl) (by kernel_rfl) (fun _ _ _ h => h) rfl ?_ ?_
  rotate_left
  · intro w'
    first | (go_simp; done) | (go_simp; with_reducible rfl)
  refine wpAnyG_take (i := 2) (v := ?_) rfl (by kernel_rfl) (by kernel_rfl) (by kernel_rfl) (by kernel_rfl) (fun _ _ _ h => h) hS rfl ?_ ?_
  rotate_left
  · intro w' hSw
    have gg : w'.cell? ⟨w.heap.size, 0, none⟩ = some (.int .i64 kd) := cell_blk (i := 0) hSw rfl
    first | (go_simp; done) | (go_simp; with_reducible rfl)
  refine wpAnyG_pure (i := 3) (v := ?_) rfl (by kernel_rfl) (by kernel_rfl) (by kernel_rfl) (fun _ _ _ h => h) rfl ?_ ?_
  rotate_left
  · intro w'
    first | (go_simp; done) | (go_simp; with_reducible rfl)
  refine wpAnyG_take (i := 4) (v := ?_) rfl (by kernel_rfl) (by kernel_rfl) (by kernel_rfl) (by kernel_rfl) (fun _ _ _ h => h) hS rfl ?_ ?_
  rotate_left
  · intro w' hSw
    have gg : w'.cell? ⟨w.heap.size, 1, none⟩ = some (.string nm) := cell_blk (i := 1) hSw rfl
    first | (go_simp; done) | (go_simp; with_reducible rfl)
  refine wpAnyG_pure (i := 5) (v := ?_) rfl (by kernel_rfl) (by kernel_rfl) (by kernel_rfl) (fun _ _ _ h => h) rfl ?_ ?_
  rotate_left
  · intro w'
    first | (go_simp; done) | (go_simp; with_reducible rfl)
  refine wpAnyG_take (i := 6) (v := ?_) rfl (by kernel_rfl) (by kernel_rfl) (by kernel_rfl) (by kernel_rfl) (fun _ _ _ h => h) hS rfl ?_ ?_
  rotate_left
  · intro w' hSw
    have gg : w'.cell? ⟨w.heap.size, 2, none⟩ = some (.slice none 0 0) := cell_blk (i := 2) hSw rfl
    first | (go_simp; done) | (go_simp; with_reducible rfl)
  refine wpAnyG_pure (i := 8) (v := ?_) rfl (by kernel_rfl) (by kernel_rfl) (by kernel_rfl) (fun _ _ _ h => h) rfl ?_ ?_
  rotate_left
  · intro w'
    first | (go_simp; done) | (go_simp; with_reducible rfl)
  refine wpAnyG_take (i := 9) (v := ?_) rfl (by kernel_rfl) (by kernel_rfl) (by kernel_rfl) (by kernel_rfl) (fun _ _ _ h => h) hS rfl ?_ ?_
  rotate_left
  · intro w' hSw
    have gg : w'.cell? ⟨w.heap.size, 3, none⟩ = some (.string tx) := cell_blk (i := 3) hSw rfl
    first | (go_simp; done) | (go_simp; with_reducible rfl)
  refine wpAnyG_one (i := 7) (by kernel_rfl) rfl rfl (fun K hK => ?_)
  go_simp
  go_at_call 25
  refine (HCN.out w2.drew).mono ?_
  rintro e' w3 ⟨rfl, hb3⟩
  have hb23 : Below w2.heap.size w2 w3 := (Below.refl _ w2).drew.trans hb3
  have hx3 := (hb23.block _ (Array.getElem?_eq_some_iff.1 HX2.out).1).trans HX2.out
  have HX3 := Lib.hid hx3
  have HB23 := Lib.hid hb23
  clear hb3 hb23 hx3
  go_wp2_with fail
  refine hK.out _ _ (fun _ _ => HX3.out) ?_
  clear hK K hS g0 g1 g2 g3 g5
  refine wpAnyG_pure (i := 10) (v := ?_) rfl (by kernel_rfl) (by kernel_rfl) (by kernel_rfl) (fun _ _ _ h => h) rfl ?_ ?_
  rotate_left
  · intro w'
    first | (go_simp; done) | (go_simp; with_reducible rfl)
  refine wpAnyG_pure (i := 11) (v := ?_) rfl (by kernel_rfl) (by kernel_rfl) (by kernel_rfl) (fun _ _ _ h => h) rfl ?_ ?_
  rotate_left
  · intro w'
    first | (go_simp; done) | (go_simp; with_reducible rfl)
  refine wpAnyG_one (i := 12) (by kernel_rfl) rfl rfl (fun K hK => ?_)
  go_simp
  go_at_call 30
  refine (HPU.out w3 HB23.out).mono ?_
  rintro e' w4 ⟨rfl, hs4⟩
  have hx4 := DStep.blk (HD2.out.next HB23.out) hs4 HX3.out (by decide) (by decide)
  have g5 := cell_blk (i := 5) (v := .slice none 0 0) hx4 rfl
  have HX4 := Lib.hid hx4
  have HFIN : Hid (DStep w base E A n c q (some ⟨b2, o2, none⟩) n2 c2 q2 v (es ++ [makeE kd nm tx]) ((m : Int) + 1) w4) := DStep.go (fun b hb => .inl hb) HT1.out (DStep.go (fun b hb => .inl hb) (Tou.of_below (HB12.out.trans (HB23.out.mono HB12.out.size))) hs4)
  clear hs4 hx4 HPU
  go_wp2_with fail
  refine hK.out _ _ (fun _ _ => HX4.out) ?_
  clear hK K
  refine wpAnyG_done (by kernel_rfl) ?_ _
  go_wp2_with fail
  go_loopw [44] (fun s wr => s = .int .i64 0 ∧ wr = w4) (fun _ _ => 0)
  case atStart => exact ⟨rfl, rfl⟩
  case round =>
    obtain ⟨rfl, rfl⟩ := hrel
    go_wp2_with fail
    go_ret
    exact ⟨rfl, HFIN.out⟩
end Go.Proofs.YtomleengbnfikaaDoor
