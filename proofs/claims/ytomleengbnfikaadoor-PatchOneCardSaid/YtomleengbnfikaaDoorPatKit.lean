/-
Patches: what the differ keeps, and one edit more.
-/
import Derived.Test.YtomleengbnfikaaDoorPatLaw2
import Derived.Test.YtomleengbnfikaaDoorBothLaw
namespace Go.Proofs.YtomleengbnfikaaDoor
open Go.RowKit Go.Cl
attribute [local go_sem ↓] Go.wp_at_zero Go.wp_at_succ

/-! ### all but some blocks as it was -/
structure Tou (S : Nat → Prop) (w w' : World) : Prop where
  os : w'.os = w.os
  tape : w'.tape = w.tape
  output : w'.output = w.output
  size : w.heap.size ≤ w'.heap.size
  block : ∀ k, k < w.heap.size → ¬ S k → w'.heap[k]? = w.heap[k]?
section
variable {S S' : Nat → Prop} {a b c : World}
theorem Tou.of_grown {row : Option Nat} (h : a.grownBy b row) : Tou (fun k => some k = row) a b := ⟨h.os, h.tape, h.output, h.size, h.block⟩
theorem Tou.of_below (h : Below a.heap.size a b) : Tou S a b := ⟨h.os, h.tape, h.output, h.size, fun k hk _ => h.block k hk⟩
theorem Tou.refl (S : Nat → Prop) (a : World) : Tou S a a := ⟨rfl, rfl, rfl, Nat.le_refl _, fun _ _ _ => rfl⟩
theorem Tou.trans (h1 : Tou S a b) (h2 : Tou S' b c) (hs : ∀ k, k < a.heap.size → S' k → S k) : Tou S a c :=
  ⟨h2.os.trans h1.os, h2.tape.trans h1.tape, h2.output.trans h1.output, Nat.le_trans h1.size h2.size, fun k hk hn => (h2.block k (Nat.lt_of_lt_of_le hk h1.size) (fun h => hn (hs k hk h))).trans (h1.block k hk hn)⟩
theorem Tou.mono (h : Tou S a b) (hs : ∀ k, k < a.heap.size → S k → S' k) : Tou S' a b := ⟨h.os, h.tape, h.output, h.size, fun k hk hn => h.block k hk fun e => hn (hs k hk e)⟩
theorem Tou.below {B : Nat} (h : Tou S a b) (hs : ∀ k, S k → B ≤ k) (hB : B ≤ a.heap.size) : Below B a b := ⟨h.os, h.tape, h.output, h.size, fun k hk => h.block k (Nat.lt_of_lt_of_le hk hB) fun e => absurd (hs k e) (by omega)⟩
theorem Tou.drew (h : Tou S a b) : Tou S a b.drew := ⟨h.os, h.tape, h.output, h.size, h.block⟩
theorem ownF_tou {α : Type} {T : Ty α} {base : Nat} {e : TypeId} {v : Value} {n : Nat} {xs : List α} (h : OwnF T a base e v n xs) (ht : Tou S a b) (hs : ∀ g, v.ownBlock = some g → ¬ S g) : OwnF T b base e v n xs := by
  obtain ⟨cells, h1, h2⟩ := h
  refine ⟨cells, ⟨h1.1, ?_⟩, h2.keep fun p hp => hp.elim⟩
  rcases h1.2 with h3 | ⟨g, cap, cur, hv, hb, hh, h4⟩
  · exact .inl h3
  · refine .inr ⟨g, cap, cur, hv, hb, ?_, h4⟩
    have hg : v.ownBlock = some g := by rw [hv]; rfl
    exact (ht.block g (Array.getElem?_eq_some_iff.1 hh).1 (hs g hg)).trans hh
end

theorem tou_set (w : World) (g i : Nat) (u : Value) : Tou (fun b => b = g) w (w.setCell ⟨g, i, none⟩ u) := (Tou.of_grown (grown_set w g i u)).mono fun _ _ e => Option.some.inj e
/-- The differ. -/
def dfCells (A : Option Addr) (n c : Nat) (q : Bool) (A2 : Option Addr) (n2 c2 : Nat) (q2 : Bool) (v : Value) (m : Int) : Array Value := #[.slice A n c, .bool q, .slice A2 n2 c2, .bool q2, v, .int .i64 m]
structure Df (w : World) (base E : Nat) (A : Option Addr) (n c : Nat) (q : Bool) (A2 : Option Addr) (n2 c2 : Nat) (q2 : Bool) (v : Value) (es : List Edt) (m : Int) : Prop where
  box : w.heap[E]? = some (.cells (dfCells A n c q A2 n2 c2 q2 v m) 59 (0, 0))
  row : OwnF tEdt w base 30 v es.length es
  lo : base ≤ E
/-- From one differ to the next one. -/
structure DStep (w : World) (base E : Nat) (A : Option Addr) (n c : Nat) (q : Bool) (A2 : Option Addr) (n2 c2 : Nat) (q2 : Bool) (v : Value) (es : List Edt) (m : Int) (w' : World) : Prop where
  df : ∃ v', Df w' base E A n c q A2 n2 c2 q2 v' es m ∧ ∀ b, v'.ownBlock = some b → v.ownBlock = some b ∨ w.heap.size ≤ b
  tou : Tou (fun b => b = E ∨ v.ownBlock = some b) w w'
section
variable {w w' w1 : World} {base E : Nat} {A A2 : Option Addr} {n c n2 c2 : Nat} {q q2 : Bool} {v v' : Value} {es es' : List Edt} {m m' : Int}
theorem Df.lt (h : Df w base E A n c q A2 n2 c2 q2 v es m) : E < w.heap.size := (Array.getElem?_eq_some_iff.1 h.box).1
theorem Df.ne (h : Df w base E A n c q A2 n2 c2 q2 v es m) : v.ownBlock ≠ some E := own_ne_block (by decide) h.row h.box
theorem Df.next (h : Df w base E A n c q A2 n2 c2 q2 v es m) (hb : Below w.heap.size w w') : Df w' base E A n c q A2 n2 c2 q2 v es m := ⟨(hb.block E h.lt).trans h.box, h.row.below hb (Nat.le_refl _), h.lo⟩
theorem Df.mine (h : Df w base E A n c q A2 n2 c2 q2 v es m) : ∀ b, (b = E ∨ v.ownBlock = some b) → base ≤ b ∧ b < w.heap.size := fun b hb => hb.elim (fun e => by rw [e]; exact ⟨h.lo, h.lt⟩) fun hb => Own.lt h.row b hb
theorem DStep.of_below (h : Df w base E A n c q A2 n2 c2 q2 v es m) (hb : Below w.heap.size w w') : DStep w base E A n c q A2 n2 c2 q2 v es m w' := ⟨⟨v, h.next hb, fun _ h => .inl h⟩, Tou.of_below hb⟩
theorem DStep.below (h : Df w base E A n c q A2 n2 c2 q2 v es m) (hs : DStep w base E A n c q A2 n2 c2 q2 v es' m' w') : Below base w w' := hs.tou.below (fun b hb => (h.mine b hb).1) (Nat.le_trans h.lo (Nat.le_of_lt h.lt))
/-- What is not the differ's is as it was. -/
theorem DStep.keep (hs : DStep w base E A n c q A2 n2 c2 q2 v es' m' w') {k : Nat} (hk : k < w.heap.size) (h1 : k ≠ E) (h2 : v.ownBlock ≠ some k) : w'.heap[k]? = w.heap[k]? := hs.tou.block k hk fun h => h.elim h1 h2
theorem DStep.trans {es'' : List Edt} {m'' : Int} (h1 : DStep w base E A n c q A2 n2 c2 q2 v es' m' w1) (h2 : ∀ v1, Df w1 base E A n c q A2 n2 c2 q2 v1 es' m' → DStep w1 base E A n c q A2 n2 c2 q2 v1 es'' m'' w') : DStep w base E A n c q A2 n2 c2 q2 v es'' m'' w' := by
  obtain ⟨⟨v1, hd, ho⟩, ht⟩ := h1
  obtain ⟨⟨v2, hd2, ho2⟩, ht2⟩ := h2 v1 hd
  refine ⟨⟨v2, hd2, fun b hb => ?_⟩, ht.trans ht2 fun k hk hs => ?_⟩
  · rcases ho2 b hb with h | h
    · exact ho b h
    · exact .inr (Nat.le_trans ht.size h)
  · rcases hs with h | h
    · exact .inl h
    · rcases ho k h with h | h
      · exact .inr h
      · exact absurd h (by omega)
end
/-- An edit without a node. -/
def Bare (e : Edt) : Prop := e.node = ⟨0, ⟨#[]⟩, [], ⟨#[]⟩, 0, []⟩ ∧ (Lit.int .i64 e.do_).wf = true ∧ (Lit.int .i64 e.at_).wf = true ∧ (Lit.int .i64 e.to_).wf = true ∧ (Lit.int .i64 e.before).wf = true ∧ e.name.size ≤ 1152921504606846976 ∧ e.value.size ≤ 1152921504606846976
theorem Bare.rep {w : World} {e : Edt} (h : Bare e) : tEdt.rep w (fun _ => False) e (edtCells e none 0 0 none 0 0).toList := by
  obtain ⟨h0, h1, h2, h3, h4, h5, h6⟩ := h
  exact edt_rep ⟨by rw [h0]; exact ⟨Sl.nil, Sl.nil, by decide, by decide, by decide, by decide⟩, h2, h3, h4, h5, h6⟩ h1
/-- Two boxes. -/
def Bx2 (E X : Nat) (bE bX : Obj) (W : World) : Prop := W.heap[E]? = some bE ∧ W.heap[X]? = some bX
theorem Bx2.next {E X : Nat} {bE bX : Obj} {w W : World} (h : Bx2 E X bE bX w) (hb : Below w.heap.size w W) : Bx2 E X bE bX W :=
  ⟨(hb.block E (Array.getElem?_eq_some_iff.1 h.1).1).trans h.1, (hb.block X (Array.getElem?_eq_some_iff.1 h.2).1).trans h.2⟩

set_option maxRecDepth 100000 in
set_option maxHeartbeats 4000000 in
theorem push_any (w : World) (base E : Nat) (A : Option Addr) (n c : Nat) (q : Bool) (A2 : Option Addr) (n2 c2 : Nat) (q2 : Bool) (v : Value) (es : List Edt) (m : Int) (e : Edt) (h : Df w base E A n c q A2 n2 c2 q2 v es m) (he : Bare e) (hle : es.length ≤ 100000) :
    Calls Tryd.prog 30 #[.pointer (some ⟨E, 0, none⟩), .agg (edtCells e none 0 0 none 0 0)] w fun e' w' => e' = .returned undef ∧ DStep w base E A n c q A2 n2 c2 q2 v (es ++ [e]) m w' := by
  obtain ⟨w0, hw0⟩ : ∃ w0, w0 = w.alloc (.cells (edtCells e none 0 0 none 0 0) 30) := ⟨_, rfl⟩
  have hx0 : w0.heap[w.heap.size]? = some (.cells (edtCells e none 0 0 none 0 0) 30 (0, 0)) := by rw [hw0]; exact heap_alloc_new w _
  have hb0 : Below w.heap.size w w0 := by rw [hw0]; exact (Below.refl _ _).alloc (Nat.le_refl _) _
  have h0 := h.next hb0
  obtain ⟨Av, cv, rfl⟩ := Own.form h.row
  have hrow := OwnF.drew (OwnF.al h0.row (.cells (edtCells e none 0 0 none 0 0) 30))
  obtain ⟨v', w2, hrun, hown, hg, hbl, hv⟩ := run_ap1 (P := Tryd.prog) (t := 40) (ty := 40) (c := 1) (w0.alloc (.cells (edtCells e none 0 0 none 0 0) 30)).drew elemEdt hrow (fun _ h => h.elim) (y := e) (cs := (edtCells e none 0 0 none 0 0).toList) he.rep (cell_new w0 _ _) (by omega) (by omega) (by show base ≤ (w0.alloc _).heap.size; rw [World.size_alloc]; exact Nat.le_succ_of_le (Nat.le_trans h0.lo (Nat.le_of_lt h0.lt)))
  obtain ⟨Aw, cw, rfl⟩ := Own.form hown
  have HRUN := Lib.hid hrun
  have HOWN := Lib.hid hown
  have HG := Lib.hid hg
  have HV := Lib.hid hv
  have HB0 := Lib.hid hb0
  have HD := Lib.hid h
  have HD0 := Lib.hid h0
  have hES : E < w.heap.size := h.lt
  have HX0 := Lib.hid hx0
  have HBX : Hid (Bx2 E w.heap.size (.cells (dfCells A n c q A2 n2 c2 q2 (.slice Av es.length cv) m) 59 (0, 0)) (.cells (edtCells e none 0 0 none 0 0) 30 (0, 0)) w0) := ⟨h0.box, hx0⟩
  have hz0 : w0.heap.size = w.heap.size + 1 := by rw [hw0]; exact World.size_alloc w _
  have HBX2 : Hid (Bx2 E w.heap.size (.cells (dfCells A n c q A2 n2 c2 q2 (.slice Av es.length cv) m) 59 (0, 0)) (.cells (edtCells e none 0 0 none 0 0) 30 (0, 0)) w2) := by
    have h1 := HBX.out.next (show Below w0.heap.size w0 (w0.alloc (.cells (edtCells e none 0 0 none 0 0) 30)).drew from ((Below.refl _ w0).alloc (Nat.le_refl _) _).drew)
    have hsz : (w0.alloc (.cells (edtCells e none 0 0 none 0 0) 30)).drew.heap.size = w0.heap.size + 1 := World.size_alloc w0 _
    refine ⟨(hg.block E (by omega) (Ne.symm h.ne)).trans h1.1, (hg.block w.heap.size (by omega) fun e2 => ?_).trans h1.2⟩
    have := (Own.lt h.row _ e2.symm).2
    omega
  unfold edtCells
  unfold edtCells at hw0
  clear hrow hrun hown hg hbl hv hb0 h h0 hx0
  go_enter Tryd.func30, Tryd.ntmps30
  go_upto_region 1 with fail
  rw [← hw0]
  clear hw0
  refine wp_region_G (S := Bx2 E w.heap.size (.cells (dfCells A n c q A2 n2 c2 q2 (.slice Av es.length cv) m) 59 (0, 0)) (.cells (edtCells e none 0 0 none 0 0) 30 (0, 0))) (T := [10]) (by kernel_rfl) ?_
  have hS : Bx2 E w.heap.size (.cells (dfCells A n c q A2 n2 c2 q2 (.slice Av es.length cv) m) 59 (0, 0)) (.cells (edtCells e none 0 0 none 0 0) 30 (0, 0)) w0.drew := HBX.out.next (Below.refl _ w0).drew
  refine wpAnyG_pure (i := 0) (v := ?_) rfl (by kernel_rfl) (by kernel_rfl) (by kernel_rfl) (fun _ _ _ h => h) rfl ?_ ?_
  rotate_left
  · intro w'
    first | (go_simp; done) | (go_simp; with_reducible rfl)
  refine wpAnyG_pure (i := 1) (v := ?_) rfl (by kernel_rfl) (by kernel_rfl) (by kernel_rfl) (fun _ _ _ h => h) rfl ?_ ?_
  rotate_left
  · intro w'
    first | (go_simp; done) | (go_simp; with_reducible rfl)
  refine wpAnyG_pure (i := 2) (v := ?_) rfl (by kernel_rfl) (by kernel_rfl) (by kernel_rfl) (fun _ _ _ h => h) rfl ?_ ?_
  rotate_left
  · intro w'
    first | (go_simp; done) | (go_simp; with_reducible rfl)
  refine wpAnyG_pure (i := 3) (v := ?_) rfl (by kernel_rfl) (by kernel_rfl) (by kernel_rfl) (fun _ _ _ h => h) rfl ?_ ?_
  rotate_left
  · intro w'
    first | (go_simp; done) | (go_simp; with_reducible rfl)
  refine wpAnyG_take (i := 4) (v := ?_) rfl (by kernel_rfl) (by kernel_rfl) (by kernel_rfl) (by kernel_rfl) (fun _ _ _ h => h) hS rfl ?_ ?_
  rotate_left
  · intro w' hSw
    have x4 : w'.cell? ⟨E, 4, none⟩ = some (.slice Av es.length cv) := cell_blk (i := 4) hSw.1 rfl
    first | (go_simp; done) | (go_simp; with_reducible rfl)
  refine wpAnyG_take (i := 5) (v := ?_) rfl (by kernel_rfl) (by kernel_rfl) (by kernel_rfl) (by kernel_rfl) (fun _ _ _ h => h) hS rfl ?_ ?_
  rotate_left
  · intro w' hSw
    have x0 : w'.cell? ⟨w.heap.size, 0, none⟩ = some (.int .i64 e.do_) := cell_blk (i := 0) hSw.2 rfl
    have x1 : w'.cell? ⟨w.heap.size, 1, none⟩ = some (.int .i64 e.at_) := cell_blk (i := 1) hSw.2 rfl
    have x2 : w'.cell? ⟨w.heap.size, 2, none⟩ = some (.int .i64 e.to_) := cell_blk (i := 2) hSw.2 rfl
    have x3 : w'.cell? ⟨w.heap.size, 3, none⟩ = some (.int .i64 e.before) := cell_blk (i := 3) hSw.2 rfl
    have x4 : w'.cell? ⟨w.heap.size, 4, none⟩ = some (.string e.name) := cell_blk (i := 4) hSw.2 rfl
    have x5 : w'.cell? ⟨w.heap.size, 5, none⟩ = some (.string e.value) := cell_blk (i := 5) hSw.2 rfl
    have x6 : w'.cell? ⟨w.heap.size, 6, none⟩ = some (.int .i64 e.node.kind) := cell_blk (i := 6) hSw.2 rfl
    have x7 : w'.cell? ⟨w.heap.size, 7, none⟩ = some (.string e.node.name) := cell_blk (i := 7) hSw.2 rfl
    have x8 : w'.cell? ⟨w.heap.size, 8, none⟩ = some (.slice none 0 0) := cell_blk (i := 8) hSw.2 rfl
    have x9 : w'.cell? ⟨w.heap.size, 9, none⟩ = some (.string e.node.text) := cell_blk (i := 9) hSw.2 rfl
    have x10 : w'.cell? ⟨w.heap.size, 10, none⟩ = some (.int .i64 e.node.parent) := cell_blk (i := 10) hSw.2 rfl
    have x11 : w'.cell? ⟨w.heap.size, 11, none⟩ = some (.slice none 0 0) := cell_blk (i := 11) hSw.2 rfl
    first | (go_simp; done) | (go_simp; with_reducible rfl)
  refine wpAnyG_one (i := 6) (by kernel_rfl) rfl rfl (fun K hK => ?_)
  go_simp
  refine hK.out _ _ (fun _ _ => HBX.out.next (((Below.refl _ w0).alloc (Nat.le_refl _) _).drew)) ?_
  clear hK K hS
  refine wpAnyG_one (i := 7) (by kernel_rfl) rfl rfl (fun K hK => ?_)
  refine wp_append_runI (.tmp 8) (.tmp 10) 40 rfl (.slice Av es.length cv) (.slice (some ⟨w0.heap.size, 0, none⟩) 1 1) (by go_simp) (by go_simp) HRUN.out ?_
  refine hK.out _ _ (fun _ _ => HBX2.out) ?_
  clear hK K
  refine wpAnyG_pure (i := 8) (v := ?_) rfl (by kernel_rfl) (by kernel_rfl) (by kernel_rfl) (fun _ _ _ h => h) rfl ?_ ?_
  rotate_left
  · intro w'
    first | (go_simp; done) | (go_simp; with_reducible rfl)
  refine wpAnyG_pure (i := 9) (v := ?_) rfl (by kernel_rfl) (by kernel_rfl) (by kernel_rfl) (fun _ _ _ h => h) rfl ?_ ?_
  rotate_left
  · intro w'
    first | (go_simp; done) | (go_simp; with_reducible rfl)
  have y4 := free_blk (i := 4) HBX2.out.1
  have z4 : w2.cell? ⟨E, 4, none⟩ = some (.slice Av es.length cv) := cell_blk (i := 4) HBX2.out.1 rfl
  refine wpAnyG_one (i := 10) (by kernel_rfl) rfl rfl (fun K hK => ?_)
  go_simp
  refine hK.out _ _ (fun h => absurd (by decide) h) ?_
  clear hK K
  refine wpAnyG_done (by kernel_rfl) ?_ _
  go_simp
  have hDS : DStep w base E A n c q A2 n2 c2 q2 (.slice Av es.length cv) (es ++ [e]) m (w2.setCell ⟨E, 4, none⟩ (.slice Aw (es.length + 1) cw)) := by
    have hll : (es ++ [e]).length = es.length + 1 := by simp
    refine ⟨⟨.slice Aw (es.length + 1) cw, ⟨set_blk (i := 4) HBX2.out.1 _, ?_, HD.out.lo⟩, fun b hb => ?_⟩, ?_⟩
    · rw [hll]
      exact Own.kept HOWN.out (grown_set w2 E 4 _) (Or.inr (own_ne_block (by decide) HOWN.out HBX2.out.1)) (fun _ h => h.elim)
    · rcases HV.out with h | h
      · exact .inl (h.symm.trans hb)
      · rw [h] at hb
        injection hb with hb
        right
        rw [← hb]
        show w.heap.size ≤ (w0.alloc _).heap.size
        rw [World.size_alloc]
        omega
    · have t1 : Tou (fun b => b = E ∨ (Value.slice Av es.length cv).ownBlock = some b) w (w0.alloc (.cells (edtCells e none 0 0 none 0 0) 30)).drew := Tou.of_below (HB0.out.trans ((((Below.refl _ w0).alloc (Nat.le_refl _) _).drew).mono HB0.out.size))
      have t2 := t1.trans (Tou.of_grown HG.out) fun k _ h => .inr h.symm
      exact t2.trans (tou_set w2 E 4 _) fun k _ h => .inl h
  go_wp2_with fail
  exact bodyPost_end (results_none rfl _ _ _) rfl ⟨rfl, hDS⟩
end Go.Proofs.YtomleengbnfikaaDoor
