/-
Tokens in memory; the reader's put.
-/
import Derived.Test.YtbddnohbkafagaaGreatDoorTkR2
namespace Go.Proofs.YtbddnohbkafagaaGreatDoor
open Go.RowKit Go.Cl
attribute [local go_sem ↓] Go.wp_at_zero Go.wp_at_succ
/-- A token and its places. -/
abbrev TkP := Tk × Int × Int
def tTok : Ty TkP := tMap (tPair (tInt .i64) (tPair tStr (tPair (tSlice tDA) (tPair tStr (tPair tBool (tPair (tInt .i64) (tInt .i64))))))) (fun x => (x.1.kind, x.1.name, x.1.attrs, x.1.text, x.1.self, x.2.1, x.2.2)) 88
theorem elemTok : ElemOf Tryz.prog 22 32 tTok.size 88 := mkElem Tryz.underlying22 (by kernel_rfl) (z := .agg #[.int .i64 0, .string ⟨#[]⟩, .slice none 0 0, .string ⟨#[]⟩, .bool false, .int .i64 0, .int .i64 0]) rfl (by decide)
def tokCells (x : TkP) (A : Option Addr) (n c : Nat) : List Value := [.int .i64 x.1.kind, .string x.1.name, .slice A n c, .string x.1.text, .bool x.1.self, .int .i64 x.2.1, .int .i64 x.2.2]
structure TokAt (w : World) (D : Nat → Prop) (x : TkP) (A : Option Addr) (n c : Nat) : Prop where
  attrs : Sl tDA w D A n c x.1.attrs
  kind : (Lit.int .i64 x.1.kind).wf = true
  name : x.1.name.size ≤ 1152921504606846976
  text : x.1.text.size ≤ 1152921504606846976
  from_ : (Lit.int .i64 x.2.1).wf = true
  to_ : (Lit.int .i64 x.2.2).wf = true
theorem tok_rep {w : World} {D : Nat → Prop} {x : TkP} {A : Option Addr} {n c : Nat} (h : TokAt w D x A n c) : tTok.rep w D x (tokCells x A n c) :=
  ⟨[_], _, rfl, ⟨rfl, h.kind⟩, [_], _, rfl, ⟨rfl, h.name⟩, [_], _, rfl, ⟨A, n, c, rfl, h.attrs⟩, [_], _, rfl, ⟨rfl, h.text⟩, [_], _, rfl, rfl, [_], _, rfl, ⟨rfl, h.from_⟩, rfl, h.to_⟩
theorem tok_cells {w : World} {D : Nat → Prop} {x : TkP} {cs : List Value} (h : tTok.rep w D x cs) : ∃ A n c, cs = tokCells x A n c ∧ TokAt w D x A n c := by
  obtain ⟨c1, c2, rfl, ⟨rfl, h1⟩, c3, c4, rfl, ⟨rfl, h2⟩, c5, c6, rfl, ⟨A, n, c, rfl, h3⟩, c7, c8, rfl, ⟨rfl, h4⟩, c9, c10, rfl, rfl, c11, c12, rfl, ⟨rfl, h5⟩, rfl, h6⟩ := h
  exact ⟨A, n, c, rfl, h3, h1, h2, h4, h5, h6⟩
/-- What the tokens lead to. -/
abbrev fresh (X : Nat) (w : World) (v : Value) (b : Nat) : Prop := X < b ∧ b < w.heap.size ∧ some b ≠ v.ownBlock
/-- The reader with its tokens: all that lay ahead of it lies as it lay. -/
structure Ra (w0 w : World) (X : Nat) (s : ByteArray) (r : List UInt8) (E : Int) (v : Value) (n : Nat) (toks : List TkP) : Prop where
  rd : Rd w X s r E v
  low : Below X w0 w
  own : Own tTok w (X + 1) 32 (fresh X w v) v n toks
  few : n = toks.length
section
variable {w0 w w' : World} {X : Nat} {s : ByteArray} {r r' : List UInt8} {E E' : Int} {v : Value} {n : Nat} {toks : List TkP}
theorem Ra.ne (h : Ra w0 w X s r E v n toks) : v.ownBlock = none ∨ v.ownBlock ≠ some X := by
  cases hv : v.ownBlock with
  | none => exact .inl rfl
  | some g =>
    right
    intro e
    have := (Cl.Own.lt h.own g hv).1
    injection e with e
    omega
theorem Ra.xlt (h : Ra w0 w X s r E v n toks) : X < w.heap.size := by obtain ⟨a, ha, hr, hc⟩ := h.rd.at_; exact hc.lt
theorem Ra.go (h : Ra w0 w X s r E v n toks) (hg : w.grownBy w' (some X)) (hr : Rd w' X s r' E' v) : Ra w0 w' X s r' E' v n toks :=
  ⟨hr, h.low.grown hg (Nat.le_of_lt h.xlt) (fun k e => by cases e; exact Nat.le_refl _), Cl.Own.more (Cl.Own.kept h.own hg h.ne fun b hb => ⟨hb.2.1, fun e => by injection e with e; have := hb.1; omega⟩) fun b hb => ⟨hb.1, Nat.lt_of_lt_of_le hb.2.1 hg.size, hb.2.2⟩, h.few⟩
theorem Ra.next (h : Ra w0 w X s r E v n toks) (hb : Below w.heap.size w w') : Ra w0 w' X s r E v n toks := h.go (grown_below hb _) (h.rd.next hb)
end
set_option maxRecDepth 100000 in
set_option maxHeartbeats 4000000 in
theorem tkPut_keep (w0 w : World) (X : Nat) (s : ByteArray) (r : List UInt8) (E : Int) (v : Value) (n : Nat) (toks : List TkP) (x : Tk) (A : Option Addr) (m c : Nat) (f : Int) (hs : s.size ≤ 1000000) (h : Ra w0 w X s r E v n toks)
    (hx : Sl tDA w (fresh X w v) A m c x.attrs) (hk : (Lit.int .i64 x.kind).wf = true) (hn : x.name.size ≤ 1152921504606846976) (ht : x.text.size ≤ 1152921504606846976) (hf : (Lit.int .i64 f).wf = true) (hl : n ≤ 1000000) :
    Calls Tryz.prog 33 #[.pointer (some ⟨X, 0, none⟩), .agg (tokC x.kind x.name (.slice A m c) x.text x.self 0 0), .int .i64 f] w fun e w' => e = .returned (.tuple #[]) ∧ ∃ v', Ra w0 w' X s r E v' (n + 1) (toks ++ [(x, f, ((s.size - r.length : Nat) : Int))]) ∧ ∀ k, k < w.heap.size → k ≠ X → v.ownBlock ≠ some k → w'.heap[k]? = w.heap[k]? := by
  obtain ⟨⟨a, ha, hr, hc⟩, hm⟩ := h.rd
  have haz := drop_len ha hr
  obtain ⟨w1, hw1⟩ : ∃ w1, w1 = w.alloc (.cells (tokC x.kind x.name (.slice A m c) x.text x.self 0 0) 32) := ⟨_, rfl⟩
  have hb1 : Below w.heap.size w w1 := by rw [hw1]; exact tal (Below.refl _ _) _
  have HX1 := Lib.hid (show w1.heap[w.heap.size]? = some (.cells (tokC x.kind x.name (.slice A m c) x.text x.self 0 0) 32 (0, 0)) from by rw [hw1]; exact heap_alloc_new w _)
  have HA1 := Lib.hid (h.next hb1)
  have HC1 := Lib.hid (hc.next hb1)
  have HB1 := Lib.hid hb1
  have HSZ := Lib.hid (show w1.heap.size = w.heap.size + 1 from by rw [hw1]; exact World.size_alloc w _)
  have HSL := Lib.hid hx
  have hXT : X < w.heap.size := h.xlt
  have HXT := Lib.hid hXT
  have f5 := free_blk (i := 5) HX1.out
  have f6 := free_blk (i := 6) HX1.out
  have t5 := cell_blk (i := 5) HX1.out rfl
  have t6 := cell_blk (i := 6) HX1.out rfl
  have HH := Lib.hid h
  have HEA := Lib.hid (show a = s.size - r.length by omega)
  have HK6 := Lib.hid (show (w1.setCell ⟨w.heap.size, 5, none⟩ (.int .i64 f)).drew.cell? ⟨X, 1, none⟩ = some (.int .i64 (a : Int)) from (World.cell?_of_block (a := ⟨X, 1, none⟩) (heap_setCell_other w1 ⟨w.heap.size, 5, none⟩ X _ (by show X ≠ w.heap.size; omega))).trans HC1.out.c1)
  have HK8 := Lib.hid (show ((w1.setCell ⟨w.heap.size, 5, none⟩ (.int .i64 f)).setCell ⟨w.heap.size, 6, none⟩ (.int .i64 (a : Int))).drew.cell? ⟨X, 1, none⟩ = some (.int .i64 (a : Int)) from (World.cell?_of_block (a := ⟨X, 1, none⟩) (heap_setCell_other _ ⟨w.heap.size, 6, none⟩ X _ (by show X ≠ w.heap.size; omega))).trans HK6.out)
  obtain ⟨w2, hw2⟩ : ∃ w2, w2 = (w1.setCell ⟨w.heap.size, 5, none⟩ (.int .i64 f)).setCell ⟨w.heap.size, 6, none⟩ (.int .i64 (a : Int)) := ⟨_, rfl⟩
  have hb2 : Below w.heap.size w w2 := by rw [hw2]; exact (hb1.setCell (p := ⟨w.heap.size, 5, none⟩) (Nat.le_refl _) _).setCell (p := ⟨w.heap.size, 6, none⟩) (Nat.le_refl _) _
  have HX2 := Lib.hid (show w2.heap[w.heap.size]? = some (.cells (tokC x.kind x.name (.slice A m c) x.text x.self f (a : Int)) 32 (0, 0)) from by rw [hw2]; exact set_blk (set_blk HX1.out _) _)
  have HB2 := Lib.hid hb2
  have HC2 := Lib.hid (hc.next hb2)
  have HMX := Lib.hid hm
  have HFA := Lib.hid (show (Lit.int .i64 (a : Int)).wf = true from WalkArith.wf_i64 (by omega))
  have HWF := Lib.hid (show (Lit.int .i64 x.kind).wf = true ∧ (Lit.int .i64 f).wf = true from ⟨hk, hf⟩)
  have HAS := Lib.hid (show a ≤ s.size ∧ s.data.toList.drop a = r from ⟨ha, hr⟩)
  clear hc hm hr ha haz hb1 h hx hb2 hk hf
  go_enter Tryz.func33, Tryz.ntmps33
  go_upto_region 1 with fail
  rw [← hw1]
  clear hw1
  refine wp_region_G (S := (fun W : World => W.cell? ⟨X, 1, none⟩ = some (.int .i64 (a : Int)))) (T := []) (by kernel_rfl) ?_
  have hS : (fun W : World => W.cell? ⟨X, 1, none⟩ = some (.int .i64 (a : Int))) w1.drew := HC1.out.c1
  refine wpAnyG_pure (i := 0) (v := ?_) rfl (by kernel_rfl) (by kernel_rfl) (by kernel_rfl) (fun _ _ _ h => h) rfl ?_ ?_
  rotate_left
  · intro w'
    first | (go_simp; done) | (go_simp; with_reducible rfl)
  refine wpAnyG_pure (i := 1) (v := ?_) rfl (by kernel_rfl) (by kernel_rfl) (by kernel_rfl) (fun _ _ _ h => h) rfl ?_ ?_
  rotate_left
  · intro w'
    first | (go_simp; done) | (go_simp; with_reducible rfl)
  refine wpAnyG_pure (i := 2) (v := ?_) rfl (by kernel_rfl) (by kernel_rfl) (by kernel_rfl) (fun _ _ _ h => h) rfl ?_ ?_
  rotate_left
  · intro w'
    first | (go_simp; done) | (go_simp; with_reducible rfl)
  refine wpAnyG_pure (i := 3) (v := ?_) rfl (by kernel_rfl) (by kernel_rfl) (by kernel_rfl) (fun _ _ _ h => h) rfl ?_ ?_
  rotate_left
  · intro w'
    first | (go_simp; done) | (go_simp; with_reducible rfl)
  refine wpAnyG_take (i := 4) (v := ?_) rfl (by kernel_rfl) (by kernel_rfl) (by kernel_rfl) (by kernel_rfl) (fun _ _ _ h => h) hS rfl ?_ ?_
  rotate_left
  · intro w' hSw
    (try dsimp only at hSw)
    first | (go_simp; done) | (go_simp; with_reducible rfl)
  refine wpAnyG_pure (i := 5) (v := ?_) rfl (by kernel_rfl) (by kernel_rfl) (by kernel_rfl) (fun _ _ _ h => h) rfl ?_ ?_
  rotate_left
  · intro w'
    first | (go_simp; done) | (go_simp; with_reducible rfl)
  refine wpAnyG_one (i := 6) (by kernel_rfl) rfl rfl (fun K hK => ?_)
  go_simp
  refine hK.out _ _ (fun _ _ => ?_) ?_
  · exact HK6.out
  clear hK K
  refine wpAnyG_pure (i := 7) (v := ?_) rfl (by kernel_rfl) (by kernel_rfl) (by kernel_rfl) (fun _ _ _ h => h) rfl ?_ ?_
  rotate_left
  · intro w'
    first | (go_simp; done) | (go_simp; with_reducible rfl)
  refine wpAnyG_one (i := 8) (by kernel_rfl) rfl rfl (fun K hK => ?_)
  go_simp
  refine hK.out _ _ (fun _ _ => ?_) ?_
  · exact HK8.out
  clear hK K
  refine wpAnyG_done (by kernel_rfl) ?_ _
  go_simp
  go_upto_region 2 with fail
  rw [← hw2]
  clear hw2 f5 f6 t5 t6
  have HS2 := Lib.hid (fun (u : World) (hu : Below w2.heap.size w2 u) => show (fun W : World => W.cell? ⟨X, 3, none⟩ = some v ∧ W.cell? ⟨w.heap.size, 0, none⟩ = some (.int .i64 x.kind) ∧ W.cell? ⟨w.heap.size, 1, none⟩ = some (.string x.name) ∧ W.cell? ⟨w.heap.size, 2, none⟩ = some (.slice A m c) ∧ W.cell? ⟨w.heap.size, 3, none⟩ = some (.string x.text) ∧ W.cell? ⟨w.heap.size, 4, none⟩ = some (.bool x.self) ∧ W.cell? ⟨w.heap.size, 5, none⟩ = some (.int .i64 f) ∧ W.cell? ⟨w.heap.size, 6, none⟩ = some (.int .i64 (a : Int))) u from ⟨cell_be HC2.out.c3 hu, cell_be (cell_blk (i := 0) HX2.out rfl) hu, cell_be (cell_blk (i := 1) HX2.out rfl) hu, cell_be (cell_blk (i := 2) HX2.out rfl) hu, cell_be (cell_blk (i := 3) HX2.out rfl) hu, cell_be (cell_blk (i := 4) HX2.out rfl) hu, cell_be (cell_blk (i := 5) HX2.out rfl) hu, cell_be (cell_blk (i := 6) HX2.out rfl) hu⟩)
  refine wp_region_G (S := (fun W : World => W.cell? ⟨X, 3, none⟩ = some v ∧ W.cell? ⟨w.heap.size, 0, none⟩ = some (.int .i64 x.kind) ∧ W.cell? ⟨w.heap.size, 1, none⟩ = some (.string x.name) ∧ W.cell? ⟨w.heap.size, 2, none⟩ = some (.slice A m c) ∧ W.cell? ⟨w.heap.size, 3, none⟩ = some (.string x.text) ∧ W.cell? ⟨w.heap.size, 4, none⟩ = some (.bool x.self) ∧ W.cell? ⟨w.heap.size, 5, none⟩ = some (.int .i64 f) ∧ W.cell? ⟨w.heap.size, 6, none⟩ = some (.int .i64 (a : Int)))) (T := [10]) (by kernel_rfl) ?_
  have hS : (fun W : World => W.cell? ⟨X, 3, none⟩ = some v ∧ W.cell? ⟨w.heap.size, 0, none⟩ = some (.int .i64 x.kind) ∧ W.cell? ⟨w.heap.size, 1, none⟩ = some (.string x.name) ∧ W.cell? ⟨w.heap.size, 2, none⟩ = some (.slice A m c) ∧ W.cell? ⟨w.heap.size, 3, none⟩ = some (.string x.text) ∧ W.cell? ⟨w.heap.size, 4, none⟩ = some (.bool x.self) ∧ W.cell? ⟨w.heap.size, 5, none⟩ = some (.int .i64 f) ∧ W.cell? ⟨w.heap.size, 6, none⟩ = some (.int .i64 (a : Int))) w2.drew := HS2.out _ (tdrew w2)
  refine wpAnyG_pure (i := 0) (v := ?_) rfl (by kernel_rfl) (by kernel_rfl) (by kernel_rfl) (fun _ _ _ h => h) rfl ?_ ?_
  rotate_left
  · intro w'
    first | (go_simp; done) | (go_simp; with_reducible rfl)
  refine wpAnyG_pure (i := 1) (v := ?_) rfl (by kernel_rfl) (by kernel_rfl) (by kernel_rfl) (fun _ _ _ h => h) rfl ?_ ?_
  rotate_left
  · intro w'
    first | (go_simp; done) | (go_simp; with_reducible rfl)
  refine wpAnyG_pure (i := 2) (v := ?_) rfl (by kernel_rfl) (by kernel_rfl) (by kernel_rfl) (fun _ _ _ h => h) rfl ?_ ?_
  rotate_left
  · intro w'
    first | (go_simp; done) | (go_simp; with_reducible rfl)
  refine wpAnyG_pure (i := 3) (v := ?_) rfl (by kernel_rfl) (by kernel_rfl) (by kernel_rfl) (fun _ _ _ h => h) rfl ?_ ?_
  rotate_left
  · intro w'
    first | (go_simp; done) | (go_simp; with_reducible rfl)
  refine wpAnyG_take (i := 4) (v := ?_) rfl (by kernel_rfl) (by kernel_rfl) (by kernel_rfl) (by kernel_rfl) (fun _ _ _ h => h) hS rfl ?_ ?_
  rotate_left
  · intro w' hSw
    (try dsimp only at hSw)
    first | (go_simp; done) | (go_simp; with_reducible rfl)
  refine wpAnyG_take (i := 5) (v := ?_) rfl (by kernel_rfl) (by kernel_rfl) (by kernel_rfl) (by kernel_rfl) (fun _ _ _ h => h) hS rfl ?_ ?_
  rotate_left
  · intro w' hSw
    (try dsimp only at hSw)
    first | (go_simp; done) | (go_simp; with_reducible rfl)
  obtain ⟨w3, hw3⟩ : ∃ w3, w3 = (w2.alloc (.cells #[.int .i64 x.kind, .string x.name, .slice A m c, .string x.text, .bool x.self, .int .i64 f, .int .i64 (a : Int)] 32)).drew.drew := ⟨_, rfl⟩
  have hb3 : Below w2.heap.size w2 w3 := by rw [hw3]; exact tst (tst (tal (Below.refl _ _) _) (tdrew _)) (tdrew _)
  have HB3 := Lib.hid hb3
  have HW3 := Lib.hid hw3
  have hcn : ∀ j u, (tokCells (x, f, (a : Int)) A m c)[j]? = some u → w3.cell? ⟨w2.heap.size, 0 + j, none⟩ = some u := by rw [hw3]; exact cell_new w2 (tokCells (x, f, (a : Int)) A m c) _
  refine wpAnyG_one (i := 6) (by kernel_rfl) rfl rfl (fun K hK => ?_)
  go_simp
  rw [← hw3]
  refine hK.out _ _ (fun _ _ => HS2.out _ hb3) ?_
  clear hK K hS
  have HNE := Lib.hid HH.out.ne
  have hb03 : Below w.heap.size w w3 := tst HB2.out hb3
  have hO3 : Own tTok w3 (X + 1) 32 (fresh X w v) v n toks := Cl.Own.kept HH.out.own (grown_below hb03 (some X)) HH.out.ne fun b hb => ⟨hb.2.1, fun e => by injection e with e; have := hb.1; omega⟩
  have hrp : tTok.rep w3 (fresh X w v) (x, f, (a : Int)) (tokCells (x, f, (a : Int)) A m c) := tok_rep ⟨HSL.out.keep (fun p hp => hb03.cell hp.2.1), HWF.out.1, hn, ht, HWF.out.2, HFA.out⟩
  have hX3 : X + 1 ≤ w3.heap.size := by have := hb03.size; omega
  obtain ⟨v9, w4, hrun, ho4, hg4, hb4, hown4⟩ := run_ap1 (P := Tryz.prog) w3 (t := 22) (ty := 22) (c := 1) elemTok hO3 (fun b hb => ⟨Nat.lt_of_lt_of_le hb.2.1 hb03.size, hb.2.2⟩) hrp hcn (by omega) (by omega) hX3
  have hown : ∀ k, k < w.heap.size + 1 → X ≤ k → (k = X ∨ k = w.heap.size) → w4.heap[k]? = w3.heap[k]? := fun k hk _ hkk => hg4.block k (by have := hb3.size; have := (Array.getElem?_eq_some_iff.1 HX2.out).1; omega) (fun e => by
    obtain ⟨h1, h2⟩ := Cl.Own.lt HH.out.own k e.symm
    rcases hkk with rfl | rfl <;> omega)
  have hX4 := hown X (by omega) (Nat.le_refl _) (.inl rfl)
  have hT4 := hown w.heap.size (by omega) (by omega) (.inr rfl)
  have hc3 := HC2.out.next hb3
  have hc4 : Rc w4 X s a E v := hX4.trans hc3
  have f3 := hc4.fr 3
  have c3 := hc4.c3
  obtain ⟨A9, c9, rfl⟩ := Cl.Own.form ho4
  have hg5 := grown_set w4 X 3 (.slice A9 (n + 1) c9)
  have hmx4 : ∃ m : Int, w4.cell? ⟨0, 0, none⟩ = some (.int .i64 m) := by
    obtain ⟨m0, hm0⟩ := mx_next HMX.out hb03
    exact ⟨m0, (hb4.cell (p := ⟨0, 0, none⟩) (by show 0 < X + 1; omega)).trans hm0⟩
  have HR5 := Lib.hid (show Ra w0 (w4.setCell ⟨X, 3, none⟩ (.slice A9 (n + 1) c9)) X s r E (.slice A9 (n + 1) c9) (n + 1) (toks ++ [(x, f, (a : Int))]) from
    ⟨⟨⟨a, HAS.out.1, HAS.out.2, set_blk hc4 _⟩, mx_grown hmx4 (hc4.ne0 hmx4) hg5⟩,
      (HH.out.low.trans ((hb03.mono (Nat.le_of_lt HXT.out)).trans (hb4.mono (Nat.le_succ X)))).setCell (p := ⟨X, 3, none⟩) (Nat.le_refl _) _,
      Cl.Own.more (Cl.Own.kept ho4 hg5 (by
        cases hv : (Value.slice A9 (n + 1) c9).ownBlock with
        | none => exact .inl rfl
        | some g => right; intro e; have := (Cl.Own.lt ho4 g hv).1; injection e with e; omega) fun b hb => ⟨Nat.lt_of_lt_of_le hb.2.1 (Nat.le_trans hb03.size hg4.size), fun e => by injection e with e; have := hb.1; omega⟩)
        fun b hb => ⟨hb.1, Nat.lt_of_lt_of_le hb.2.1 (Nat.le_trans (Nat.le_trans hb03.size hg4.size) hg5.size), by
          rcases hown4 with h | h
          · rw [h]; exact hb.2.2
          · rw [h]; intro e; injection e with e; have := hb.2.1; have := hb03.size; omega⟩,
      by rw [List.length_append]; have := HH.out.few; show n + 1 = _ + 1; omega⟩)
  have HK9 := Lib.hid (show ∀ k, k < w.heap.size → k ≠ X → v.ownBlock ≠ some k → (w4.setCell ⟨X, 3, none⟩ (.slice A9 (n + 1) c9)).heap[k]? = w.heap[k]? from fun k hk hkX hkv =>
    (heap_setCell_other w4 ⟨X, 3, none⟩ k _ (by show k ≠ X; exact hkX)).trans ((hg4.block k (Nat.lt_of_lt_of_le hk hb03.size) (fun e => hkv e.symm)).trans (hb03.block k hk)))
  have hs4 : (fun W : World => W.cell? ⟨X, 3, none⟩ = some v ∧ W.cell? ⟨w.heap.size, 0, none⟩ = some (.int .i64 x.kind) ∧ W.cell? ⟨w.heap.size, 1, none⟩ = some (.string x.name) ∧ W.cell? ⟨w.heap.size, 2, none⟩ = some (.slice A m c) ∧ W.cell? ⟨w.heap.size, 3, none⟩ = some (.string x.text) ∧ W.cell? ⟨w.heap.size, 4, none⟩ = some (.bool x.self) ∧ W.cell? ⟨w.heap.size, 5, none⟩ = some (.int .i64 f) ∧ W.cell? ⟨w.heap.size, 6, none⟩ = some (.int .i64 (a : Int))) w4 := ⟨c3, (World.cell?_of_block (a := ⟨w.heap.size, 0, none⟩) hT4).trans (HS2.out _ hb3).2.1, (World.cell?_of_block (a := ⟨w.heap.size, 1, none⟩) hT4).trans (HS2.out _ hb3).2.2.1, (World.cell?_of_block (a := ⟨w.heap.size, 2, none⟩) hT4).trans (HS2.out _ hb3).2.2.2.1, (World.cell?_of_block (a := ⟨w.heap.size, 3, none⟩) hT4).trans (HS2.out _ hb3).2.2.2.2.1, (World.cell?_of_block (a := ⟨w.heap.size, 4, none⟩) hT4).trans (HS2.out _ hb3).2.2.2.2.2.1, (World.cell?_of_block (a := ⟨w.heap.size, 5, none⟩) hT4).trans (HS2.out _ hb3).2.2.2.2.2.2.1, (World.cell?_of_block (a := ⟨w.heap.size, 6, none⟩) hT4).trans (HS2.out _ hb3).2.2.2.2.2.2.2⟩
  refine wpAnyG_one (i := 7) (by kernel_rfl) rfl rfl (fun K hK => ?_)
  refine wp_append_runI (.tmp 17) (.tmp 19) 22 rfl v (.slice (some ⟨w2.heap.size, 0, none⟩) 1 1) rfl rfl hrun ?_
  refine hK.out _ _ (fun _ _ => hs4) ?_
  clear hK K hrun
  have hS := hs4
  clear hs4 hO3 hrp hcn hb03 hown hX4 hT4 hc3 hg5 hmx4 ho4 hg4 hb4 hown4 hc4
  refine wpAnyG_pure (i := 8) (v := ?_) rfl (by kernel_rfl) (by kernel_rfl) (by kernel_rfl) (fun _ _ _ h => h) rfl ?_ ?_
  rotate_left
  · intro w'
    first | (go_simp; done) | (go_simp; with_reducible rfl)
  refine wpAnyG_pure (i := 9) (v := ?_) rfl (by kernel_rfl) (by kernel_rfl) (by kernel_rfl) (fun _ _ _ h => h) rfl ?_ ?_
  rotate_left
  · intro w'
    first | (go_simp; done) | (go_simp; with_reducible rfl)
  refine wpAnyG_one (i := 10) (by kernel_rfl) rfl rfl (fun K hK => ?_)
  go_simp
  refine hK.out _ _ (fun h => absurd (by decide) h) ?_
  clear hK K hS
  refine wpAnyG_done (by kernel_rfl) ?_ _
  go_simp
  go_wp2_with fail
  go_end0
  exact ⟨rfl, ⟨_, by rw [← HEA.out]; exact HR5.out⟩, HK9.out⟩
theorem tkPut_any (w0 w : World) (X : Nat) (s : ByteArray) (r : List UInt8) (E : Int) (v : Value) (n : Nat) (toks : List TkP) (x : Tk) (A : Option Addr) (m c : Nat) (f : Int) (hs : s.size ≤ 1000000) (h : Ra w0 w X s r E v n toks)
    (hx : Sl tDA w (fresh X w v) A m c x.attrs) (hk : (Lit.int .i64 x.kind).wf = true) (hn : x.name.size ≤ 1152921504606846976) (ht : x.text.size ≤ 1152921504606846976) (hf : (Lit.int .i64 f).wf = true) (hl : n ≤ 1000000) :
    Calls Tryz.prog 33 #[.pointer (some ⟨X, 0, none⟩), .agg (tokC x.kind x.name (.slice A m c) x.text x.self 0 0), .int .i64 f] w fun e w' => e = .returned (.tuple #[]) ∧ ∃ v', Ra w0 w' X s r E v' (n + 1) (toks ++ [(x, f, ((s.size - r.length : Nat) : Int))]) :=
  (tkPut_keep w0 w X s r E v n toks x A m c f hs h hx hk hn ht hf hl).mono fun _ _ h => ⟨h.1, h.2.elim fun v' h => ⟨v', h.1⟩⟩
end Go.Proofs.YtbddnohbkafagaaGreatDoor

/-
Tokens: the reader's text.
-/
namespace Go.Proofs.YtbddnohbkafagaaGreatDoor
open Go.RowKit Go.Cl
attribute [local go_sem ↓] Go.wp_at_zero Go.wp_at_succ
/-- A token's places, counted from the text's begin. -/
def plOf (s : ByteArray) (x : Pl) : TkP := (x.1, ((s.size - x.2.1 : Nat) : Int), ((s.size - x.2.2 : Nat) : Int))
theorem textF_cons (b : UInt8) (t : List UInt8) : textF (b :: t) = if markF (b :: t) = 0 then (b :: (textF t).1, (textF t).2) else ([], b :: t) := rfl
theorem textF_join : ∀ r : List UInt8, r = (textF r).1 ++ (textF r).2
  | [] => rfl
  | b :: t => by
    rw [textF_cons]
    split
    · show b :: t = b :: (textF t).1 ++ (textF t).2
      rw [List.cons_append, ← textF_join t]
    · rfl
set_option maxRecDepth 100000 in
set_option maxHeartbeats 4000000 in
theorem tkText_any (w0 w : World) (X : Nat) (s : ByteArray) (r : List UInt8) (E : Int) (v : Value) (n : Nat) (toks : List TkP) (hs : s.size ≤ 1000000) (h : Ra w0 w X s r E v n toks) (hl : n + r.length ≤ 1000000) :
    Calls Tryz.prog 30 #[.pointer (some ⟨X, 0, none⟩)] w fun e w' => e = .returned (.tuple #[]) ∧ ∃ v' n', Ra w0 w' X s (textF r).2 E v' n' (toks ++ (putT (textF r).1 (bs (entT (textF r).1)) r.length (textF r).2.length).map (plOf s)) := by
  obtain ⟨⟨a, ha, hr, hc⟩, hm⟩ := h.rd
  have haz := drop_len ha hr
  have HAZ := Lib.hid haz
  have HH := Lib.hid h
  have HL := Lib.hid hl
  have HDA := Lib.hid hr
  have c1 := hc.c1
  clear hm hc hr ha haz h hl
  go_enter Tryz.func30, Tryz.ntmps30
  go_upto_region 1 with fail
  clear c1
  go_loopw [] (fun wr => ∃ rj x, Hid (r = x ++ rj) ∧ Hid (textF r = (x ++ (textF rj).1, (textF rj).2)) ∧ Hid (Ra w0 wr X s rj E v n toks)) (fun wr => s.size - atOf wr X)
  case atStart => exact ⟨r, [], Lib.hid rfl, Lib.hid rfl, HH⟩
  case round =>
    obtain ⟨rj, x, HJ, HT, HA⟩ := hrel
    obtain ⟨⟨aj, haj, hrj, hcj⟩, hmj⟩ := HA.out.rd
    have hzj := drop_len haj hrj
    have hlen := congrArg List.length HJ.out
    rw [List.length_append] at hlen
    have HAJ := Lib.hid (show aj = a + x.length by have := HAZ.out; omega)
    have HLF := Lib.hid HA.out.rd.left
    have i0 : (0 : Int) ≤ (aj : Int) := by omega
    have i1 : (aj : Int) ≤ (s.size : Int) := by omega
    have k0 : (0 : Int) ≤ (a : Int) := by omega
    have k1 : (a : Int) ≤ (aj : Int) := by have := HAJ.out; omega
    have c0 := hcj.c0
    have c1 := hcj.c1
    have f1 := hcj.fr 1
    have HCJ := Lib.hid hcj
    have HZJ := Lib.hid hzj
    have HDJ := Lib.hid hrj
    cases rj with
    | nil =>
      have g0 : ¬ (aj : Int) < (s.size : Int) := by simp at hzj; omega
      have g1 : decide ((aj : Int) < (s.size : Int)) = false := decide_eq_false g0
      clear hrj hcj hmj hzj hlen haj
      have HR := Lib.hid (show textF r = (x, ([] : List UInt8)) from by rw [HT.out, show textF [] = ([], []) from rfl]; simp)
      clear HT
      by_cases hx : x = []
      · have HX := Lib.hid hx
        have g5 : (aj : Int) = (a : Int) := by have := HAJ.out; rw [hx] at this; simp at this; omega
        have g6 : ¬ (a : Int) < (aj : Int) := by omega
        have g7 : decide ((a : Int) < (aj : Int)) = false := decide_eq_false g6
        have HG := Lib.hid g5
        clear hx g5
        go_upto_region 1 with fail; go_quiet (fail)
        go_wp2_with fail
        go_end0
        exact ⟨rfl, v, n, by rw [HR.out, HX.out]; show Ra w0 _ X s ([] : List UInt8) E v n (toks ++ []); rw [List.append_nil]; exact HA.out.next (tdrewN _ _)⟩
      · have HX := Lib.hid hx
        have HXL := Lib.hid (List.length_pos_iff.2 hx)
        have g6 : (a : Int) < (aj : Int) := by have := HAJ.out; have := HXL.out; omega
        have g7 : decide ((a : Int) < (aj : Int)) = true := decide_eq_true g6
        clear hx
        go_upto_region 1 with fail; go_quiet (fail)
        go_upto_region 4 with fail
        obtain ⟨xS, hxS⟩ : ∃ xS : ByteArray, (⟨x.toArray⟩ : ByteArray) = xS := ⟨_, rfl⟩
        have hxt : s.extract a aj = xS := by rw [← hxS]; exact ext_from (r := ([] : List UInt8)) (by rw [HDA.out, HJ.out]) HAJ.out
        have HTX := Lib.hid (fun (u : World) => (show Calls Tryz.prog 43 #[.string xS] u fun e w' => e = .returned (.string (bs (entT x))) ∧ Below u.heap.size u w' from by rw [← hxS]; exact text_any ⟨x.toArray⟩ u (by have := HZJ.out; have := HAJ.out; show x.length ≤ _; omega)))
        have HSM := Lib.hid (show (bs (entT x)).size ≤ 1152921504606846976 from Nat.le_trans (readL_len (bs x) false) (by have := HZJ.out; have := HAJ.out; show 4 * x.length ≤ _; omega))
        have HNN := Lib.hid (show n ≤ 1000000 from by have := HL.out; omega)
        clear hxS
        obtain ⟨wq, hwq⟩ : ∃ wq, wq = wr.drewN nq := ⟨_, rfl⟩
        rw [← hwq]
        have HAQ := Lib.hid (show Ra w0 wq X s ([] : List UInt8) E v n toks from by rw [hwq]; exact HA.out.next (tdrewN _ _))
        have HCQ := Lib.hid (show Rc wq X s aj E v from by rw [hwq]; exact HCJ.out)
        clear hwq
        refine wp_region_G (S := (fun W : World => W.cell? ⟨X, 0, none⟩ = some (.string s) ∧ W.cell? ⟨X, 1, none⟩ = some (.int .i64 (aj : Int)))) (T := []) (by kernel_rfl) ?_
        have hS : (fun W : World => W.cell? ⟨X, 0, none⟩ = some (.string s) ∧ W.cell? ⟨X, 1, none⟩ = some (.int .i64 (aj : Int))) wq.drew := ⟨HCQ.out.c0, HCQ.out.c1⟩
        refine wpAnyG_pure (i := 0) (v := ?_) rfl (by kernel_rfl) (by kernel_rfl) (by kernel_rfl) (fun _ _ _ h => h) rfl ?_ ?_
        rotate_left
        · intro w'
          first | (go_simp; done) | (go_simp; with_reducible rfl)
        refine wpAnyG_pure (i := 1) (v := ?_) rfl (by kernel_rfl) (by kernel_rfl) (by kernel_rfl) (fun _ _ _ h => h) rfl ?_ ?_
        rotate_left
        · intro w'
          first | (go_simp; done) | (go_simp; with_reducible rfl)
        refine wpAnyG_pure (i := 2) (v := ?_) rfl (by kernel_rfl) (by kernel_rfl) (by kernel_rfl) (fun _ _ _ h => h) rfl ?_ ?_
        rotate_left
        · intro w'
          first | (go_simp; done) | (go_simp; with_reducible rfl)
        refine wpAnyG_pure (i := 3) (v := ?_) rfl (by kernel_rfl) (by kernel_rfl) (by kernel_rfl) (fun _ _ _ h => h) rfl ?_ ?_
        rotate_left
        · intro w'
          first | (go_simp; done) | (go_simp; with_reducible rfl)
        refine wpAnyG_take (i := 4) (v := ?_) rfl (by kernel_rfl) (by kernel_rfl) (by kernel_rfl) (by kernel_rfl) (fun _ _ _ h => h) hS rfl ?_ ?_
        rotate_left
        · intro w' hSw
          (try dsimp only at hSw)
          first | (go_simp; done) | (go_simp; with_reducible rfl)
        refine wpAnyG_pure (i := 5) (v := ?_) rfl (by kernel_rfl) (by kernel_rfl) (by kernel_rfl) (fun _ _ _ h => h) rfl ?_ ?_
        rotate_left
        · intro w'
          first | (go_simp; done) | (go_simp; with_reducible rfl)
        refine wpAnyG_pure (i := 6) (v := ?_) rfl (by kernel_rfl) (by kernel_rfl) (by kernel_rfl) (fun _ _ _ h => h) rfl ?_ ?_
        rotate_left
        · intro w'
          first | (go_simp; done) | (go_simp; with_reducible rfl)
        refine wpAnyG_pure (i := 7) (v := ?_) rfl (by kernel_rfl) (by kernel_rfl) (by kernel_rfl) (fun _ _ _ h => h) rfl ?_ ?_
        rotate_left
        · intro w'
          first | (go_simp; done) | (go_simp; with_reducible rfl)
        refine wpAnyG_pure (i := 8) (v := ?_) rfl (by kernel_rfl) (by kernel_rfl) (by kernel_rfl) (fun _ _ _ h => h) rfl ?_ ?_
        rotate_left
        · intro w'
          first | (go_simp; done) | (go_simp; with_reducible rfl)
        refine wpAnyG_take (i := 9) (v := ?_) rfl (by kernel_rfl) (by kernel_rfl) (by kernel_rfl) (by kernel_rfl) (fun _ _ _ h => h) hS rfl ?_ ?_
        rotate_left
        · intro w' hSw
          (try dsimp only at hSw)
          first | (go_simp; done) | (go_simp; with_reducible rfl)
        refine wpAnyG_pure (i := 10) (v := ?_) rfl (by kernel_rfl) (by kernel_rfl) (by kernel_rfl) (fun _ _ _ h => h) rfl ?_ ?_
        rotate_left
        · intro w'
          first | (go_simp; done) | (go_simp; with_reducible rfl)
        refine wpAnyG_pure (i := 13) (v := ?_) rfl (by kernel_rfl) (by kernel_rfl) (by kernel_rfl) (fun _ _ _ h => h) rfl ?_ ?_
        rotate_left
        · intro w'
          first | (go_simp; done) | (go_simp; with_reducible rfl)
        refine wpAnyG_one (i := 11) (by kernel_rfl) rfl rfl (fun K hK => ?_)
        go_simp
        go_at_call 43
        refine (HTX.out _).mono ?_
        rintro e' V1 ⟨rfl, hv1⟩
        have HV1 := Lib.hid ((tdrew wq).trans hv1)
        clear hv1
        go_wp2_with fail
        refine hK.out _ _ (fun _ _ => ⟨cell_be HCQ.out.c0 HV1.out, cell_be HCQ.out.c1 HV1.out⟩) ?_
        clear hK K hS
        refine wpAnyG_pure (i := 12) (v := ?_) rfl (by kernel_rfl) (by kernel_rfl) (by kernel_rfl) (fun _ _ _ h => h) rfl ?_ ?_
        rotate_left
        · intro w'
          first | (go_simp; done) | (go_simp; with_reducible rfl)
        have HPU := Lib.hid (tkPut_any w0 V1 X s ([] : List UInt8) E v n toks (tkT (bs (entT x))) none 0 0 (a : Int) hs (HAQ.out.next HV1.out) Sl.nil rfl (Nat.zero_le _) HSM.out (WalkArith.wf_i64 (by have := HZJ.out; have := HAJ.out; omega)) HNN.out)
        refine wpAnyG_one (i := 14) (by kernel_rfl) rfl rfl (fun K hK => ?_)
        go_simp
        go_at_call 33
        refine HPU.out.mono ?_
        rintro e' V2 ⟨rfl, v', hv2⟩
        have HV2 := Lib.hid hv2
        clear hv2
        go_wp2_with fail
        refine hK.out _ _ (fun _ _ => ?_) ?_
        · obtain ⟨⟨a9, h91, h92, h93⟩, _⟩ := HV2.out.rd; have h94 := drop_len h91 h92; obtain rfl : a9 = aj := (by have := HZJ.out; omega); exact ⟨h93.c0, h93.c1⟩
        clear hK K
        refine wpAnyG_done (by kernel_rfl) ?_ _
        go_simp
        go_wp2_with fail
        go_end0
        exact ⟨rfl, v', n + 1, by
              rw [HR.out]
              have h1 : putT x (bs (entT x)) r.length ([] : List UInt8).length = [(tkT (bs (entT x)), r.length, ([] : List UInt8).length)] := if_neg HX.out
              have h2 : ((s.size - r.length : Nat) : Int) = (a : Int) := by have := HAZ.out; omega
              show Ra w0 V2 X s ([] : List UInt8) E v' (n + 1) (toks ++ (putT x (bs (entT x)) r.length ([] : List UInt8).length).map (plOf s))
              rw [h1]
              show Ra w0 V2 X s ([] : List UInt8) E v' (n + 1) (toks ++ [(tkT (bs (entT x)), ((s.size - r.length : Nat) : Int), ((s.size - ([] : List UInt8).length : Nat) : Int))])
              rw [h2]
              exact HV2.out⟩
    | cons c t =>
      have g0 : (aj : Int) < (s.size : Int) := by rw [List.length_cons] at hzj; omega
      have g1 : decide ((aj : Int) < (s.size : Int)) = true := decide_eq_true g0
      have HMK := Lib.hid (fun (u : World) (hu : Rc u X s aj E v) => tkMarkup_any X s aj aj c t E v u hs hu hrj)
      have HMQ := Lib.hid (fun (k : Nat) => HMK.out (wr.drewN k) HCJ.out)
      have hr2 := (at_head hrj).2.2
      have HR2 := Lib.hid hr2
      have HMJ := Lib.hid hmj
      have w1 : IntKind.i64.wrap ((aj : Int) + 1) = (aj : Int) + 1 := IntWalk.i64_in _ (by omega)
      have hst := textF_cons c t
      clear hrj hcj hmj hlen haj hr2
      by_cases hm0 : markF (c :: t) = 0
      · rw [if_pos hm0] at hst
        have HST := Lib.hid hst
        rw [hm0] at HMQ
        clear hst hm0 hzj
        go_upto_region 1 with fail
        go_quiet ((go_at_call 31; exact Calls.quiet_of_same (HMQ.out _)))
        go_wp2_with fail
        have hst2 := Rd.step (w := wr.drewN nq) (n := (aj : Int) + 1) (b := aj + 1) (by omega) (by omega) HR2.out HCJ.out HMJ.out
        have hra := (HA.out.next (tdrewN wr nq)).go hst2.2 hst2.1
        refine ⟨⟨t, x ++ [c], Lib.hid (by rw [HJ.out, List.append_assoc]; rfl), Lib.hid (by rw [HT.out, HST.out]; simp), Lib.hid hra⟩, ?_⟩
        rw [hra.rd.left, HLF.out, List.length_cons]
        omega
      · rw [if_neg hm0] at hst
        have hne : (((markF (c :: t)).toNat : Int) == 0) = false := u8_ne (c := 0) (by decide) hm0
        have hne2 : ¬ (markF (c :: t)).toNat = 0 := fun e => hm0 (UInt8.toNat_inj.1 e)
        have HST := Lib.hid hst
        clear hst hm0 hzj
        generalize markF (c :: t) = mk at *
        have HR := Lib.hid (show textF r = (x, (c :: t)) from by rw [HT.out, HST.out]; simp)
        clear HT
        by_cases hx : x = []
        · have HX := Lib.hid hx
          have g5 : (aj : Int) = (a : Int) := by have := HAJ.out; rw [hx] at this; simp at this; omega
          have g6 : ¬ (a : Int) < (aj : Int) := by omega
          have g7 : decide ((a : Int) < (aj : Int)) = false := decide_eq_false g6
          have HG := Lib.hid g5
          clear hx g5
          go_upto_region 1 with fail; go_quiet ((go_at_call 31; exact Calls.quiet_of_same (HMQ.out _)))
          go_wp2_with fail
          go_end0
          exact ⟨rfl, v, n, by rw [HR.out, HX.out]; show Ra w0 _ X s (c :: t) E v n (toks ++ []); rw [List.append_nil]; exact HA.out.next (tdrewN _ _)⟩
        · have HX := Lib.hid hx
          have HXL := Lib.hid (List.length_pos_iff.2 hx)
          have g6 : (a : Int) < (aj : Int) := by have := HAJ.out; have := HXL.out; omega
          have g7 : decide ((a : Int) < (aj : Int)) = true := decide_eq_true g6
          clear hx
          go_upto_region 1 with fail; go_quiet ((go_at_call 31; exact Calls.quiet_of_same (HMQ.out _)))
          go_upto_region 4 with fail
          obtain ⟨xS, hxS⟩ : ∃ xS : ByteArray, (⟨x.toArray⟩ : ByteArray) = xS := ⟨_, rfl⟩
          have hxt : s.extract a aj = xS := by rw [← hxS]; exact ext_from (r := (c :: t)) (by rw [HDA.out, HJ.out]) HAJ.out
          have HTX := Lib.hid (fun (u : World) => (show Calls Tryz.prog 43 #[.string xS] u fun e w' => e = .returned (.string (bs (entT x))) ∧ Below u.heap.size u w' from by rw [← hxS]; exact text_any ⟨x.toArray⟩ u (by have := HZJ.out; have := HAJ.out; show x.length ≤ _; omega)))
          have HSM := Lib.hid (show (bs (entT x)).size ≤ 1152921504606846976 from Nat.le_trans (readL_len (bs x) false) (by have := HZJ.out; have := HAJ.out; show 4 * x.length ≤ _; omega))
          have HNN := Lib.hid (show n ≤ 1000000 from by have := HL.out; omega)
          clear hxS
          obtain ⟨wq, hwq⟩ : ∃ wq, wq = wr.drewN nq := ⟨_, rfl⟩
          rw [← hwq]
          have HAQ := Lib.hid (show Ra w0 wq X s (c :: t) E v n toks from by rw [hwq]; exact HA.out.next (tdrewN _ _))
          have HCQ := Lib.hid (show Rc wq X s aj E v from by rw [hwq]; exact HCJ.out)
          clear hwq
          refine wp_region_G (S := (fun W : World => W.cell? ⟨X, 0, none⟩ = some (.string s) ∧ W.cell? ⟨X, 1, none⟩ = some (.int .i64 (aj : Int)))) (T := []) (by kernel_rfl) ?_
          have hS : (fun W : World => W.cell? ⟨X, 0, none⟩ = some (.string s) ∧ W.cell? ⟨X, 1, none⟩ = some (.int .i64 (aj : Int))) wq.drew := ⟨HCQ.out.c0, HCQ.out.c1⟩
          refine wpAnyG_pure (i := 0) (v := ?_) rfl (by kernel_rfl) (by kernel_rfl) (by kernel_rfl) (fun _ _ _ h => h) rfl ?_ ?_
          rotate_left
          · intro w'
            first | (go_simp; done) | (go_simp; with_reducible rfl)
          refine wpAnyG_pure (i := 1) (v := ?_) rfl (by kernel_rfl) (by kernel_rfl) (by kernel_rfl) (fun _ _ _ h => h) rfl ?_ ?_
          rotate_left
          · intro w'
            first | (go_simp; done) | (go_simp; with_reducible rfl)
          refine wpAnyG_pure (i := 2) (v := ?_) rfl (by kernel_rfl) (by kernel_rfl) (by kernel_rfl) (fun _ _ _ h => h) rfl ?_ ?_
          rotate_left
          · intro w'
            first | (go_simp; done) | (go_simp; with_reducible rfl)
          refine wpAnyG_pure (i := 3) (v := ?_) rfl (by kernel_rfl) (by kernel_rfl) (by kernel_rfl) (fun _ _ _ h => h) rfl ?_ ?_
          rotate_left
          · intro w'
            first | (go_simp; done) | (go_simp; with_reducible rfl)
          refine wpAnyG_take (i := 4) (v := ?_) rfl (by kernel_rfl) (by kernel_rfl) (by kernel_rfl) (by kernel_rfl) (fun _ _ _ h => h) hS rfl ?_ ?_
          rotate_left
          · intro w' hSw
            (try dsimp only at hSw)
            first | (go_simp; done) | (go_simp; with_reducible rfl)
          refine wpAnyG_pure (i := 5) (v := ?_) rfl (by kernel_rfl) (by kernel_rfl) (by kernel_rfl) (fun _ _ _ h => h) rfl ?_ ?_
          rotate_left
          · intro w'
            first | (go_simp; done) | (go_simp; with_reducible rfl)
          refine wpAnyG_pure (i := 6) (v := ?_) rfl (by kernel_rfl) (by kernel_rfl) (by kernel_rfl) (fun _ _ _ h => h) rfl ?_ ?_
          rotate_left
          · intro w'
            first | (go_simp; done) | (go_simp; with_reducible rfl)
          refine wpAnyG_pure (i := 7) (v := ?_) rfl (by kernel_rfl) (by kernel_rfl) (by kernel_rfl) (fun _ _ _ h => h) rfl ?_ ?_
          rotate_left
          · intro w'
            first | (go_simp; done) | (go_simp; with_reducible rfl)
          refine wpAnyG_pure (i := 8) (v := ?_) rfl (by kernel_rfl) (by kernel_rfl) (by kernel_rfl) (fun _ _ _ h => h) rfl ?_ ?_
          rotate_left
          · intro w'
            first | (go_simp; done) | (go_simp; with_reducible rfl)
          refine wpAnyG_take (i := 9) (v := ?_) rfl (by kernel_rfl) (by kernel_rfl) (by kernel_rfl) (by kernel_rfl) (fun _ _ _ h => h) hS rfl ?_ ?_
          rotate_left
          · intro w' hSw
            (try dsimp only at hSw)
            first | (go_simp; done) | (go_simp; with_reducible rfl)
          refine wpAnyG_pure (i := 10) (v := ?_) rfl (by kernel_rfl) (by kernel_rfl) (by kernel_rfl) (fun _ _ _ h => h) rfl ?_ ?_
          rotate_left
          · intro w'
            first | (go_simp; done) | (go_simp; with_reducible rfl)
          refine wpAnyG_pure (i := 13) (v := ?_) rfl (by kernel_rfl) (by kernel_rfl) (by kernel_rfl) (fun _ _ _ h => h) rfl ?_ ?_
          rotate_left
          · intro w'
            first | (go_simp; done) | (go_simp; with_reducible rfl)
          refine wpAnyG_one (i := 11) (by kernel_rfl) rfl rfl (fun K hK => ?_)
          go_simp
          go_at_call 43
          refine (HTX.out _).mono ?_
          rintro e' V1 ⟨rfl, hv1⟩
          have HV1 := Lib.hid ((tdrew wq).trans hv1)
          clear hv1
          go_wp2_with fail
          refine hK.out _ _ (fun _ _ => ⟨cell_be HCQ.out.c0 HV1.out, cell_be HCQ.out.c1 HV1.out⟩) ?_
          clear hK K hS
          refine wpAnyG_pure (i := 12) (v := ?_) rfl (by kernel_rfl) (by kernel_rfl) (by kernel_rfl) (fun _ _ _ h => h) rfl ?_ ?_
          rotate_left
          · intro w'
            first | (go_simp; done) | (go_simp; with_reducible rfl)
          have HPU := Lib.hid (tkPut_any w0 V1 X s (c :: t) E v n toks (tkT (bs (entT x))) none 0 0 (a : Int) hs (HAQ.out.next HV1.out) Sl.nil rfl (Nat.zero_le _) HSM.out (WalkArith.wf_i64 (by have := HZJ.out; have := HAJ.out; omega)) HNN.out)
          refine wpAnyG_one (i := 14) (by kernel_rfl) rfl rfl (fun K hK => ?_)
          go_simp
          go_at_call 33
          refine HPU.out.mono ?_
          rintro e' V2 ⟨rfl, v', hv2⟩
          have HV2 := Lib.hid hv2
          clear hv2
          go_wp2_with fail
          refine hK.out _ _ (fun _ _ => ?_) ?_
          · obtain ⟨⟨a9, h91, h92, h93⟩, _⟩ := HV2.out.rd; have h94 := drop_len h91 h92; obtain rfl : a9 = aj := (by have := HZJ.out; omega); exact ⟨h93.c0, h93.c1⟩
          clear hK K
          refine wpAnyG_done (by kernel_rfl) ?_ _
          go_simp
          go_wp2_with fail
          go_end0
          exact ⟨rfl, v', n + 1, by
                rw [HR.out]
                have h1 : putT x (bs (entT x)) r.length (c :: t).length = [(tkT (bs (entT x)), r.length, (c :: t).length)] := if_neg HX.out
                have h2 : ((s.size - r.length : Nat) : Int) = (a : Int) := by have := HAZ.out; omega
                show Ra w0 V2 X s (c :: t) E v' (n + 1) (toks ++ (putT x (bs (entT x)) r.length (c :: t).length).map (plOf s))
                rw [h1]
                show Ra w0 V2 X s (c :: t) E v' (n + 1) (toks ++ [(tkT (bs (entT x)), ((s.size - r.length : Nat) : Int), ((s.size - (c :: t).length : Nat) : Int))])
                rw [h2]
                exact HV2.out⟩
end Go.Proofs.YtbddnohbkafagaaGreatDoor

/-
Tokens: the reader's closes.
-/
namespace Go.Proofs.YtbddnohbkafagaaGreatDoor
open Go.RowKit Go.Cl
attribute [local go_sem ↓] Go.wp_at_zero Go.wp_at_succ
/-- EqualFold against a text of ASCII that is no shorter: in each world that agrees below a block. -/
def FoldOk (w0 : World) (X : Nat) : Prop := ∀ u : World, Below X w0 u → ∀ s t : ByteArray, s.size ≤ t.size → t.size ≤ 1000000 → (∀ b ∈ t.data.toList, b.toNat < 128) →
  Calls Tryz.prog 39 #[.string s, .string t] u fun e w' => e = .returned (.bool (Lib.equalFold s.data.toList t.data.toList)) ∧ Below u.heap.size u w'
theorem ext_list (s : ByteArray) (a b : Nat) : (s.extract a b).data.toList = (s.data.toList.drop a).take (b - a) := by
  rw [ByteArray.data_extract, Array.toList_extract, List.extract_eq_take_drop]
set_option maxRecDepth 100000 in
set_option maxHeartbeats 4000000 in
theorem tkCloses_any (X : Nat) (s : ByteArray) (a0 a : Nat) (r : List UInt8) (nm : ByteArray) (E : Int) (O : Value) (w : World) (hs : s.size ≤ 1000000) (hc : Rc w X s a0 E O) (ha : a ≤ s.size) (hr : s.data.toList.drop a = r) (hn : nm.size ≤ 1000)
    (hF : ∀ x : ByteArray, x.size = nm.size → Calls Tryz.prog 39 #[.string x, .string nm] w fun e w' => e = .returned (.bool (Lib.equalFold x.data.toList nm.data.toList)) ∧ Below w.heap.size w w') :
    Calls Tryz.prog 26 #[.pointer (some ⟨X, 0, none⟩), .int .i64 (a : Int), .string nm] w fun e w' => e = .returned (.bool (closesF nm.data.toList r)) ∧ Below w.heap.size w w' := by
  have hdl := drop_len ha hr
  have hnl : nm.data.toList.length = nm.size := by simp
  have c0 := hc.c0
  have HC := Lib.hid hc
  have i0 : (0 : Int) ≤ (a : Int) := by omega
  have i1 : (a : Int) ≤ (s.size : Int) := by omega
  have w1 : IntKind.i64.wrap ((a : Int) + 2) = (a : Int) + 2 := IntWalk.i64_in _ (by omega)
  have w2 : IntKind.i64.wrap ((a : Int) + 2 + (nm.size : Int)) = (a : Int) + 2 + (nm.size : Int) := IntWalk.i64_in _ (by omega)
  have hcl : closesF nm.data.toList r = (decide (2 + nm.data.toList.length < r.length) && (r.take 2 == [60, 47]) && Lib.equalFold ((r.drop 2).take nm.data.toList.length) nm.data.toList && (match r[2 + nm.data.toList.length]? with | some b => blankB b || b == 47 || b == 62 | none => false)) := rfl
  by_cases h1 : 2 + nm.size < r.length
  · have g1 : (a : Int) + 2 + (nm.size : Int) < (s.size : Int) := by omega
    have g1' : decide ((a : Int) + 2 + (nm.size : Int) < (s.size : Int)) = true := decide_eq_true g1
    have j1 : (a : Int) + 2 ≤ (s.size : Int) := by omega
    have j2 : (a : Int) ≤ (a : Int) + 2 := by omega
    have j3 : (0 : Int) ≤ (a : Int) + 2 := by omega
    have j4 : (a : Int) + 2 ≤ (a : Int) + 2 + (nm.size : Int) := by omega
    have j5 : (a : Int) + 2 + (nm.size : Int) ≤ (s.size : Int) := by omega
    have j6 : (0 : Int) ≤ (a : Int) + 2 + (nm.size : Int) := by omega
    have n1 : ((a : Int) + 2).toNat = a + 2 := by omega
    have n2 : ((a : Int) + 2 + (nm.size : Int)).toNat = a + 2 + nm.size := by omega
    obtain ⟨pS, hpS⟩ : ∃ pS, s.extract a (a + 2) = pS := ⟨_, rfl⟩
    have hp : pS.toList = r.take 2 := by rw [← hpS, ByteArray.toList_eq, ext_list, hr, show a + 2 - a = 2 by omega]
    by_cases h2 : r.take 2 = [60, 47]
    · have t1 : (pS.toList == [60, 47]) = true := by rw [hp, h2]; rfl
      obtain ⟨fS, hfS⟩ : ∃ fS, s.extract (a + 2) (a + 2 + nm.size) = fS := ⟨_, rfl⟩
      have hf : fS.data.toList = (r.drop 2).take nm.data.toList.length := by rw [← hfS, ext_list, ← List.drop_drop, hr, hnl, show a + 2 + nm.size - (a + 2) = nm.size by omega]
      have hfz : fS.size = nm.size := by
        have : fS.size = fS.data.toList.length := by simp
        rw [this, hf, List.length_take, List.length_drop]
        omega
      have HEF := Lib.hid (hF fS hfz)
      rw [hf] at HEF
      have hlt : a + 2 + nm.size < s.size := by omega
      have hg : r[2 + nm.data.toList.length]? = some s[a + 2 + nm.size] := by
        rw [← hr, List.getElem?_drop, hnl, show a + (2 + nm.size) = a + 2 + nm.size by omega, Array.getElem?_toList]
        exact Array.getElem?_eq_getElem _
      rw [hg] at hcl
      dsimp only at hcl
      cases hef : Lib.equalFold ((r.drop 2).take nm.data.toList.length) nm.data.toList with
      | false =>
        have HV := Lib.hid (show closesF nm.data.toList r = false from by rw [hcl, hef]; simp)
        rw [hef] at HEF
        clear hef hg hf hfz hp h2 h1 hcl hF hdl hnl hr ha hn hc
        go_enter Tryz.func26, Tryz.ntmps26
        go_wp2_with ((go_at_call 39; refine HEF.out.mono ?_; rintro e w9 ⟨rfl, hb9⟩; have HB9 := Lib.hid hb9; have c0 := cell_be HC.out.c0 hb9; clear hb9))
        go_ret
        exact ⟨by first | (rw [HV.out]; rfl) | (simp only [HV.out]; rfl), HB9.out⟩
      | true =>
        rw [hef] at HEF
        have hcl2 : closesF nm.data.toList r = (blankB s[a + 2 + nm.size] || s[a + 2 + nm.size] == 47 || s[a + 2 + nm.size] == 62) := by rw [hcl, hef, h2, hnl, decide_eq_true h1]; simp
        have HBL := Lib.hid (fun u : World => blank_any s[a + 2 + nm.size] u)
        have HCL := Lib.hid hcl2
        clear hef hg hf hfz hp h2 h1 hcl hF hdl hnl hr ha hn hc hcl2
        cases hb : blankB s[a + 2 + nm.size] with
        | true =>
          have HV := Lib.hid (show closesF nm.data.toList r = true from by rw [HCL.out, hb]; rfl)
          rw [hb] at HBL
          clear hb
          go_enter Tryz.func26, Tryz.ntmps26
          go_wp2_with (first | (go_at_call 39; refine HEF.out.mono ?_; rintro e w9 ⟨rfl, hb9⟩; have HB9 := Lib.hid hb9; have c0 := cell_be HC.out.c0 hb9; clear hb9) | (go_at_call 40; refine (HBL.out _).mono ?_; rintro e w8 ⟨rfl, rfl⟩))
          go_ret
          exact ⟨by first | (rw [HV.out]; rfl) | (simp only [HV.out]; rfl), HB9.out⟩
        | false =>
          rw [hb] at HBL
          by_cases h47 : s[a + 2 + nm.size] = 47
          · have HV := Lib.hid (show closesF nm.data.toList r = true from by rw [HCL.out, hb, h47]; rfl)
            have e47 : ((s[a + 2 + nm.size].toNat : Int) == 47) = true := by rw [h47]; rfl
            have p247 : 47 ≤ s[a + 2 + nm.size].toNat := by rw [h47]; decide
            have p347 : s[a + 2 + nm.size].toNat ≤ 47 := by rw [h47]; decide
            clear hb h47
            go_enter Tryz.func26, Tryz.ntmps26
            go_wp2_with (first | (go_at_call 39; refine HEF.out.mono ?_; rintro e w9 ⟨rfl, hb9⟩; have HB9 := Lib.hid hb9; have c0 := cell_be HC.out.c0 hb9; clear hb9) | (go_at_call 40; refine (HBL.out _).mono ?_; rintro e w8 ⟨rfl, rfl⟩))
            go_ret
            exact ⟨by first | (rw [HV.out]; rfl) | (simp only [HV.out]; rfl), HB9.out⟩
          by_cases h62 : s[a + 2 + nm.size] = 62
          · have HV := Lib.hid (show closesF nm.data.toList r = true from by rw [HCL.out, hb, h62]; rfl)
            have e47 : ((s[a + 2 + nm.size].toNat : Int) == 47) = false := by rw [h62]; rfl
            have p47 : ¬ s[a + 2 + nm.size].toNat = 47 := by rw [h62]; decide
            clear h47
            have e62 : ((s[a + 2 + nm.size].toNat : Int) == 62) = true := by rw [h62]; rfl
            have p262 : 62 ≤ s[a + 2 + nm.size].toNat := by rw [h62]; decide
            have p362 : s[a + 2 + nm.size].toNat ≤ 62 := by rw [h62]; decide
            clear hb h62
            go_enter Tryz.func26, Tryz.ntmps26
            go_wp2_with (first | (go_at_call 39; refine HEF.out.mono ?_; rintro e w9 ⟨rfl, hb9⟩; have HB9 := Lib.hid hb9; have c0 := cell_be HC.out.c0 hb9; clear hb9) | (go_at_call 40; refine (HBL.out _).mono ?_; rintro e w8 ⟨rfl, rfl⟩))
            go_ret
            exact ⟨by first | (rw [HV.out]; rfl) | (simp only [HV.out]; rfl), HB9.out⟩
          have e47 : ((s[a + 2 + nm.size].toNat : Int) == 47) = false := u8_ne (c := 47) (by decide) h47
          have p47 : ¬ s[a + 2 + nm.size].toNat = 47 := fun e => h47 (UInt8.toNat_inj.1 e)
          have e62 : ((s[a + 2 + nm.size].toNat : Int) == 62) = false := u8_ne (c := 62) (by decide) h62
          have p62 : ¬ s[a + 2 + nm.size].toNat = 62 := fun e => h62 (UInt8.toNat_inj.1 e)
          have HV := Lib.hid (show closesF nm.data.toList r = false from by rw [HCL.out, hb, beq_eq_false_iff_ne.2 h47, beq_eq_false_iff_ne.2 h62]; rfl)
          clear hb h47 h62
          go_enter Tryz.func26, Tryz.ntmps26
          go_wp2_with (first | (go_at_call 39; refine HEF.out.mono ?_; rintro e w9 ⟨rfl, hb9⟩; have HB9 := Lib.hid hb9; have c0 := cell_be HC.out.c0 hb9; clear hb9) | (go_at_call 40; refine (HBL.out _).mono ?_; rintro e w8 ⟨rfl, rfl⟩))
          go_ret
          exact ⟨by first | (rw [HV.out]; rfl) | (simp only [HV.out]; rfl), HB9.out⟩
    · have t1 : (pS.toList == [60, 47]) = false := by rw [hp]; exact beq_eq_false_iff_ne.2 h2
      have HV := Lib.hid (show closesF nm.data.toList r = false from by rw [hcl, beq_eq_false_iff_ne.2 h2]; simp)
      clear hp h2 h1 hcl hF hdl hnl hr ha hn hc
      go_enter Tryz.func26, Tryz.ntmps26
      go_wp2_with fail
      go_ret
      exact ⟨by first | (rw [HV.out]; rfl) | (simp only [HV.out]; rfl), Below.refl _ _⟩
  · have g1 : ¬ (a : Int) + 2 + (nm.size : Int) < (s.size : Int) := by omega
    have g1' : decide ((a : Int) + 2 + (nm.size : Int) < (s.size : Int)) = false := decide_eq_false g1
    have HV := Lib.hid (show closesF nm.data.toList r = false from by rw [hcl, decide_eq_false (by omega)]; rfl)
    clear h1 hcl hF hdl hnl hr ha hn hc
    go_enter Tryz.func26, Tryz.ntmps26
    go_wp2_with fail
    go_ret
    exact ⟨by first | (rw [HV.out]; rfl) | (simp only [HV.out]; rfl), Below.refl _ _⟩
end Go.Proofs.YtbddnohbkafagaaGreatDoor
