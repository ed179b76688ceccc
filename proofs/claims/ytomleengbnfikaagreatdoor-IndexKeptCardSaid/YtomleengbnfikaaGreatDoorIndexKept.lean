/-
The walk of IndexKept.
-/
import Derived.Test.YtomleengbnfikaaGreatDoorIdxAfter
import Derived.Test.YtomleengbnfikaaGreatDoorIdxBegun
import Derived.Test.YtomleengbnfikaaGreatDoorIdxRefs
import Derived.Deep.DeepCutAuto
namespace Go.Proofs.YtomleengbnfikaaGreatDoor
open Go.RowKit Go.Cl
attribute [local go_sem ↓] Go.wp_at_zero Go.wp_at_succ

/-- Three may come up. -/
theorem wpAnyG_three {P : Program} {md : Region.Mode} {ops : Array Oper} {Q : Exit → Act → World → Prop} {S : World → Prop} {T : List Nat} {i j m : Nat} {oi oj om : Oper} {fuel : Nat} {listed : Array Bool} {a : Act} {w : World} (hr : Region.ready md ops listed = [i, j, m]) (hi : ops[i]? = some oi) (hj : ops[j]? = some oj) (hm : ops[m]? = some om) (hgi : oi.guard = none) (hgj : oj.guard = none) (hgm : om.guard = none)
    (h1 : ∀ K : Act → World → Prop, Hid (∀ a' w', (i ∉ T → S w → S w') → wpAnyG P md ops Q S T fuel (listed.setIfInBounds i true) a' w' → K a' w') → oi.wp P a w K Q)
    (h2 : ∀ K : Act → World → Prop, Hid (∀ a' w', (j ∉ T → S w → S w') → wpAnyG P md ops Q S T fuel (listed.setIfInBounds j true) a' w' → K a' w') → oj.wp P a w K Q)
    (h3 : ∀ K : Act → World → Prop, Hid (∀ a' w', (m ∉ T → S w → S w') → wpAnyG P md ops Q S T fuel (listed.setIfInBounds m true) a' w' → K a' w') → om.wp P a w K Q) : wpAnyG P md ops Q S T (fuel + 1) listed a w := by
  refine ⟨fun h0 => ?_, fun k hk => ?_⟩
  · rw [h0] at hr
    cases hr
  · rw [hr] at hk
    have e : k = i ∨ k = j ∨ k = m := by simpa using hk
    rcases e with rfl | rfl | rfl
    · unfold wpOp
      simp only [hi]
      rw [if_pos (by simp [Region.wanted, hgi])]
      exact Or.inl (h1 _ (Lib.hid fun _ _ h1 h2 => ⟨h1, h2⟩))
    · unfold wpOp
      simp only [hj]
      rw [if_pos (by simp [Region.wanted, hgj])]
      exact Or.inl (h2 _ (Lib.hid fun _ _ h1 h2 => ⟨h1, h2⟩))
    · unfold wpOp
      simp only [hm]
      rw [if_pos (by simp [Region.wanted, hgm])]
      exact Or.inl (h3 _ (Lib.hid fun _ _ h1 h2 => ⟨h1, h2⟩))
theorem kept_len (l : List Nd) (e : Edt) : (edDo l e).length ≤ l.length + 1 := by
  have h := (ed_stay l e).1
  by_cases h4 : e.do_ = 4
  · rw [if_pos h4] at h; omega
  · rw [if_neg h4] at h; omega
/-- Four lists, read. -/
structure At4 (W : World) (D : Nat → Prop) (L : Nat → List Ref) (A0 A1 A2 A3 : Option Addr) (n0 n1 n2 n3 c0 c1 c2 c3 : Nat) : Prop where
  l0 : Sl tRef W D A0 n0 c0 (L 0)
  l1 : Sl tRef W D A1 n1 c1 (L 1)
  l2 : Sl tRef W D A2 n2 c2 (L 2)
  l3 : Sl tRef W D A3 n3 c3 (L 3)
section
variable {W W' : World} {D D' : Nat → Prop} {L : Nat → List Ref} {A0 A1 A2 A3 : Option Addr} {n0 n1 n2 n3 c0 c1 c2 c3 : Nat}
theorem At4.keep (h : At4 W D L A0 A1 A2 A3 n0 n1 n2 n3 c0 c1 c2 c3) (hk : ∀ p : Addr, D p.block → W'.cell? p = W.cell? p) : At4 W' D L A0 A1 A2 A3 n0 n1 n2 n3 c0 c1 c2 c3 := ⟨h.l0.keep hk, h.l1.keep hk, h.l2.keep hk, h.l3.keep hk⟩
theorem At4.more (h : At4 W D L A0 A1 A2 A3 n0 n1 n2 n3 c0 c1 c2 c3) (hk : ∀ b, D b → D' b) : At4 W D' L A0 A1 A2 A3 n0 n1 n2 n3 c0 c1 c2 c3 := ⟨h.l0.more hk, h.l1.more hk, h.l2.more hk, h.l3.more hk⟩
theorem sl_nx {α : Type} {T : Ty α} {A : Option Addr} {n c : Nat} {xs : List α} (h : Sl T W (lt W.heap.size) A n c xs) (hb : Below W.heap.size W W') : Sl T W' (lt W'.heap.size) A n c xs := (h.below hb (Nat.le_refl _)).up hb.size
theorem At4.next (h : At4 W (lt W.heap.size) L A0 A1 A2 A3 n0 n1 n2 n3 c0 c1 c2 c3) (hb : Below W.heap.size W W') : At4 W' (lt W'.heap.size) L A0 A1 A2 A3 n0 n1 n2 n3 c0 c1 c2 c3 := ⟨sl_nx h.l0 hb, sl_nx h.l1 hb, sl_nx h.l2 hb, sl_nx h.l3 hb⟩
end
/-- What is kept: a document and its index, in their boxes. -/
structure KI (w : World) (X : Nat) (q : Bool) (l : List Nd) (A : Option Addr) (n c : Nat) (A0 A1 A2 A3 : Option Addr) (n0 n1 n2 n3 c0 c1 c2 c3 : Nat) (u : World) : Prop where
  below : Below w.heap.size w u
  box : u.heap[w.heap.size]? = some (.cells #[.slice A n c, .bool q] 24 (0, 0))
  ix : u.heap[X]? = some (.cells #[.slice A0 n0 c0, .slice A1 n1 c1, .slice A2 n2 c2, .slice A3 n3 c3] 29 (0, 0))
  doc : Sl tNd u (lt u.heap.size) A n c l
  lists : At4 u (lt u.heap.size) (anD l) A0 A1 A2 A3 n0 n1 n2 n3 c0 c1 c2 c3
  good : Good l
  far : w.heap.size < X
/-- A box, made since. -/
structure Bx (wr : World) (P : Nat) (o : Obj) (W : World) : Prop where
  low : wr.heap.size ≤ P
  blk : W.heap[P]? = some o
theorem Bx.next {wr W W' : World} {P : Nat} {o : Obj} (h : Bx wr P o W) (hb : Below W.heap.size W W') : Bx wr P o W' := ⟨h.low, (hb.block P (Array.getElem?_eq_some_iff.1 h.blk).1).trans h.blk⟩
theorem Bx.new {wr W : World} {cs : Array Value} {t : TypeId} (hb : Below wr.heap.size wr W) : Bx wr W.heap.size (.cells cs t (0, 0)) (W.alloc (.cells cs t)) := ⟨hb.size, heap_alloc_new W _⟩
/-- What After tells, in one form. -/
structure AfOk (l : List Nd) (q : Bool) (e : Edt) (er : Int) (A : Option Addr) (n c : Nat) (qq : Bool) (A0 A1 A2 A3 : Option Addr) (n0 n1 n2 n3 c0 c1 c2 c3 : Nat) (D : Nat → Prop) (W : World) : Prop where
  err : er = edErr l e
  lim : ∀ b, D b → b < W.heap.size
  ok : er = 0 → qq = q ∧ Sl tNd W D A n c (edDo l e) ∧ At4 W D (anD (edDo l e)) A0 A1 A2 A3 n0 n1 n2 n3 c0 c1 c2 c3
section
variable {l : List Nd} {q : Bool} {e : Edt} {er : Int} {A : Option Addr} {n c : Nat} {qq : Bool} {A0 A1 A2 A3 : Option Addr} {n0 n1 n2 n3 c0 c1 c2 c3 : Nat} {w W W' : World} {X : Nat}
theorem AfOk.next {D : Nat → Prop} (h : AfOk l q e er A n c qq A0 A1 A2 A3 n0 n1 n2 n3 c0 c1 c2 c3 D W) (hb : Below W.heap.size W W') : AfOk l q e er A n c qq A0 A1 A2 A3 n0 n1 n2 n3 c0 c1 c2 c3 D W' :=
  ⟨h.err, fun b hd => Nat.lt_of_lt_of_le (h.lim b hd) hb.size, fun h0 => ⟨(h.ok h0).1, (h.ok h0).2.1.keep fun _ hp => hb.cell (h.lim _ hp), (h.ok h0).2.2.keep fun _ hp => hb.cell (h.lim _ hp)⟩⟩
theorem KI.next (h : KI w X q l A n c A0 A1 A2 A3 n0 n1 n2 n3 c0 c1 c2 c3 W) (hb : Below W.heap.size W W') : KI w X q l A n c A0 A1 A2 A3 n0 n1 n2 n3 c0 c1 c2 c3 W' :=
  ⟨h.below.trans (hb.mono h.below.size), (hb.block _ (Array.getElem?_eq_some_iff.1 h.box).1).trans h.box, (hb.block _ (Array.getElem?_eq_some_iff.1 h.ix).1).trans h.ix, sl_nx h.doc hb, h.lists.next hb, h.good, h.far⟩
end
theorem AfPost.uni {w : World} {l : List Nd} {q : Bool} {e : Edt} {e' : Ending} {w' : World} (h : AfPost w l q e e' w') : Below w.heap.size w w' ∧ ∃ er A n c qq A0 A1 A2 A3 n0 n1 n2 n3 c0 c1 c2 c3, e' = .returned (.tuple #[.agg #[.slice A n c, .bool qq], .agg #[.slice A0 n0 c0, .slice A1 n1 c1, .slice A2 n2 c2, .slice A3 n3 c3], .int .i64 er]) ∧ AfOk l q e er A n c qq A0 A1 A2 A3 n0 n1 n2 n3 c0 c1 c2 c3 (rg w.heap.size w'.heap.size) w' := by
  obtain ⟨hb, ⟨h1, h2⟩ | ⟨h1, A', c', V, h2, h3, h4⟩⟩ := h
  · exact ⟨hb, _, none, 0, 0, false, none, none, none, none, 0, 0, 0, 0, 0, 0, 0, 0, h2, rfl, fun _ h => h.2, fun h => absurd h h1⟩
  · obtain ⟨B0, d0, g0, s0⟩ := h4 0 (by decide)
    obtain ⟨B1, d1, g1, s1⟩ := h4 1 (by decide)
    obtain ⟨B2, d2, g2, s2⟩ := h4 2 (by decide)
    obtain ⟨B3, d3, g3, s3⟩ := h4 3 (by decide)
    rw [g0, g1, g2, g3] at h2
    exact ⟨hb, 0, A', _, c', q, B0, B1, B2, B3, _, _, _, _, d0, d1, d2, d3, h2, h1.symm, fun _ h => h.2, fun _ => ⟨rfl, h3, s0, s1, s2, s3⟩⟩
/-- Behind After: its results in boxes. -/
def St8 (wr : World) (l : List Nd) (q : Bool) (e : Edt) (v8 v9 v10 : Value) (W : World) : Prop :=
  ∃ P8 P9 er A n c qq A0 A1 A2 A3 n0 n1 n2 n3 c0 c1 c2 c3 D, v8 = .pointer (some ⟨P8, 0, none⟩) ∧ v9 = .pointer (some ⟨P9, 0, none⟩) ∧ v10 = .int .i64 er ∧ Below wr.heap.size wr W ∧ Bx wr P8 (.cells #[.slice A n c, .bool qq] 24 (0, 0)) W ∧ Bx wr P9 (.cells #[.slice A0 n0 c0, .slice A1 n1 c1, .slice A2 n2 c2, .slice A3 n3 c3] 29 (0, 0)) W ∧ AfOk l q e er A n c qq A0 A1 A2 A3 n0 n1 n2 n3 c0 c1 c2 c3 D W ∧ ∀ b, D b → wr.heap.size ≤ b

section
variable {l : List Nd} {q : Bool} {e : Edt} {er : Int} {A A5 : Option Addr} {n c n5 c5 : Nat} {qq : Bool} {A0 A1 A2 A3 B0 B1 B2 B3 : Option Addr} {n0 n1 n2 n3 c0 c1 c2 c3 m0 m1 m2 m3 d0 d1 d2 d3 : Nat} {w wr W W' : World} {X P8 P9 : Nat}
theorem bx_ne {a b a0 a1 a2 a3 : Value} {t t' : TypeId} (h8 : Bx wr P8 (.cells #[a, b] t (0, 0)) W) (h9 : Bx wr P9 (.cells #[a0, a1, a2, a3] t' (0, 0)) W) : P9 ≠ P8 := by
  rintro rfl
  have h := h8.blk.symm.trans h9.blk
  injection h with h
  injection h with h
  have := congrArg Array.size h
  simp at this
theorem st_end {a b a0 a1 a2 a3 : Value} {D : Nat → Prop} (hB : Below wr.heap.size wr W) (h8 : Bx wr P8 (.cells #[a, b] 24 (0, 0)) W) (h9 : Bx wr P9 (.cells #[a0, a1, a2, a3] 29 (0, 0)) W) (hR : AfOk l q e er A n c qq A0 A1 A2 A3 n0 n1 n2 n3 c0 c1 c2 c3 D W) (h18 : ¬ D P8) (h19 : ¬ D P9) (hlow : ∀ b, D b → wr.heap.size ≤ b) :
    St8 wr l q e (.pointer (some ⟨P8, 0, none⟩)) (.pointer (some ⟨P9, 0, none⟩)) (.int .i64 er) ((((((W.setCell ⟨P8, 0, none⟩ (.slice A n c)).setCell ⟨P8, 1, none⟩ (.bool qq)).setCell ⟨P9, 0, none⟩ (.slice A0 n0 c0)).setCell ⟨P9, 1, none⟩ (.slice A1 n1 c1)).setCell ⟨P9, 2, none⟩ (.slice A2 n2 c2)).setCell ⟨P9, 3, none⟩ (.slice A3 n3 c3)) := by
  have hF := fin_di (w := W) (vd := .slice A n c) (vb := .bool qq) (v0 := .slice A0 n0 c0) (v1 := .slice A1 n1 c1) (v2 := .slice A2 n2 c2) (v3 := .slice A3 n3 c3) h8.blk h9.blk (bx_ne h8 h9)
  have l8 := h8.low
  have l9 := h9.low
  have hfar : ∀ b, (b = P8 ∨ b = P9) → wr.heap.size ≤ b := fun b hb => by omega
  have hk : ∀ p : Addr, D p.block → _ = W.cell? p := fun p hp => World.cell?_of_block (hF.tou.block p.block (hR.lim _ hp) fun h => h.elim (fun h => h18 (h ▸ hp)) fun h => h19 (h ▸ hp))
  exact ⟨P8, P9, er, A, n, c, qq, A0, A1, A2, A3, n0, n1, n2, n3, c0, c1, c2, c3, D, rfl, rfl, rfl, hB.trans (hF.tou.below hfar hB.size), ⟨l8, hF.doc⟩, ⟨l9, hF.ix⟩, ⟨hR.err, fun b hb => Nat.lt_of_lt_of_le (hR.lim b hb) hF.tou.size, fun h0 => ⟨(hR.ok h0).1, (hR.ok h0).2.1.keep hk, (hR.ok h0).2.2.keep hk⟩⟩, hlow⟩
/-- What is kept, set anew. -/
theorem ki_set {D : Nat → Prop} (hD : KI w X q l A n c A0 A1 A2 A3 n0 n1 n2 n3 c0 c1 c2 c3 wr) (hF : FinW wr.drew W w.heap.size X (.slice A5 n5 c5) (.bool q) (.slice B0 m0 d0) (.slice B1 m1 d1) (.slice B2 m2 d2) (.slice B3 m3 d3)) (hlim : ∀ b, D b → b < wr.heap.size) (h1 : ¬ D w.heap.size) (h2 : ¬ D X)
    (hdoc : Sl tNd wr D A5 n5 c5 (edDo l e)) (h4 : At4 wr D (anD (edDo l e)) B0 B1 B2 B3 m0 m1 m2 m3 d0 d1 d2 d3) (he : edErr l e = 0) : KI w X q (edDo l e) A5 n5 c5 B0 B1 B2 B3 m0 m1 m2 m3 d0 d1 d2 d3 W := by
  have hk : ∀ p : Addr, D p.block → W.cell? p = wr.drew.cell? p := fun p hp => World.cell?_of_block (hF.tou.block p.block (hlim _ hp) fun h => h.elim (fun h => h1 (h ▸ hp)) fun h => h2 (h ▸ hp))
  have hl : ∀ b, D b → b < W.heap.size := fun b hb => Nat.lt_of_lt_of_le (hlim b hb) hF.tou.size
  have hfar := hD.far
  exact ⟨hD.below.drew.trans (hF.tou.below (B := w.heap.size) (fun b hb => by omega) hD.below.size), hF.doc, hF.ix, (hdoc.keep hk).more hl, (h4.keep hk).more hl, good_ed hD.good he, hD.far⟩
/-- Of, at a document that may be. -/
theorem of_ix (A : Option Addr) (n c : Nat) (l : List Nd) (q : Bool) (w : World) (hc : checkD l = 0) (hl : Sl tNd w (lt w.heap.size) A n c l) :
    Calls Tryz.prog 5 #[.agg #[.slice A n c, .bool q]] w fun e w' => Below w.heap.size w w' ∧ ∃ B0 B1 B2 B3 m0 m1 m2 m3 d0 d1 d2 d3, e = .returned (.tuple #[.agg #[.slice B0 m0 d0, .slice B1 m1 d1, .slice B2 m2 d2, .slice B3 m3 d3], .int .i64 0]) ∧ At4 w' (lt w'.heap.size) (anD l) B0 B1 B2 B3 m0 m1 m2 m3 d0 d1 d2 d3 := by
  refine (indexOf_any A n c l q w w.heap.size hl (Nat.le_refl _)).mono fun e w' h => ?_
  obtain ⟨hb, h⟩ := h
  obtain ⟨_, base, K, M, rk, V, P, _, hkp, h2⟩ := h.resolve_left fun h => h.1 hc
  obtain ⟨B0, d0, g0, s0⟩ := hkp.ix 0 (by decide)
  obtain ⟨B1, d1, g1, s1⟩ := hkp.ix 1 (by decide)
  obtain ⟨B2, d2, g2, s2⟩ := hkp.ix 2 (by decide)
  obtain ⟨B3, d3, g3, s3⟩ := hkp.ix 3 (by decide)
  rw [g0, g1, g2, g3] at h2
  exact ⟨hb, B0, B1, B2, B3, _, _, _, _, d0, d1, d2, d3, h2, Sl.ltr s0, Sl.ltr s1, Sl.ltr s2, Sl.ltr s3⟩
end

set_option maxRecDepth 100000 in
set_option maxHeartbeats 8000000 in
theorem indexKept_walk (A : Option Addr) (n c : Nat) (l : List Nd) (q : Bool) (E2 : Option Addr) (m d2 : Nat) (es : List Edt) (w : World) (B : Nat) (hl : Sl tNd w (lt B) A n c l) (hes : Sl tEdt w (lt B) E2 m d2 es) (hB : B ≤ w.heap.size) :
    Calls Tryz.prog 3 #[.agg #[.slice A n c, .bool q], .slice E2 m d2] w fun e w' => e = .returned (.bool true) ∧ Below w.heap.size w w' := by
  obtain ⟨w0, hw0⟩ : ∃ w0, w0 = w.alloc (.cells #[.slice A n c, .bool q] 24) := ⟨_, rfl⟩
  have hbx : w0.heap[w.heap.size]? = some (.cells #[.slice A n c, .bool q] 24 (0, 0)) := by rw [hw0]; exact heap_alloc_new w _
  have b0 : w0.cell? ⟨w.heap.size, 0, none⟩ = some (.slice A n c) := cell_blk hbx rfl
  have b1 : w0.cell? ⟨w.heap.size, 1, none⟩ = some (.bool q) := cell_blk hbx rfl
  have hb0 : Below w.heap.size w w0 := by rw [hw0]; exact (Below.refl _ _).alloc (Nat.le_refl _) _
  have hz0 : w0.heap.size = w.heap.size + 1 := by rw [hw0]; exact World.size_alloc w _
  have HB0 := Lib.hid hb0
  have HL := Lib.hid hl
  have HES := Lib.hid hes
  have HBW : Hid (B ≤ w.heap.size) := hB
  obtain ⟨k, hk, hkc, hkn, hk50⟩ : ∃ k : Nat, min (n : Int) 50 = (k : Int) ∧ k ≤ c ∧ k ≤ n ∧ k ≤ 50 := ⟨min n 50, by omega, by have := hl.hc; omega, by omega, by omega⟩
  obtain ⟨k2, hk2, hk2n, hk220⟩ : ∃ k2 : Nat, min (m : Int) 20 = (k2 : Int) ∧ k2 ≤ m ∧ k2 ≤ 20 := ⟨min m 20, by omega, by omega, by omega⟩
  have hmc := hes.hc
  have hm63 := hes.small
  have hk2c : k2 ≤ d2 := by omega
  have HF := Lib.hid (few_any A n c k q 50 w0.drew hk hkc)
  have HM0 : Hid (E2 = none → d2 = 0) := hes.nil_
  have HZ0 := Lib.hid hz0
  have HK50 : Hid (k ≤ 50) := hk50
  clear hb0 hl hes hB hk hz0 hk50
  go_enter Tryz.func3, Tryz.ntmps3
  go_upto_region 1 with fail
  rw [← hw0]
  clear hw0
  refine wp_region_G (S := fun w' : World => w'.cell? ⟨w.heap.size, 0, none⟩ = some (.slice A n c) ∧ w'.cell? ⟨w.heap.size, 1, none⟩ = some (.bool q)) (T := [7, 8]) (by kernel_rfl) ?_
  have hS : (fun w' : World => w'.cell? ⟨w.heap.size, 0, none⟩ = some (.slice A n c) ∧ w'.cell? ⟨w.heap.size, 1, none⟩ = some (.bool q)) w0.drew := ⟨b0, b1⟩
  refine wpAnyG_take (i := 0) (v := ?_) rfl (by kernel_rfl) (by kernel_rfl) (by kernel_rfl) (by kernel_rfl) (fun _ _ _ h => h) hS rfl ?_ ?_
  rotate_left
  · intro w' hSw
    (try dsimp only at hSw)
    first | (go_simp; done) | (go_simp; with_reducible rfl)
  refine wpAnyG_pure (i := 2) (v := ?_) rfl (by kernel_rfl) (by kernel_rfl) (by kernel_rfl) (fun _ _ _ h => h) rfl ?_ ?_
  rotate_left
  · intro w'
    first | (go_simp; done) | (go_simp; with_reducible rfl)
  refine wpAnyG_pure (i := 3) (v := ?_) rfl (by kernel_rfl) (by kernel_rfl) (by kernel_rfl) (fun _ _ _ h => h) rfl ?_ ?_
  rotate_left
  · intro w'
    first | (go_simp; done) | (go_simp; with_reducible rfl)
  refine wpAnyG_pure (i := 4) (v := ?_) rfl (by kernel_rfl) (by kernel_rfl) (by kernel_rfl) (fun _ _ _ h => h) rfl ?_ ?_
  rotate_left
  · intro w'
    first | (go_simp; done) | (go_simp; with_reducible rfl)
  refine wpAnyG_pure (i := 5) (v := ?_) rfl (by kernel_rfl) (by kernel_rfl) (by kernel_rfl) (fun _ _ _ h => h) rfl ?_ ?_
  rotate_left
  · intro w'
    first | (go_simp; done) | (go_simp; with_reducible rfl)
  refine wpAnyG_pure (i := 6) (v := ?_) rfl (by kernel_rfl) (by kernel_rfl) (by kernel_rfl) (fun _ _ _ h => h) rfl ?_ ?_
  rotate_left
  · intro w'
    first | (go_simp; done) | (go_simp; with_reducible rfl)
  refine wpAnyG_one (i := 1) (by kernel_rfl) rfl rfl (fun K hK => ?_)
  go_simp
  go_at_call 4
  refine HF.out.mono ?_
  rintro e w1 ⟨rfl, hb1⟩
  have hb01 : Below w0.heap.size w0 w1 := ((Below.refl _ w0).drew).trans hb1
  have hbx1 : w1.heap[w.heap.size]? = some (.cells #[.slice A n c, .bool q] 24 (0, 0)) := (hb01.block _ (by have := HZ0.out; omega)).trans hbx
  have y0 := cell_blk (i := 0) hbx1 rfl
  have y1 := cell_blk (i := 1) hbx1 rfl
  have z0 := free_blk (i := 0) hbx1
  have z1 := free_blk (i := 1) hbx1
  go_wp2_with fail
  refine hK.out _ _ (fun _ _ => ⟨y0, y1⟩) ?_
  clear hK K hS
  refine wpAnyG_one (i := 7) (by kernel_rfl) rfl rfl (fun K hK => ?_)
  go_simp
  refine hK.out _ _ (fun h => absurd (by decide) h) ?_
  clear hK K
  obtain ⟨w2, hw2⟩ : ∃ w2, w2 = (w1.setCell ⟨w.heap.size, 0, none⟩ (.slice A k c)).setCell ⟨w.heap.size, 1, none⟩ (.bool q) := ⟨_, rfl⟩
  rw [← hw2]
  have hb2 : Below w.heap.size w w2 := by rw [hw2]; exact ((HB0.out.trans (hb01.mono HB0.out.size)).setCell (Nat.le_refl _) _).setCell (Nat.le_refl _) _
  have hbx2 : w2.heap[w.heap.size]? = some (.cells #[.slice A k c, .bool q] 24 (0, 0)) := by rw [hw2]; exact set_blk (set_blk hbx1 _) _
  have HL2 := Lib.hid (((HL.out.cut_to hkn).below hb2 HBW.out).up (Nat.le_trans HBW.out hb2.size))
  have HES2 := Lib.hid (HES.out.cut_to hk2n)
  have HB2 := Lib.hid hb2
  have HX2 := Lib.hid hbx2
  have HSZ2 : Hid (w.heap.size < w2.heap.size) := (Array.getElem?_eq_some_iff.1 hbx2).1
  have HKL : Hid (k = (l.take k).length) := HL2.out.hn
  have HBG := Lib.hid (fun u => indexBegun_any u)
  clear hw2 hb01 hbx1 y0 y1 z0 z1 hb1 hb2 hbx2 hbx b0 b1 HB0 HL HES HF HZ0 HM0 hk2 hk2n hm63 hmc hkn
  refine wpAnyG_one (i := 8) (by kernel_rfl) rfl rfl (fun K hK => ?_)
  go_simp
  refine hK.out _ _ (fun _ h => h) ?_
  clear hK K
  refine wpAnyG_done (by kernel_rfl) ?_ _
  generalize l.take k = l at *
  generalize es.take k2 = es at *
  have x0 := cell_blk (i := 0) HX2.out rfl
  have x1 := cell_blk (i := 1) HX2.out rfl
  have HOF := Lib.hid (indexOf_any A k c l q w2 w2.heap.size HL2.out (Nat.le_refl _))
  by_cases hck : checkD l = 0
  · have HCK := Lib.hid hck
    have HOF2 := Lib.hid (of_ix A k c l q w2 HCK.out HL2.out)
    clear hck HOF
    go_upto_region 3 with (go_at_call 5; refine HOF2.out.mono ?_; rintro e w3 ⟨hb3, A0, A1, A2, A3, n0, n1, n2, n3, c0, c1, c2, c3, rfl, h4⟩)
    obtain ⟨w4, hw4⟩ : ∃ w4, w4 = w3.alloc (.cells #[.slice A0 n0 c0, .slice A1 n1 c1, .slice A2 n2 c2, .slice A3 n3 c3] 29) := ⟨_, rfl⟩
    have hx4 : w4.heap[w3.heap.size]? = some (.cells #[.slice A0 n0 c0, .slice A1 n1 c1, .slice A2 n2 c2, .slice A3 n3 c3] 29 (0, 0)) := by rw [hw4]; exact heap_alloc_new w3 _
    have hb34 : Below w3.heap.size w3 w4 := by rw [hw4]; exact balloc (Below.refl _ _) _
    have hb24 : Below w2.heap.size w2 w4 := bstep hb3 hb34
    rw [← hw4]
    obtain ⟨X, hX⟩ : ∃ X, w3.heap.size = X := ⟨_, rfl⟩
    have hwX : w.heap.size < X := by have := HSZ2.out; have := hb3.size; omega
    have HKI : Hid (∃ A n c l A0 A1 A2 A3 n0 n1 n2 n3 c0 c1 c2 c3, l.length ≤ 50 + 0 ∧ KI w X q l A n c A0 A1 A2 A3 n0 n1 n2 n3 c0 c1 c2 c3 w4) := ⟨A, k, c, l, A0, A1, A2, A3, n0, n1, n2, n3, c0, c1, c2, c3, by have := HK50.out; have := HKL.out; omega, HB2.out.trans (hb24.mono HB2.out.size), (hb24.block _ HSZ2.out).trans HX2.out, by rw [← hX]; exact hx4, sl_nx HL2.out hb24, h4.next hb34, good_of HCK.out, hwX⟩
    have HEN := Lib.hid HES2.out.hn
    rw [hX]
    clear hw4 hx4 hb34 hb24 hX h4 hb3 x0 x1 HOF2 HCK HL2 HX2 HB2 HSZ2 HKL HK50
    clear hwX
    go_upto_region 6 with fail
    go_loopw [7] (fun s wr => ∃ j : Nat, j ≤ k2 ∧ s = .int .i64 (j : Int) ∧ Hid (∃ A n c l A0 A1 A2 A3 n0 n1 n2 n3 c0 c1 c2 c3, l.length ≤ 50 + j ∧ KI w X q l A n c A0 A1 A2 A3 n0 n1 n2 n3 c0 c1 c2 c3 wr)) (fun s _ => k2 - (intOf s).toNat)
    case atStart => exact ⟨0, Nat.zero_le _, rfl, HKI⟩
    case round =>
      obtain ⟨j, hj, rfl, HR⟩ := hrel
      obtain ⟨A, n, c, l, A0, A1, A2, A3, n0, n1, n2, n3, c0, c1, c2, c3, hlen, hki⟩ := HR.out
      have HLEN : Hid (l.length ≤ 50 + j) := hlen
      have HH := Lib.hid hki
      have x0 := cell_blk (i := 0) hki.box rfl
      have x1 := cell_blk (i := 1) hki.box rfl
      have y0 := cell_blk (i := 0) hki.ix rfl
      have y1 := cell_blk (i := 1) hki.ix rfl
      have y2 := cell_blk (i := 2) hki.ix rfl
      have y3 := cell_blk (i := 3) hki.ix rfl
      by_cases hlt : j < k2
      · obtain ⟨e, he⟩ : ∃ e, es[j]? = some e := get_some (by have := HEN.out; omega)
        obtain ⟨b, o, Aa, na, ca, Ak, nk, ck, rfl, hbb, hok, hc⟩ := edt_get (HES2.out.below hki.below HBW.out) he
        have f0 : wr.cell? ⟨b, o + j * 12, none⟩ = some (.int .i64 e.do_) := hc 0 _ rfl
        have f1 : wr.cell? ⟨b, o + j * 12 + 1, none⟩ = some (.int .i64 e.at_) := by rw [Nat.add_assoc]; exact hc 1 _ rfl
        have f2 : wr.cell? ⟨b, o + j * 12 + 2, none⟩ = some (.int .i64 e.to_) := by rw [Nat.add_assoc]; exact hc 2 _ rfl
        have f3 : wr.cell? ⟨b, o + j * 12 + 3, none⟩ = some (.int .i64 e.before) := by rw [Nat.add_assoc]; exact hc 3 _ rfl
        have f4 : wr.cell? ⟨b, o + j * 12 + 4, none⟩ = some (.string e.name) := by rw [Nat.add_assoc]; exact hc 4 _ rfl
        have f5 : wr.cell? ⟨b, o + j * 12 + 5, none⟩ = some (.string e.value) := by rw [Nat.add_assoc]; exact hc 5 _ rfl
        have f6 : wr.cell? ⟨b, o + j * 12 + 6, none⟩ = some (.int .i64 e.node.kind) := by rw [Nat.add_assoc]; exact hc 6 _ rfl
        have f7 : wr.cell? ⟨b, o + j * 12 + 7, none⟩ = some (.string e.node.name) := by rw [Nat.add_assoc]; exact hc 7 _ rfl
        have f8 : wr.cell? ⟨b, o + j * 12 + 8, none⟩ = some (.slice Aa na ca) := by rw [Nat.add_assoc]; exact hc 8 _ rfl
        have f9 : wr.cell? ⟨b, o + j * 12 + 9, none⟩ = some (.string e.node.text) := by rw [Nat.add_assoc]; exact hc 9 _ rfl
        have f10 : wr.cell? ⟨b, o + j * 12 + 10, none⟩ = some (.int .i64 e.node.parent) := by rw [Nat.add_assoc]; exact hc 10 _ rfl
        have f11 : wr.cell? ⟨b, o + j * 12 + 11, none⟩ = some (.slice Ak nk ck) := by rw [Nat.add_assoc]; exact hc 11 _ rfl
        have i1 : (0 : Int) ≤ (j : Int) := by omega
        have i2 : (j : Int) < (k2 : Int) := by omega
        have hBr : B ≤ wr.heap.size := Nat.le_trans HBW.out hki.below.size
        have HAP := Lib.hid (fun W (hb : Below wr.heap.size wr W) => (afterI_any A n c l q e Aa na ca Ak nk ck A0 A1 A2 A3 n0 n1 n2 n3 c0 c1 c2 c3 W wr.heap.size (hki.doc.below hb (Nat.le_refl _)) (hki.lists.l0.below hb (Nat.le_refl _)) (hki.lists.l1.below hb (Nat.le_refl _)) (hki.lists.l2.below hb (Nat.le_refl _)) (hki.lists.l3.below hb (Nat.le_refl _)) hb.size ⟨(hok.node.below hb hBr).up hBr, hok.at_, hok.to_, hok.before, hok.name, hok.value⟩ hki.good (by omega)).mono fun _ _ h => h.uni)
        unfold edtCells at HAP
        clear hki hok hc HR he hBr hbb hlen
        go_upto_region 8 with fail
        go_cut [8, 9, 10] (fun v8 v9 v10 wx => St8 wr l q e v8 v9 v10 wx)
        case first =>
          refine wp_region_G (S := Below wr.heap.size wr) (T := [13, 14, 15]) (by kernel_rfl) ?_
          have hS : Below wr.heap.size wr wr.drew := (Below.refl _ wr).drew
          refine wpAnyG_take (i := 0) (v := ?_) rfl (by kernel_rfl) (by kernel_rfl) (by kernel_rfl) (by kernel_rfl) (fun _ _ _ h => h) hS rfl ?_ ?_
          rotate_left
          · intro w' hSw
            have gx0 := cell_be x0 hSw
            have gx1 := cell_be x1 hSw
            first | (go_simp; done) | (go_simp; with_reducible rfl)
          refine wpAnyG_take (i := 1) (v := ?_) rfl (by kernel_rfl) (by kernel_rfl) (by kernel_rfl) (by kernel_rfl) (fun _ _ _ h => h) hS rfl ?_ ?_
          rotate_left
          · intro w' hSw
            have gy0 := cell_be y0 hSw
            have gy1 := cell_be y1 hSw
            have gy2 := cell_be y2 hSw
            have gy3 := cell_be y3 hSw
            first | (go_simp; done) | (go_simp; with_reducible rfl)
          refine wpAnyG_pure (i := 2) (v := ?_) rfl (by kernel_rfl) (by kernel_rfl) (by kernel_rfl) (fun _ _ _ h => h) rfl ?_ ?_
          rotate_left
          · intro w'
            first | (go_simp; done) | (go_simp; with_reducible rfl)
          refine wpAnyG_pure (i := 3) (v := ?_) rfl (by kernel_rfl) (by kernel_rfl) (by kernel_rfl) (fun _ _ _ h => h) rfl ?_ ?_
          rotate_left
          · intro w'
            first | (go_simp; done) | (go_simp; with_reducible rfl)
          refine wpAnyG_pure (i := 4) (v := ?_) rfl (by kernel_rfl) (by kernel_rfl) (by kernel_rfl) (fun _ _ _ h => h) rfl ?_ ?_
          rotate_left
          · intro w'
            first | (go_simp; done) | (go_simp; with_reducible rfl)
          refine wpAnyG_take (i := 5) (v := ?_) rfl (by kernel_rfl) (by kernel_rfl) (by kernel_rfl) (by kernel_rfl) (fun _ _ _ h => h) hS rfl ?_ ?_
          rotate_left
          · intro w' hSw
            have gf0 := cell_be f0 hSw
            have gf1 := cell_be f1 hSw
            have gf2 := cell_be f2 hSw
            have gf3 := cell_be f3 hSw
            have gf4 := cell_be f4 hSw
            have gf5 := cell_be f5 hSw
            have gf6 := cell_be f6 hSw
            have gf7 := cell_be f7 hSw
            have gf8 := cell_be f8 hSw
            have gf9 := cell_be f9 hSw
            have gf10 := cell_be f10 hSw
            have gf11 := cell_be f11 hSw
            first | (go_simp; done) | (go_simp; with_reducible rfl)
          clear x0 x1 y0 y1 y2 y3 f0 f1 f2 f3 f4 f5 f6 f7 f8 f9 f10 f11
          refine wpAnyG_world (Below wr.heap.size wr) hS ?_
          clear hS
          intro W0 hB0
          refine wpAnyG_three (i := 6) (j := 11) (m := 12) (by kernel_rfl) rfl rfl rfl rfl rfl rfl (fun K hK => ?_) (fun K hK => ?_) (fun K hK => ?_)
          · go_simp
            go_at_call 7
            refine (HAP.out W0 hB0).mono ?_
            rintro e' W1 ⟨hb, er, A5, n5, c5, qq, A0, A1, A2, A3, n0, n1, n2, n3, c0, c1, c2, c3, rfl, hR1⟩
            have hB1 := hB0.trans (hb.mono hB0.size)
            have hLW : ∀ b, (rg W0.heap.size W1.heap.size) b → wr.heap.size ≤ b := fun _ h => Nat.le_trans hB0.size h.1
            clear hb HAP hB0
            go_wp2_with fail
            refine hK.out _ _ (fun _ _ => hB1) ?_
            clear hK K
            refine wpAnyG_pure (i := 7) (v := ?_) rfl (by kernel_rfl) (by kernel_rfl) (by kernel_rfl) (fun _ _ _ h => h) rfl ?_ ?_
            rotate_left
            · intro w'
              first | (go_simp; done) | (go_simp; with_reducible rfl)
            refine wpAnyG_pure (i := 8) (v := ?_) rfl (by kernel_rfl) (by kernel_rfl) (by kernel_rfl) (fun _ _ _ h => h) rfl ?_ ?_
            rotate_left
            · intro w'
              first | (go_simp; done) | (go_simp; with_reducible rfl)
            refine wpAnyG_pure (i := 9) (v := ?_) rfl (by kernel_rfl) (by kernel_rfl) (by kernel_rfl) (fun _ _ _ h => h) rfl ?_ ?_
            rotate_left
            · intro w'
              first | (go_simp; done) | (go_simp; with_reducible rfl)
            refine wpAnyG_pure (i := 10) (v := ?_) rfl (by kernel_rfl) (by kernel_rfl) (by kernel_rfl) (fun _ _ _ h => h) rfl ?_ ?_
            rotate_left
            · intro w'
              first | (go_simp; done) | (go_simp; with_reducible rfl)
            refine wpAnyG_two (i := 11) (j := 12) (by kernel_rfl) rfl rfl rfl rfl (fun K hK => ?_) (fun K hK => ?_)
            · go_simp
              refine hK.out _ _ (fun _ h => Below.alloc h (Below.size h) _) ?_
              clear hK K
              have hal : Below W1.heap.size W1 (W1.alloc (.cells #[.slice none 0 0, .bool false] 24)) := balloc (Below.refl _ _) _
              have hbx8 : Bx wr W1.heap.size (.cells #[.slice none 0 0, .bool false] 24 (0, 0)) (W1.alloc (.cells #[.slice none 0 0, .bool false] 24)) := Bx.new hB1
              obtain ⟨P8, hP8⟩ : ∃ P8, W1.heap.size = P8 := ⟨_, rfl⟩
              rw [hP8] at hbx8
              rw [hP8]
              have hN8 : ¬ (rg W0.heap.size W1.heap.size) P8 := fun h => absurd (hR1.lim _ h) (by omega)
              have hJ : (fun W => Below wr.heap.size wr W ∧ Bx wr P8 (.cells #[.slice none 0 0, .bool false] 24 (0, 0)) W ∧ AfOk l q e er A5 n5 c5 qq A0 A1 A2 A3 n0 n1 n2 n3 c0 c1 c2 c3 (rg W0.heap.size W1.heap.size) W) (W1.alloc (.cells #[.slice none 0 0, .bool false] 24)) := ⟨hB1.trans (hal.mono hB1.size), hbx8, hR1.next hal⟩
              refine wpAnyG_world (fun W => Below wr.heap.size wr W ∧ Bx wr P8 (.cells #[.slice none 0 0, .bool false] 24 (0, 0)) W ∧ AfOk l q e er A5 n5 c5 qq A0 A1 A2 A3 n0 n1 n2 n3 c0 c1 c2 c3 (rg W0.heap.size W1.heap.size) W) hJ ?_
              clear hJ hal hbx8 hP8 hB1 hR1
              rintro W2 ⟨hB2, h82, hR2⟩
              refine wpAnyG_one (i := 12) (by kernel_rfl) rfl rfl (fun K hK => ?_)
              go_simp
              refine hK.out _ _ (fun _ h => Below.alloc h (Below.size h) _) ?_
              clear hK K
              have hal : Below W2.heap.size W2 (W2.alloc (.cells #[.slice none 0 0, .slice none 0 0, .slice none 0 0, .slice none 0 0] 29)) := balloc (Below.refl _ _) _
              have hbx9 : Bx wr W2.heap.size (.cells #[.slice none 0 0, .slice none 0 0, .slice none 0 0, .slice none 0 0] 29 (0, 0)) (W2.alloc (.cells #[.slice none 0 0, .slice none 0 0, .slice none 0 0, .slice none 0 0] 29)) := Bx.new hB2
              obtain ⟨P9, hP9⟩ : ∃ P9, W2.heap.size = P9 := ⟨_, rfl⟩
              rw [hP9] at hbx9
              rw [hP9]
              have hN9 : ¬ (rg W0.heap.size W1.heap.size) P9 := fun h => absurd (hR2.lim _ h) (by omega)
              have hJ : (fun W => Below wr.heap.size wr W ∧ Bx wr P8 (.cells #[.slice none 0 0, .bool false] 24 (0, 0)) W ∧ Bx wr P9 (.cells #[.slice none 0 0, .slice none 0 0, .slice none 0 0, .slice none 0 0] 29 (0, 0)) W ∧ AfOk l q e er A5 n5 c5 qq A0 A1 A2 A3 n0 n1 n2 n3 c0 c1 c2 c3 (rg W0.heap.size W1.heap.size) W) (W2.alloc (.cells #[.slice none 0 0, .slice none 0 0, .slice none 0 0, .slice none 0 0] 29)) := ⟨hB2.trans (hal.mono hB2.size), h82.next hal, hbx9, hR2.next hal⟩
              refine wpAnyG_world (fun W => Below wr.heap.size wr W ∧ Bx wr P8 (.cells #[.slice none 0 0, .bool false] 24 (0, 0)) W ∧ Bx wr P9 (.cells #[.slice none 0 0, .slice none 0 0, .slice none 0 0, .slice none 0 0] 29 (0, 0)) W ∧ AfOk l q e er A5 n5 c5 qq A0 A1 A2 A3 n0 n1 n2 n3 c0 c1 c2 c3 (rg W0.heap.size W1.heap.size) W) hJ ?_
              clear hJ hal hbx9 hP9 hB2 hR2 h82
              rintro W3 ⟨hB3, h83, h93, hR3⟩
              have HE := Lib.hid (st_end hB3 h83 h93 hR3 hN8 hN9 hLW)
              have z80 := cell_blk (i := 0) h83.blk rfl
              have u80 := free_blk (i := 0) h83.blk
              have z81 := cell_blk (i := 1) h83.blk rfl
              have u81 := free_blk (i := 1) h83.blk
              have z90 := cell_blk (i := 0) h93.blk rfl
              have u90 := free_blk (i := 0) h93.blk
              have z91 := cell_blk (i := 1) h93.blk rfl
              have u91 := free_blk (i := 1) h93.blk
              have z92 := cell_blk (i := 2) h93.blk rfl
              have u92 := free_blk (i := 2) h93.blk
              have z93 := cell_blk (i := 3) h93.blk rfl
              have u93 := free_blk (i := 3) h93.blk
              have hne : P9 ≠ P8 := bx_ne h83 h93
              have hne2 : P8 ≠ P9 := fun h => hne h.symm
              clear hN8 hN9 hLW hB3 hR3 h83 h93
              refine wpAnyG_one (i := 13) (by kernel_rfl) rfl rfl (fun K hK => ?_)
              go_simp
              refine hK.out _ _ (fun h => absurd (by decide) h) ?_
              clear hK K
              refine wpAnyG_one (i := 14) (by kernel_rfl) rfl rfl (fun K hK => ?_)
              go_simp
              refine hK.out _ _ (fun h => absurd (by decide) h) ?_
              clear hK K
              refine wpAnyG_one (i := 15) (by kernel_rfl) rfl rfl (fun K hK => ?_)
              go_simp
              refine hK.out _ _ (fun _ h => h) ?_
              clear hK K
              refine wpAnyG_done (by kernel_rfl) ?_ _
              obtain ⟨W, hW⟩ : ∃ W, (((((W3.setCell ⟨P8, 0, none⟩ (.slice A5 n5 c5)).setCell ⟨P8, 1, none⟩ (.bool qq)).setCell ⟨P9, 0, none⟩ (.slice A0 n0 c0)).setCell ⟨P9, 1, none⟩ (.slice A1 n1 c1)).setCell ⟨P9, 2, none⟩ (.slice A2 n2 c2)).setCell ⟨P9, 3, none⟩ (.slice A3 n3 c3) = W := ⟨_, rfl⟩
              rw [hW] at HE ⊢
              clear hW z80 z81 u80 u81 z90 z91 z92 z93 u90 u91 u92 u93 hne hne2
              go_wp2_with fail
              go_meet
              case rel => exact HE.out
            · go_simp
              refine hK.out _ _ (fun _ h => Below.alloc h (Below.size h) _) ?_
              clear hK K
              have hal : Below W1.heap.size W1 (W1.alloc (.cells #[.slice none 0 0, .slice none 0 0, .slice none 0 0, .slice none 0 0] 29)) := balloc (Below.refl _ _) _
              have hbx9 : Bx wr W1.heap.size (.cells #[.slice none 0 0, .slice none 0 0, .slice none 0 0, .slice none 0 0] 29 (0, 0)) (W1.alloc (.cells #[.slice none 0 0, .slice none 0 0, .slice none 0 0, .slice none 0 0] 29)) := Bx.new hB1
              obtain ⟨P9, hP9⟩ : ∃ P9, W1.heap.size = P9 := ⟨_, rfl⟩
              rw [hP9] at hbx9
              rw [hP9]
              have hN9 : ¬ (rg W0.heap.size W1.heap.size) P9 := fun h => absurd (hR1.lim _ h) (by omega)
              have hJ : (fun W => Below wr.heap.size wr W ∧ Bx wr P9 (.cells #[.slice none 0 0, .slice none 0 0, .slice none 0 0, .slice none 0 0] 29 (0, 0)) W ∧ AfOk l q e er A5 n5 c5 qq A0 A1 A2 A3 n0 n1 n2 n3 c0 c1 c2 c3 (rg W0.heap.size W1.heap.size) W) (W1.alloc (.cells #[.slice none 0 0, .slice none 0 0, .slice none 0 0, .slice none 0 0] 29)) := ⟨hB1.trans (hal.mono hB1.size), hbx9, hR1.next hal⟩
              refine wpAnyG_world (fun W => Below wr.heap.size wr W ∧ Bx wr P9 (.cells #[.slice none 0 0, .slice none 0 0, .slice none 0 0, .slice none 0 0] 29 (0, 0)) W ∧ AfOk l q e er A5 n5 c5 qq A0 A1 A2 A3 n0 n1 n2 n3 c0 c1 c2 c3 (rg W0.heap.size W1.heap.size) W) hJ ?_
              clear hJ hal hbx9 hP9 hB1 hR1
              rintro W2 ⟨hB2, h92, hR2⟩
              refine wpAnyG_one (i := 11) (by kernel_rfl) rfl rfl (fun K hK => ?_)
              go_simp
              refine hK.out _ _ (fun _ h => Below.alloc h (Below.size h) _) ?_
              clear hK K
              have hal : Below W2.heap.size W2 (W2.alloc (.cells #[.slice none 0 0, .bool false] 24)) := balloc (Below.refl _ _) _
              have hbx8 : Bx wr W2.heap.size (.cells #[.slice none 0 0, .bool false] 24 (0, 0)) (W2.alloc (.cells #[.slice none 0 0, .bool false] 24)) := Bx.new hB2
              obtain ⟨P8, hP8⟩ : ∃ P8, W2.heap.size = P8 := ⟨_, rfl⟩
              rw [hP8] at hbx8
              rw [hP8]
              have hN8 : ¬ (rg W0.heap.size W1.heap.size) P8 := fun h => absurd (hR2.lim _ h) (by omega)
              have hJ : (fun W => Below wr.heap.size wr W ∧ Bx wr P9 (.cells #[.slice none 0 0, .slice none 0 0, .slice none 0 0, .slice none 0 0] 29 (0, 0)) W ∧ Bx wr P8 (.cells #[.slice none 0 0, .bool false] 24 (0, 0)) W ∧ AfOk l q e er A5 n5 c5 qq A0 A1 A2 A3 n0 n1 n2 n3 c0 c1 c2 c3 (rg W0.heap.size W1.heap.size) W) (W2.alloc (.cells #[.slice none 0 0, .bool false] 24)) := ⟨hB2.trans (hal.mono hB2.size), h92.next hal, hbx8, hR2.next hal⟩
              refine wpAnyG_world (fun W => Below wr.heap.size wr W ∧ Bx wr P9 (.cells #[.slice none 0 0, .slice none 0 0, .slice none 0 0, .slice none 0 0] 29 (0, 0)) W ∧ Bx wr P8 (.cells #[.slice none 0 0, .bool false] 24 (0, 0)) W ∧ AfOk l q e er A5 n5 c5 qq A0 A1 A2 A3 n0 n1 n2 n3 c0 c1 c2 c3 (rg W0.heap.size W1.heap.size) W) hJ ?_
              clear hJ hal hbx8 hP8 hB2 hR2 h92
              rintro W3 ⟨hB3, h93, h83, hR3⟩
              have HE := Lib.hid (st_end hB3 h83 h93 hR3 hN8 hN9 hLW)
              have z80 := cell_blk (i := 0) h83.blk rfl
              have u80 := free_blk (i := 0) h83.blk
              have z81 := cell_blk (i := 1) h83.blk rfl
              have u81 := free_blk (i := 1) h83.blk
              have z90 := cell_blk (i := 0) h93.blk rfl
              have u90 := free_blk (i := 0) h93.blk
              have z91 := cell_blk (i := 1) h93.blk rfl
              have u91 := free_blk (i := 1) h93.blk
              have z92 := cell_blk (i := 2) h93.blk rfl
              have u92 := free_blk (i := 2) h93.blk
              have z93 := cell_blk (i := 3) h93.blk rfl
              have u93 := free_blk (i := 3) h93.blk
              have hne : P9 ≠ P8 := bx_ne h83 h93
              have hne2 : P8 ≠ P9 := fun h => hne h.symm
              clear hN8 hN9 hLW hB3 hR3 h93 h83
              refine wpAnyG_one (i := 13) (by kernel_rfl) rfl rfl (fun K hK => ?_)
              go_simp
              refine hK.out _ _ (fun h => absurd (by decide) h) ?_
              clear hK K
              refine wpAnyG_one (i := 14) (by kernel_rfl) rfl rfl (fun K hK => ?_)
              go_simp
              refine hK.out _ _ (fun h => absurd (by decide) h) ?_
              clear hK K
              refine wpAnyG_one (i := 15) (by kernel_rfl) rfl rfl (fun K hK => ?_)
              go_simp
              refine hK.out _ _ (fun _ h => h) ?_
              clear hK K
              refine wpAnyG_done (by kernel_rfl) ?_ _
              obtain ⟨W, hW⟩ : ∃ W, (((((W3.setCell ⟨P8, 0, none⟩ (.slice A5 n5 c5)).setCell ⟨P8, 1, none⟩ (.bool qq)).setCell ⟨P9, 0, none⟩ (.slice A0 n0 c0)).setCell ⟨P9, 1, none⟩ (.slice A1 n1 c1)).setCell ⟨P9, 2, none⟩ (.slice A2 n2 c2)).setCell ⟨P9, 3, none⟩ (.slice A3 n3 c3) = W := ⟨_, rfl⟩
              rw [hW] at HE ⊢
              clear hW z80 z81 u80 u81 z90 z91 z92 z93 u90 u91 u92 u93 hne hne2
              go_wp2_with fail
              go_meet
              case rel => exact HE.out
          · go_simp
            refine hK.out _ _ (fun _ h => Below.alloc h (Below.size h) _) ?_
            clear hK K
            have hal : Below W0.heap.size W0 (W0.alloc (.cells #[.slice none 0 0, .bool false] 24)) := balloc (Below.refl _ _) _
            have hbx8 : Bx wr W0.heap.size (.cells #[.slice none 0 0, .bool false] 24 (0, 0)) (W0.alloc (.cells #[.slice none 0 0, .bool false] 24)) := Bx.new hB0
            obtain ⟨P8, hP8⟩ : ∃ P8, W0.heap.size = P8 := ⟨_, rfl⟩
            rw [hP8] at hbx8
            rw [hP8]
            have hJ : (fun W => Below wr.heap.size wr W ∧ Bx wr P8 (.cells #[.slice none 0 0, .bool false] 24 (0, 0)) W) (W0.alloc (.cells #[.slice none 0 0, .bool false] 24)) := ⟨hB0.trans (hal.mono hB0.size), hbx8⟩
            refine wpAnyG_world (fun W => Below wr.heap.size wr W ∧ Bx wr P8 (.cells #[.slice none 0 0, .bool false] 24 (0, 0)) W) hJ ?_
            clear hJ hal hbx8 hP8 hB0
            rintro W1 ⟨hB1, h81⟩
            refine wpAnyG_two (i := 6) (j := 12) (by kernel_rfl) rfl rfl rfl rfl (fun K hK => ?_) (fun K hK => ?_)
            · go_simp
              go_at_call 7
              refine (HAP.out W1 hB1).mono ?_
              rintro e' W2 ⟨hb, er, A5, n5, c5, qq, A0, A1, A2, A3, n0, n1, n2, n3, c0, c1, c2, c3, rfl, hR2⟩
              have hB2 := hB1.trans (hb.mono hB1.size)
              have hLW : ∀ b, (rg W1.heap.size W2.heap.size) b → wr.heap.size ≤ b := fun _ h => Nat.le_trans hB1.size h.1
              have hN8 : ¬ (rg W1.heap.size W2.heap.size) P8 := fun h => absurd h.1 (Nat.not_le.2 (Array.getElem?_eq_some_iff.1 h81.blk).1)
              have h82 := h81.next hb
              clear hb HAP hB1 h81
              go_wp2_with fail
              refine hK.out _ _ (fun _ _ => hB2) ?_
              clear hK K
              refine wpAnyG_pure (i := 7) (v := ?_) rfl (by kernel_rfl) (by kernel_rfl) (by kernel_rfl) (fun _ _ _ h => h) rfl ?_ ?_
              rotate_left
              · intro w'
                first | (go_simp; done) | (go_simp; with_reducible rfl)
              refine wpAnyG_pure (i := 8) (v := ?_) rfl (by kernel_rfl) (by kernel_rfl) (by kernel_rfl) (fun _ _ _ h => h) rfl ?_ ?_
              rotate_left
              · intro w'
                first | (go_simp; done) | (go_simp; with_reducible rfl)
              refine wpAnyG_pure (i := 9) (v := ?_) rfl (by kernel_rfl) (by kernel_rfl) (by kernel_rfl) (fun _ _ _ h => h) rfl ?_ ?_
              rotate_left
              · intro w'
                first | (go_simp; done) | (go_simp; with_reducible rfl)
              refine wpAnyG_pure (i := 10) (v := ?_) rfl (by kernel_rfl) (by kernel_rfl) (by kernel_rfl) (fun _ _ _ h => h) rfl ?_ ?_
              rotate_left
              · intro w'
                first | (go_simp; done) | (go_simp; with_reducible rfl)
              refine wpAnyG_one (i := 12) (by kernel_rfl) rfl rfl (fun K hK => ?_)
              go_simp
              refine hK.out _ _ (fun _ h => Below.alloc h (Below.size h) _) ?_
              clear hK K
              have hal : Below W2.heap.size W2 (W2.alloc (.cells #[.slice none 0 0, .slice none 0 0, .slice none 0 0, .slice none 0 0] 29)) := balloc (Below.refl _ _) _
              have hbx9 : Bx wr W2.heap.size (.cells #[.slice none 0 0, .slice none 0 0, .slice none 0 0, .slice none 0 0] 29 (0, 0)) (W2.alloc (.cells #[.slice none 0 0, .slice none 0 0, .slice none 0 0, .slice none 0 0] 29)) := Bx.new hB2
              obtain ⟨P9, hP9⟩ : ∃ P9, W2.heap.size = P9 := ⟨_, rfl⟩
              rw [hP9] at hbx9
              rw [hP9]
              have hN9 : ¬ (rg W1.heap.size W2.heap.size) P9 := fun h => absurd (hR2.lim _ h) (by omega)
              have hJ : (fun W => Below wr.heap.size wr W ∧ Bx wr P8 (.cells #[.slice none 0 0, .bool false] 24 (0, 0)) W ∧ Bx wr P9 (.cells #[.slice none 0 0, .slice none 0 0, .slice none 0 0, .slice none 0 0] 29 (0, 0)) W ∧ AfOk l q e er A5 n5 c5 qq A0 A1 A2 A3 n0 n1 n2 n3 c0 c1 c2 c3 (rg W1.heap.size W2.heap.size) W) (W2.alloc (.cells #[.slice none 0 0, .slice none 0 0, .slice none 0 0, .slice none 0 0] 29)) := ⟨hB2.trans (hal.mono hB2.size), h82.next hal, hbx9, hR2.next hal⟩
              refine wpAnyG_world (fun W => Below wr.heap.size wr W ∧ Bx wr P8 (.cells #[.slice none 0 0, .bool false] 24 (0, 0)) W ∧ Bx wr P9 (.cells #[.slice none 0 0, .slice none 0 0, .slice none 0 0, .slice none 0 0] 29 (0, 0)) W ∧ AfOk l q e er A5 n5 c5 qq A0 A1 A2 A3 n0 n1 n2 n3 c0 c1 c2 c3 (rg W1.heap.size W2.heap.size) W) hJ ?_
              clear hJ hal hbx9 hP9 hB2 hR2 h82
              rintro W3 ⟨hB3, h83, h93, hR3⟩
              have HE := Lib.hid (st_end hB3 h83 h93 hR3 hN8 hN9 hLW)
              have z80 := cell_blk (i := 0) h83.blk rfl
              have u80 := free_blk (i := 0) h83.blk
              have z81 := cell_blk (i := 1) h83.blk rfl
              have u81 := free_blk (i := 1) h83.blk
              have z90 := cell_blk (i := 0) h93.blk rfl
              have u90 := free_blk (i := 0) h93.blk
              have z91 := cell_blk (i := 1) h93.blk rfl
              have u91 := free_blk (i := 1) h93.blk
              have z92 := cell_blk (i := 2) h93.blk rfl
              have u92 := free_blk (i := 2) h93.blk
              have z93 := cell_blk (i := 3) h93.blk rfl
              have u93 := free_blk (i := 3) h93.blk
              have hne : P9 ≠ P8 := bx_ne h83 h93
              have hne2 : P8 ≠ P9 := fun h => hne h.symm
              clear hN8 hN9 hLW hB3 hR3 h83 h93
              refine wpAnyG_one (i := 13) (by kernel_rfl) rfl rfl (fun K hK => ?_)
              go_simp
              refine hK.out _ _ (fun h => absurd (by decide) h) ?_
              clear hK K
              refine wpAnyG_one (i := 14) (by kernel_rfl) rfl rfl (fun K hK => ?_)
              go_simp
              refine hK.out _ _ (fun h => absurd (by decide) h) ?_
              clear hK K
              refine wpAnyG_one (i := 15) (by kernel_rfl) rfl rfl (fun K hK => ?_)
              go_simp
              refine hK.out _ _ (fun _ h => h) ?_
              clear hK K
              refine wpAnyG_done (by kernel_rfl) ?_ _
              obtain ⟨W, hW⟩ : ∃ W, (((((W3.setCell ⟨P8, 0, none⟩ (.slice A5 n5 c5)).setCell ⟨P8, 1, none⟩ (.bool qq)).setCell ⟨P9, 0, none⟩ (.slice A0 n0 c0)).setCell ⟨P9, 1, none⟩ (.slice A1 n1 c1)).setCell ⟨P9, 2, none⟩ (.slice A2 n2 c2)).setCell ⟨P9, 3, none⟩ (.slice A3 n3 c3) = W := ⟨_, rfl⟩
              rw [hW] at HE ⊢
              clear hW z80 z81 u80 u81 z90 z91 z92 z93 u90 u91 u92 u93 hne hne2
              go_wp2_with fail
              go_meet
              case rel => exact HE.out
            · go_simp
              refine hK.out _ _ (fun _ h => Below.alloc h (Below.size h) _) ?_
              clear hK K
              have hal : Below W1.heap.size W1 (W1.alloc (.cells #[.slice none 0 0, .slice none 0 0, .slice none 0 0, .slice none 0 0] 29)) := balloc (Below.refl _ _) _
              have hbx9 : Bx wr W1.heap.size (.cells #[.slice none 0 0, .slice none 0 0, .slice none 0 0, .slice none 0 0] 29 (0, 0)) (W1.alloc (.cells #[.slice none 0 0, .slice none 0 0, .slice none 0 0, .slice none 0 0] 29)) := Bx.new hB1
              obtain ⟨P9, hP9⟩ : ∃ P9, W1.heap.size = P9 := ⟨_, rfl⟩
              rw [hP9] at hbx9
              rw [hP9]
              have hJ : (fun W => Below wr.heap.size wr W ∧ Bx wr P8 (.cells #[.slice none 0 0, .bool false] 24 (0, 0)) W ∧ Bx wr P9 (.cells #[.slice none 0 0, .slice none 0 0, .slice none 0 0, .slice none 0 0] 29 (0, 0)) W) (W1.alloc (.cells #[.slice none 0 0, .slice none 0 0, .slice none 0 0, .slice none 0 0] 29)) := ⟨hB1.trans (hal.mono hB1.size), h81.next hal, hbx9⟩
              refine wpAnyG_world (fun W => Below wr.heap.size wr W ∧ Bx wr P8 (.cells #[.slice none 0 0, .bool false] 24 (0, 0)) W ∧ Bx wr P9 (.cells #[.slice none 0 0, .slice none 0 0, .slice none 0 0, .slice none 0 0] 29 (0, 0)) W) hJ ?_
              clear hJ hal hbx9 hP9 hB1 h81
              rintro W2 ⟨hB2, h82, h92⟩
              refine wpAnyG_one (i := 6) (by kernel_rfl) rfl rfl (fun K hK => ?_)
              go_simp
              go_at_call 7
              refine (HAP.out W2 hB2).mono ?_
              rintro e' W3 ⟨hb, er, A5, n5, c5, qq, A0, A1, A2, A3, n0, n1, n2, n3, c0, c1, c2, c3, rfl, hR3⟩
              have hB3 := hB2.trans (hb.mono hB2.size)
              have hLW : ∀ b, (rg W2.heap.size W3.heap.size) b → wr.heap.size ≤ b := fun _ h => Nat.le_trans hB2.size h.1
              have hN8 : ¬ (rg W2.heap.size W3.heap.size) P8 := fun h => absurd h.1 (Nat.not_le.2 (Array.getElem?_eq_some_iff.1 h82.blk).1)
              have hN9 : ¬ (rg W2.heap.size W3.heap.size) P9 := fun h => absurd h.1 (Nat.not_le.2 (Array.getElem?_eq_some_iff.1 h92.blk).1)
              have h83 := h82.next hb
              have h93 := h92.next hb
              clear hb HAP hB2 h82 h92
              go_wp2_with fail
              refine hK.out _ _ (fun _ _ => hB3) ?_
              clear hK K
              refine wpAnyG_pure (i := 7) (v := ?_) rfl (by kernel_rfl) (by kernel_rfl) (by kernel_rfl) (fun _ _ _ h => h) rfl ?_ ?_
              rotate_left
              · intro w'
                first | (go_simp; done) | (go_simp; with_reducible rfl)
              refine wpAnyG_pure (i := 8) (v := ?_) rfl (by kernel_rfl) (by kernel_rfl) (by kernel_rfl) (fun _ _ _ h => h) rfl ?_ ?_
              rotate_left
              · intro w'
                first | (go_simp; done) | (go_simp; with_reducible rfl)
              refine wpAnyG_pure (i := 9) (v := ?_) rfl (by kernel_rfl) (by kernel_rfl) (by kernel_rfl) (fun _ _ _ h => h) rfl ?_ ?_
              rotate_left
              · intro w'
                first | (go_simp; done) | (go_simp; with_reducible rfl)
              refine wpAnyG_pure (i := 10) (v := ?_) rfl (by kernel_rfl) (by kernel_rfl) (by kernel_rfl) (fun _ _ _ h => h) rfl ?_ ?_
              rotate_left
              · intro w'
                first | (go_simp; done) | (go_simp; with_reducible rfl)
              have HE := Lib.hid (st_end hB3 h83 h93 hR3 hN8 hN9 hLW)
              have z80 := cell_blk (i := 0) h83.blk rfl
              have u80 := free_blk (i := 0) h83.blk
              have z81 := cell_blk (i := 1) h83.blk rfl
              have u81 := free_blk (i := 1) h83.blk
              have z90 := cell_blk (i := 0) h93.blk rfl
              have u90 := free_blk (i := 0) h93.blk
              have z91 := cell_blk (i := 1) h93.blk rfl
              have u91 := free_blk (i := 1) h93.blk
              have z92 := cell_blk (i := 2) h93.blk rfl
              have u92 := free_blk (i := 2) h93.blk
              have z93 := cell_blk (i := 3) h93.blk rfl
              have u93 := free_blk (i := 3) h93.blk
              have hne : P9 ≠ P8 := bx_ne h83 h93
              have hne2 : P8 ≠ P9 := fun h => hne h.symm
              clear hN8 hN9 hLW hB3 hR3 h83 h93
              refine wpAnyG_one (i := 13) (by kernel_rfl) rfl rfl (fun K hK => ?_)
              go_simp
              refine hK.out _ _ (fun h => absurd (by decide) h) ?_
              clear hK K
              refine wpAnyG_one (i := 14) (by kernel_rfl) rfl rfl (fun K hK => ?_)
              go_simp
              refine hK.out _ _ (fun h => absurd (by decide) h) ?_
              clear hK K
              refine wpAnyG_one (i := 15) (by kernel_rfl) rfl rfl (fun K hK => ?_)
              go_simp
              refine hK.out _ _ (fun _ h => h) ?_
              clear hK K
              refine wpAnyG_done (by kernel_rfl) ?_ _
              obtain ⟨W, hW⟩ : ∃ W, (((((W3.setCell ⟨P8, 0, none⟩ (.slice A5 n5 c5)).setCell ⟨P8, 1, none⟩ (.bool qq)).setCell ⟨P9, 0, none⟩ (.slice A0 n0 c0)).setCell ⟨P9, 1, none⟩ (.slice A1 n1 c1)).setCell ⟨P9, 2, none⟩ (.slice A2 n2 c2)).setCell ⟨P9, 3, none⟩ (.slice A3 n3 c3) = W := ⟨_, rfl⟩
              rw [hW] at HE ⊢
              clear hW z80 z81 u80 u81 z90 z91 z92 z93 u90 u91 u92 u93 hne hne2
              go_wp2_with fail
              go_meet
              case rel => exact HE.out
          · go_simp
            refine hK.out _ _ (fun _ h => Below.alloc h (Below.size h) _) ?_
            clear hK K
            have hal : Below W0.heap.size W0 (W0.alloc (.cells #[.slice none 0 0, .slice none 0 0, .slice none 0 0, .slice none 0 0] 29)) := balloc (Below.refl _ _) _
            have hbx9 : Bx wr W0.heap.size (.cells #[.slice none 0 0, .slice none 0 0, .slice none 0 0, .slice none 0 0] 29 (0, 0)) (W0.alloc (.cells #[.slice none 0 0, .slice none 0 0, .slice none 0 0, .slice none 0 0] 29)) := Bx.new hB0
            obtain ⟨P9, hP9⟩ : ∃ P9, W0.heap.size = P9 := ⟨_, rfl⟩
            rw [hP9] at hbx9
            rw [hP9]
            have hJ : (fun W => Below wr.heap.size wr W ∧ Bx wr P9 (.cells #[.slice none 0 0, .slice none 0 0, .slice none 0 0, .slice none 0 0] 29 (0, 0)) W) (W0.alloc (.cells #[.slice none 0 0, .slice none 0 0, .slice none 0 0, .slice none 0 0] 29)) := ⟨hB0.trans (hal.mono hB0.size), hbx9⟩
            refine wpAnyG_world (fun W => Below wr.heap.size wr W ∧ Bx wr P9 (.cells #[.slice none 0 0, .slice none 0 0, .slice none 0 0, .slice none 0 0] 29 (0, 0)) W) hJ ?_
            clear hJ hal hbx9 hP9 hB0
            rintro W1 ⟨hB1, h91⟩
            refine wpAnyG_two (i := 6) (j := 11) (by kernel_rfl) rfl rfl rfl rfl (fun K hK => ?_) (fun K hK => ?_)
            · go_simp
              go_at_call 7
              refine (HAP.out W1 hB1).mono ?_
              rintro e' W2 ⟨hb, er, A5, n5, c5, qq, A0, A1, A2, A3, n0, n1, n2, n3, c0, c1, c2, c3, rfl, hR2⟩
              have hB2 := hB1.trans (hb.mono hB1.size)
              have hLW : ∀ b, (rg W1.heap.size W2.heap.size) b → wr.heap.size ≤ b := fun _ h => Nat.le_trans hB1.size h.1
              have hN9 : ¬ (rg W1.heap.size W2.heap.size) P9 := fun h => absurd h.1 (Nat.not_le.2 (Array.getElem?_eq_some_iff.1 h91.blk).1)
              have h92 := h91.next hb
              clear hb HAP hB1 h91
              go_wp2_with fail
              refine hK.out _ _ (fun _ _ => hB2) ?_
              clear hK K
              refine wpAnyG_pure (i := 7) (v := ?_) rfl (by kernel_rfl) (by kernel_rfl) (by kernel_rfl) (fun _ _ _ h => h) rfl ?_ ?_
              rotate_left
              · intro w'
                first | (go_simp; done) | (go_simp; with_reducible rfl)
              refine wpAnyG_pure (i := 8) (v := ?_) rfl (by kernel_rfl) (by kernel_rfl) (by kernel_rfl) (fun _ _ _ h => h) rfl ?_ ?_
              rotate_left
              · intro w'
                first | (go_simp; done) | (go_simp; with_reducible rfl)
              refine wpAnyG_pure (i := 9) (v := ?_) rfl (by kernel_rfl) (by kernel_rfl) (by kernel_rfl) (fun _ _ _ h => h) rfl ?_ ?_
              rotate_left
              · intro w'
                first | (go_simp; done) | (go_simp; with_reducible rfl)
              refine wpAnyG_pure (i := 10) (v := ?_) rfl (by kernel_rfl) (by kernel_rfl) (by kernel_rfl) (fun _ _ _ h => h) rfl ?_ ?_
              rotate_left
              · intro w'
                first | (go_simp; done) | (go_simp; with_reducible rfl)
              refine wpAnyG_one (i := 11) (by kernel_rfl) rfl rfl (fun K hK => ?_)
              go_simp
              refine hK.out _ _ (fun _ h => Below.alloc h (Below.size h) _) ?_
              clear hK K
              have hal : Below W2.heap.size W2 (W2.alloc (.cells #[.slice none 0 0, .bool false] 24)) := balloc (Below.refl _ _) _
              have hbx8 : Bx wr W2.heap.size (.cells #[.slice none 0 0, .bool false] 24 (0, 0)) (W2.alloc (.cells #[.slice none 0 0, .bool false] 24)) := Bx.new hB2
              obtain ⟨P8, hP8⟩ : ∃ P8, W2.heap.size = P8 := ⟨_, rfl⟩
              rw [hP8] at hbx8
              rw [hP8]
              have hN8 : ¬ (rg W1.heap.size W2.heap.size) P8 := fun h => absurd (hR2.lim _ h) (by omega)
              have hJ : (fun W => Below wr.heap.size wr W ∧ Bx wr P9 (.cells #[.slice none 0 0, .slice none 0 0, .slice none 0 0, .slice none 0 0] 29 (0, 0)) W ∧ Bx wr P8 (.cells #[.slice none 0 0, .bool false] 24 (0, 0)) W ∧ AfOk l q e er A5 n5 c5 qq A0 A1 A2 A3 n0 n1 n2 n3 c0 c1 c2 c3 (rg W1.heap.size W2.heap.size) W) (W2.alloc (.cells #[.slice none 0 0, .bool false] 24)) := ⟨hB2.trans (hal.mono hB2.size), h92.next hal, hbx8, hR2.next hal⟩
              refine wpAnyG_world (fun W => Below wr.heap.size wr W ∧ Bx wr P9 (.cells #[.slice none 0 0, .slice none 0 0, .slice none 0 0, .slice none 0 0] 29 (0, 0)) W ∧ Bx wr P8 (.cells #[.slice none 0 0, .bool false] 24 (0, 0)) W ∧ AfOk l q e er A5 n5 c5 qq A0 A1 A2 A3 n0 n1 n2 n3 c0 c1 c2 c3 (rg W1.heap.size W2.heap.size) W) hJ ?_
              clear hJ hal hbx8 hP8 hB2 hR2 h92
              rintro W3 ⟨hB3, h93, h83, hR3⟩
              have HE := Lib.hid (st_end hB3 h83 h93 hR3 hN8 hN9 hLW)
              have z80 := cell_blk (i := 0) h83.blk rfl
              have u80 := free_blk (i := 0) h83.blk
              have z81 := cell_blk (i := 1) h83.blk rfl
              have u81 := free_blk (i := 1) h83.blk
              have z90 := cell_blk (i := 0) h93.blk rfl
              have u90 := free_blk (i := 0) h93.blk
              have z91 := cell_blk (i := 1) h93.blk rfl
              have u91 := free_blk (i := 1) h93.blk
              have z92 := cell_blk (i := 2) h93.blk rfl
              have u92 := free_blk (i := 2) h93.blk
              have z93 := cell_blk (i := 3) h93.blk rfl
              have u93 := free_blk (i := 3) h93.blk
              have hne : P9 ≠ P8 := bx_ne h83 h93
              have hne2 : P8 ≠ P9 := fun h => hne h.symm
              clear hN8 hN9 hLW hB3 hR3 h93 h83
              refine wpAnyG_one (i := 13) (by kernel_rfl) rfl rfl (fun K hK => ?_)
              go_simp
              refine hK.out _ _ (fun h => absurd (by decide) h) ?_
              clear hK K
              refine wpAnyG_one (i := 14) (by kernel_rfl) rfl rfl (fun K hK => ?_)
              go_simp
              refine hK.out _ _ (fun h => absurd (by decide) h) ?_
              clear hK K
              refine wpAnyG_one (i := 15) (by kernel_rfl) rfl rfl (fun K hK => ?_)
              go_simp
              refine hK.out _ _ (fun _ h => h) ?_
              clear hK K
              refine wpAnyG_done (by kernel_rfl) ?_ _
              obtain ⟨W, hW⟩ : ∃ W, (((((W3.setCell ⟨P8, 0, none⟩ (.slice A5 n5 c5)).setCell ⟨P8, 1, none⟩ (.bool qq)).setCell ⟨P9, 0, none⟩ (.slice A0 n0 c0)).setCell ⟨P9, 1, none⟩ (.slice A1 n1 c1)).setCell ⟨P9, 2, none⟩ (.slice A2 n2 c2)).setCell ⟨P9, 3, none⟩ (.slice A3 n3 c3) = W := ⟨_, rfl⟩
              rw [hW] at HE ⊢
              clear hW z80 z81 u80 u81 z90 z91 z92 z93 u90 u91 u92 u93 hne hne2
              go_wp2_with fail
              go_meet
              case rel => exact HE.out
            · go_simp
              refine hK.out _ _ (fun _ h => Below.alloc h (Below.size h) _) ?_
              clear hK K
              have hal : Below W1.heap.size W1 (W1.alloc (.cells #[.slice none 0 0, .bool false] 24)) := balloc (Below.refl _ _) _
              have hbx8 : Bx wr W1.heap.size (.cells #[.slice none 0 0, .bool false] 24 (0, 0)) (W1.alloc (.cells #[.slice none 0 0, .bool false] 24)) := Bx.new hB1
              obtain ⟨P8, hP8⟩ : ∃ P8, W1.heap.size = P8 := ⟨_, rfl⟩
              rw [hP8] at hbx8
              rw [hP8]
              have hJ : (fun W => Below wr.heap.size wr W ∧ Bx wr P9 (.cells #[.slice none 0 0, .slice none 0 0, .slice none 0 0, .slice none 0 0] 29 (0, 0)) W ∧ Bx wr P8 (.cells #[.slice none 0 0, .bool false] 24 (0, 0)) W) (W1.alloc (.cells #[.slice none 0 0, .bool false] 24)) := ⟨hB1.trans (hal.mono hB1.size), h91.next hal, hbx8⟩
              refine wpAnyG_world (fun W => Below wr.heap.size wr W ∧ Bx wr P9 (.cells #[.slice none 0 0, .slice none 0 0, .slice none 0 0, .slice none 0 0] 29 (0, 0)) W ∧ Bx wr P8 (.cells #[.slice none 0 0, .bool false] 24 (0, 0)) W) hJ ?_
              clear hJ hal hbx8 hP8 hB1 h91
              rintro W2 ⟨hB2, h92, h82⟩
              refine wpAnyG_one (i := 6) (by kernel_rfl) rfl rfl (fun K hK => ?_)
              go_simp
              go_at_call 7
              refine (HAP.out W2 hB2).mono ?_
              rintro e' W3 ⟨hb, er, A5, n5, c5, qq, A0, A1, A2, A3, n0, n1, n2, n3, c0, c1, c2, c3, rfl, hR3⟩
              have hB3 := hB2.trans (hb.mono hB2.size)
              have hLW : ∀ b, (rg W2.heap.size W3.heap.size) b → wr.heap.size ≤ b := fun _ h => Nat.le_trans hB2.size h.1
              have hN8 : ¬ (rg W2.heap.size W3.heap.size) P8 := fun h => absurd h.1 (Nat.not_le.2 (Array.getElem?_eq_some_iff.1 h82.blk).1)
              have hN9 : ¬ (rg W2.heap.size W3.heap.size) P9 := fun h => absurd h.1 (Nat.not_le.2 (Array.getElem?_eq_some_iff.1 h92.blk).1)
              have h83 := h82.next hb
              have h93 := h92.next hb
              clear hb HAP hB2 h92 h82
              go_wp2_with fail
              refine hK.out _ _ (fun _ _ => hB3) ?_
              clear hK K
              refine wpAnyG_pure (i := 7) (v := ?_) rfl (by kernel_rfl) (by kernel_rfl) (by kernel_rfl) (fun _ _ _ h => h) rfl ?_ ?_
              rotate_left
              · intro w'
                first | (go_simp; done) | (go_simp; with_reducible rfl)
              refine wpAnyG_pure (i := 8) (v := ?_) rfl (by kernel_rfl) (by kernel_rfl) (by kernel_rfl) (fun _ _ _ h => h) rfl ?_ ?_
              rotate_left
              · intro w'
                first | (go_simp; done) | (go_simp; with_reducible rfl)
              refine wpAnyG_pure (i := 9) (v := ?_) rfl (by kernel_rfl) (by kernel_rfl) (by kernel_rfl) (fun _ _ _ h => h) rfl ?_ ?_
              rotate_left
              · intro w'
                first | (go_simp; done) | (go_simp; with_reducible rfl)
              refine wpAnyG_pure (i := 10) (v := ?_) rfl (by kernel_rfl) (by kernel_rfl) (by kernel_rfl) (fun _ _ _ h => h) rfl ?_ ?_
              rotate_left
              · intro w'
                first | (go_simp; done) | (go_simp; with_reducible rfl)
              have HE := Lib.hid (st_end hB3 h83 h93 hR3 hN8 hN9 hLW)
              have z80 := cell_blk (i := 0) h83.blk rfl
              have u80 := free_blk (i := 0) h83.blk
              have z81 := cell_blk (i := 1) h83.blk rfl
              have u81 := free_blk (i := 1) h83.blk
              have z90 := cell_blk (i := 0) h93.blk rfl
              have u90 := free_blk (i := 0) h93.blk
              have z91 := cell_blk (i := 1) h93.blk rfl
              have u91 := free_blk (i := 1) h93.blk
              have z92 := cell_blk (i := 2) h93.blk rfl
              have u92 := free_blk (i := 2) h93.blk
              have z93 := cell_blk (i := 3) h93.blk rfl
              have u93 := free_blk (i := 3) h93.blk
              have hne : P9 ≠ P8 := bx_ne h83 h93
              have hne2 : P8 ≠ P9 := fun h => hne h.symm
              clear hN8 hN9 hLW hB3 hR3 h83 h93
              refine wpAnyG_one (i := 13) (by kernel_rfl) rfl rfl (fun K hK => ?_)
              go_simp
              refine hK.out _ _ (fun h => absurd (by decide) h) ?_
              clear hK K
              refine wpAnyG_one (i := 14) (by kernel_rfl) rfl rfl (fun K hK => ?_)
              go_simp
              refine hK.out _ _ (fun h => absurd (by decide) h) ?_
              clear hK K
              refine wpAnyG_one (i := 15) (by kernel_rfl) rfl rfl (fun K hK => ?_)
              go_simp
              refine hK.out _ _ (fun _ h => h) ?_
              clear hK K
              refine wpAnyG_done (by kernel_rfl) ?_ _
              obtain ⟨W, hW⟩ : ∃ W, (((((W3.setCell ⟨P8, 0, none⟩ (.slice A5 n5 c5)).setCell ⟨P8, 1, none⟩ (.bool qq)).setCell ⟨P9, 0, none⟩ (.slice A0 n0 c0)).setCell ⟨P9, 1, none⟩ (.slice A1 n1 c1)).setCell ⟨P9, 2, none⟩ (.slice A2 n2 c2)).setCell ⟨P9, 3, none⟩ (.slice A3 n3 c3) = W := ⟨_, rfl⟩
              rw [hW] at HE ⊢
              clear hW z80 z81 u80 u81 z90 z91 z92 z93 u90 u91 u92 u93 hne hne2
              go_wp2_with fail
              go_meet
              case rel => exact HE.out
        case rest =>
        obtain ⟨P8, P9, er, A5, n5, c5, qq, B0, B1, B2, B3, m0, m1, m2, m3, d0, d1, d2', d3, D, rfl, rfl, rfl, hb, h8, h9, hr, hlow⟩ := hcut
        have x0 := cell_be x0 hb
        have hD := (HH.out.next hb)
        have HD := Lib.hid hD
        have HR := Lib.hid hr
        have HLO : Hid (l.length ≤ 50 + j) := HLEN.out
        by_cases hz : er = 0
        · subst hz
          obtain ⟨hqq, hdoc, h4⟩ := hr.ok rfl
          obtain rfl := hqq.symm
          have HED : Hid (edErr l e = 0) := hr.err.symm
          have HX8 : Hid (w.heap.size < wr.heap.size) := (Array.getElem?_eq_some_iff.1 HH.out.box).1
          have HX9 : Hid (X < wr.heap.size) := (Array.getElem?_eq_some_iff.1 HH.out.ix).1
          have HNK := Lib.hid (fun W (hF : FinW wc.drew W w.heap.size X (.slice A5 n5 c5) (.bool q) (.slice B0 m0 d0) (.slice B1 m1 d1) (.slice B2 m2 d2') (.slice B3 m3 d3)) => ki_set hD hF hr.lim (fun h => absurd (hlow _ h) (Nat.not_le.2 HX8.out)) (fun h => absurd (hlow _ h) (Nat.not_le.2 HX9.out)) hdoc h4 HED.out)
          have t0 := cell_blk (i := 0) h8.blk rfl
          have t1 := cell_blk (i := 1) h8.blk rfl
          have s0 := cell_blk (i := 0) h9.blk rfl
          have s1 := cell_blk (i := 1) h9.blk rfl
          have s2 := cell_blk (i := 2) h9.blk rfl
          have s3 := cell_blk (i := 3) h9.blk rfl
          have a0 := cell_blk (i := 0) hD.box rfl
          have a1 := cell_blk (i := 1) hD.box rfl
          have a2 := free_blk (i := 0) hD.box
          have a3 := free_blk (i := 1) hD.box
          have g0 := cell_blk (i := 0) hD.ix rfl
          have g1 := cell_blk (i := 1) hD.ix rfl
          have g2 := cell_blk (i := 2) hD.ix rfl
          have g3 := cell_blk (i := 3) hD.ix rfl
          have g4 := free_blk (i := 0) hD.ix
          have g5 := free_blk (i := 1) hD.ix
          have g6 := free_blk (i := 2) hD.ix
          have g7 := free_blk (i := 3) hD.ix
          have n1' : X ≠ w.heap.size := by have := hD.far; omega
          have n2' : w.heap.size ≠ X := by have := hD.far; omega
          have n3' : w.heap.size ≠ P8 := by have := h8.low; have := HX8.out; omega
          have n4' : w.heap.size ≠ P9 := by have := h9.low; have := HX8.out; omega
          have n5' : X ≠ P8 := by have := h8.low; have := HX9.out; omega
          have n6' : X ≠ P9 := by have := h9.low; have := HX9.out; omega
          clear hdoc h4 hr h8 h9 hD HR hlow x0 x1 y0 y1 y2 y3 hb
          go_upto_region 10 with fail
          refine wp_region_G (S := fun w' : World => w'.cell? ⟨P8, 0, none⟩ = some (.slice A5 n5 c5) ∧ w'.cell? ⟨P8, 1, none⟩ = some (.bool q) ∧ w'.cell? ⟨P9, 0, none⟩ = some (.slice B0 m0 d0) ∧ w'.cell? ⟨P9, 1, none⟩ = some (.slice B1 m1 d1) ∧ w'.cell? ⟨P9, 2, none⟩ = some (.slice B2 m2 d2') ∧ w'.cell? ⟨P9, 3, none⟩ = some (.slice B3 m3 d3)) (T := [3]) (by kernel_rfl) ?_
          have hS : (fun w' : World => w'.cell? ⟨P8, 0, none⟩ = some (.slice A5 n5 c5) ∧ w'.cell? ⟨P8, 1, none⟩ = some (.bool q) ∧ w'.cell? ⟨P9, 0, none⟩ = some (.slice B0 m0 d0) ∧ w'.cell? ⟨P9, 1, none⟩ = some (.slice B1 m1 d1) ∧ w'.cell? ⟨P9, 2, none⟩ = some (.slice B2 m2 d2') ∧ w'.cell? ⟨P9, 3, none⟩ = some (.slice B3 m3 d3)) wc.drew := ⟨t0, t1, s0, s1, s2, s3⟩
          refine wpAnyG_take (i := 0) (v := ?_) rfl (by kernel_rfl) (by kernel_rfl) (by kernel_rfl) (by kernel_rfl) (fun _ _ _ h => h) hS rfl ?_ ?_
          rotate_left
          · intro w' hSw
            (try dsimp only at hSw)
            first | (go_simp; done) | (go_simp; with_reducible rfl)
          refine wpAnyG_take (i := 1) (v := ?_) rfl (by kernel_rfl) (by kernel_rfl) (by kernel_rfl) (by kernel_rfl) (fun _ _ _ h => h) hS rfl ?_ ?_
          rotate_left
          · intro w' hSw
            (try dsimp only at hSw)
            first | (go_simp; done) | (go_simp; with_reducible rfl)
          refine wpAnyG_one (i := 2) (by kernel_rfl) rfl rfl (fun K hK => ?_)
          go_simp
          refine hK.out _ _ (fun _ _ => S6.drew (S6.set n3' n4' (S6.set n3' n4' (w := wc) ⟨t0, t1, s0, s1, s2, s3⟩))) ?_
          clear hK K
          refine wpAnyG_one (i := 3) (by kernel_rfl) rfl rfl (fun K hK => ?_)
          go_simp
          refine hK.out _ _ (fun h => absurd (by decide) h) ?_
          clear hK K
          refine wpAnyG_done (by kernel_rfl) ?_ _
          have HFD := Lib.hid (FinW.drew (fin_di (w := wc) (vd := .slice A5 n5 c5) (vb := .bool q) (v0 := .slice B0 m0 d0) (v1 := .slice B1 m1 d1) (v2 := .slice B2 m2 d2') (v3 := .slice B3 m3 d3) HD.out.box HD.out.ix n1'))
          obtain ⟨W, hW⟩ : ∃ W, W = ((((((wc.setCell ⟨w.heap.size, 0, none⟩ (.slice A5 n5 c5)).setCell ⟨w.heap.size, 1, none⟩ (.bool q)).setCell ⟨X, 0, none⟩ (.slice B0 m0 d0)).setCell ⟨X, 1, none⟩ (.slice B1 m1 d1)).setCell ⟨X, 2, none⟩ (.slice B2 m2 d2')).setCell ⟨X, 3, none⟩ (.slice B3 m3 d3)).drew := ⟨_, rfl⟩
          rw [← hW] at HFD ⊢
          have HNK2 := Lib.hid (HNK.out W HFD.out)
          clear hW t0 t1 s0 s1 s2 s3 a0 a1 a2 a3 g0 g1 g2 g3 g4 g5 g6 g7 hS
          go_wp2_with fail
          go_roundw
          case rel => exact ⟨j + 1, by omega, by go_num, A5, n5, c5, edDo l e, B0, B1, B2, B3, m0, m1, m2, m3, d0, d1, d2', d3, by have := kept_len l e; have := HLO.out; omega, HNK2.out⟩
          case measure => simp [intOf]; omega
        · have hz2 : (er == 0) = false := beq_eq_false_iff_ne.2 hz
          clear hz hr h8 h9 hD hlow x0 x1 y0 y1 y2 y3 hb HR
          go_wp2_with fail
          go_roundw
          case rel => exact ⟨j + 1, by omega, by go_num, A, n, c, l, A0, A1, A2, A3, n0, n1, n2, n3, c0, c1, c2, c3, by have := HLO.out; omega, HD.out⟩
          case measure => simp [intOf]; omega
      · obtain ⟨wz, rfl⟩ : ∃ wz : World, wz = wr := ⟨_, rfl⟩
        have HOZ := Lib.hid (of_ix A n c l q wz (check_of hki.good) hki.doc)
        clear hki HR hlen
        go_upto_region 12 with (go_at_call 5; refine HOZ.out.mono ?_; rintro e w3 ⟨hb3, B0, B1, B2, B3, m0, m1, m2, m3, d0, d1, d2', d3, rfl, h4⟩)
        obtain ⟨w4, hw4⟩ : ∃ w4, w4 = w3.alloc (.cells #[.slice B0 m0 d0, .slice B1 m1 d1, .slice B2 m2 d2', .slice B3 m3 d3] 29) := ⟨_, rfl⟩
        have hx4 : w4.heap[w3.heap.size]? = some (.cells #[.slice B0 m0 d0, .slice B1 m1 d1, .slice B2 m2 d2', .slice B3 m3 d3] 29 (0, 0)) := by rw [hw4]; exact heap_alloc_new w3 _
        have hb34 : Below w3.heap.size w3 w4 := by rw [hw4]; exact balloc (Below.refl _ _) _
        have hbz4 : Below wz.heap.size wz w4 := bstep hb3 hb34
        rw [← hw4]
        obtain ⟨Y, hY⟩ : ∃ Y, w3.heap.size = Y := ⟨_, rfl⟩
        rw [hY] at hx4 ⊢
        have HZ4 := Lib.hid (HH.out.next hbz4)
        have HY4 := Lib.hid hx4
        have H44 := Lib.hid (h4.next hb34)
        have HLQ := Lib.hid HZ4.out.lists
        have HBY : Hid (Below w.heap.size w w4) := HZ4.out.below
        have hix := Lib.hid HZ4.out.ix
        have p0 := cell_blk (i := 0) hix.out rfl
        have p1 := cell_blk (i := 1) hix.out rfl
        have p2 := cell_blk (i := 2) hix.out rfl
        have p3 := cell_blk (i := 3) hix.out rfl
        have r0 := cell_blk (i := 0) hx4 rfl
        have r1 := cell_blk (i := 1) hx4 rfl
        have r2 := cell_blk (i := 2) hx4 rfl
        have r3 := cell_blk (i := 3) hx4 rfl
        obtain ⟨L, hL⟩ : ∃ L, anD l = L := ⟨_, rfl⟩
        rw [hL] at H44 HLQ
        obtain ⟨e0, e1, e2, e3⟩ := H44.out
        obtain ⟨e4, e5, e6, e7⟩ := HLQ.out
        obtain rfl := e0.hn.trans e4.hn.symm
        obtain rfl := e1.hn.trans e5.hn.symm
        obtain rfl := e2.hn.trans e6.hn.symm
        obtain rfl := e3.hn.trans e7.hn.symm
        have HS0 := Lib.hid (fun W (hb : Below w4.heap.size w4 W) => sameRefs_any A0 m0 c0 (L 0) B0 d0 W w4.heap.size (e4.below hb (Nat.le_refl _)) (e0.below hb (Nat.le_refl _)) hb.size)
        have HS1 := Lib.hid (fun W (hb : Below w4.heap.size w4 W) => sameRefs_any A1 m1 c1 (L 1) B1 d1 W w4.heap.size (e5.below hb (Nat.le_refl _)) (e1.below hb (Nat.le_refl _)) hb.size)
        have HS2 := Lib.hid (fun W (hb : Below w4.heap.size w4 W) => sameRefs_any A2 m2 c2 (L 2) B2 d2' W w4.heap.size (e6.below hb (Nat.le_refl _)) (e2.below hb (Nat.le_refl _)) hb.size)
        have HS3 := Lib.hid (fun W (hb : Below w4.heap.size w4 W) => sameRefs_any A3 m3 c3 (L 3) B3 d3 W w4.heap.size (e7.below hb (Nat.le_refl _)) (e3.below hb (Nat.le_refl _)) hb.size)
        clear hw4 hx4 hb34 hbz4 hY h4 hb3 x0 x1 y0 y1 y2 y3 HOZ HH HZ4 HY4 hix hL H44 HLQ e0 e1 e2 e3 e4 e5 e6 e7 HKI HES2 HEN HLEN
        go_wp2_with (first
          | (go_at_call 6; refine (HBG.out _).mono ?_; rintro e' wg ⟨rfl, hbg⟩; have HG := Lib.hid hbg; have gp0 := cell_be p0 HG.out; have gp1 := cell_be p1 HG.out; have gp2 := cell_be p2 HG.out; have gp3 := cell_be p3 HG.out; have gr0 := cell_be r0 HG.out; have gr1 := cell_be r1 HG.out; have gr2 := cell_be r2 HG.out; have gr3 := cell_be r3 HG.out)
          | (go_at_call 8; first
              | (with_reducible refine (HS0.out _ HG.out).mono ?_; rintro e' wh ⟨rfl, hbh⟩; have HH := Lib.hid (bstep HG.out hbh); have hp0 := cell_be p0 HH.out; have hp1 := cell_be p1 HH.out; have hp2 := cell_be p2 HH.out; have hp3 := cell_be p3 HH.out; have hr0 := cell_be r0 HH.out; have hr1 := cell_be r1 HH.out; have hr2 := cell_be r2 HH.out; have hr3 := cell_be r3 HH.out)
              | (with_reducible refine (HS1.out _ HH.out).mono ?_; rintro e' wi ⟨rfl, hbi⟩; have HI := Lib.hid (bstep HH.out hbi); have ip0 := cell_be p0 HI.out; have ip1 := cell_be p1 HI.out; have ip2 := cell_be p2 HI.out; have ip3 := cell_be p3 HI.out; have ir0 := cell_be r0 HI.out; have ir1 := cell_be r1 HI.out; have ir2 := cell_be r2 HI.out; have ir3 := cell_be r3 HI.out)
              | (with_reducible refine (HS2.out _ HI.out).mono ?_; rintro e' wj ⟨rfl, hbj⟩; have HJ := Lib.hid (bstep HI.out hbj); have jp0 := cell_be p0 HJ.out; have jp1 := cell_be p1 HJ.out; have jp2 := cell_be p2 HJ.out; have jp3 := cell_be p3 HJ.out; have jr0 := cell_be r0 HJ.out; have jr1 := cell_be r1 HJ.out; have jr2 := cell_be r2 HJ.out; have jr3 := cell_be r3 HJ.out)
              | (with_reducible refine (HS3.out _ HJ.out).mono ?_; rintro e' wk ⟨rfl, hbk⟩; have HK := Lib.hid (bstep HJ.out hbk))))
        go_ret
        exact ⟨rfl, HBY.out.trans (HK.out.mono HBY.out.size)⟩
  · have HC := Lib.hid hck
    have hc1 : (checkD l != 0) = true := by simpa using hck
    have HOF2 := Lib.hid (HOF.out.mono (R' := fun e w' => Below w2.heap.size w2 w' ∧ e = .returned (.tuple #[.agg #[.slice none 0 0, .slice none 0 0, .slice none 0 0, .slice none 0 0], .int .i64 (checkD l)])) fun e w' h => ⟨h.1, (h.2.resolve_right fun h => HC.out h.1).2⟩)
    generalize checkD l = er0 at *
    clear hck HOF
    go_upto_region 3 with (go_at_call 5; refine HOF2.out.mono ?_; rintro e w3 ⟨hb3, rfl⟩)
    obtain ⟨w4, hw4⟩ : ∃ w4, w4 = w3.alloc (.cells #[.slice none 0 0, .slice none 0 0, .slice none 0 0, .slice none 0 0] 29) := ⟨_, rfl⟩
    have HB4 := Lib.hid (show Below w.heap.size w w4 from by rw [hw4]; exact HB2.out.trans ((balloc hb3 _).mono HB2.out.size))
    rw [← hw4]
    clear hw4 hb3 x0 x1 HOF2
    go_wp2_with (go_at_call 6; refine (HBG.out _).mono ?_; rintro e' w6 ⟨rfl, hb6⟩)
    go_ret
    exact ⟨rfl, HB4.out.trans (hb6.mono HB4.out.size)⟩
end Go.Proofs.YtomleengbnfikaaGreatDoor
