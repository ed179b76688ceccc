/-
Patches: the walk of the differ's node.
-/
import Derived.Test.YtomleengbnfikaaDoorPatPairsW
import Derived.Test.YtomleengbnfikaaDoorPatBack
import Derived.Sort.CutIn
namespace Go.Proofs.YtomleengbnfikaaDoor
open Go.RowKit Go.Cl Go.Shelf
attribute [local go_sem ↓] Go.wp_at_zero Go.wp_at_succ
attribute [local go_sem] Oper.semAt_some

theorem hasInt_any (A : Option Addr) (n c : Nat) (l : List Int) (x : Int) (w : World) (D : Nat → Prop) (hl : Sl (tInt .i64) w D A n c l) :
    Calls Tryd.prog 32 #[.slice A n c, .int .i64 x] w fun e w' => e = .returned (.bool (l.contains x)) ∧ w' = w := by
  rcases Nat.eq_zero_or_pos n with h0 | h0
  · subst h0
    obtain rfl : l = [] := List.eq_nil_of_length_eq_zero hl.hn.symm
    exact (Tryd.slices_Contains_int_empty A c x w).mono fun e w' h => ⟨by rw [h.1]; rfl, h.2⟩
  · obtain ⟨b, o, cells, rfl, hb, hr, hc⟩ := hl.at_ h0
    have hn := hl.hn
    refine (Tryd.slices_Contains_int b o n c l x w (by omega) (by have := hl.small; omega) (fun j hj => ?_)).mono fun e w' h => ⟨by rw [h.1, hn, List.take_length], h.2⟩
    obtain ⟨b', o', e, _, hcell, _⟩ := hl.int (List.getElem?_eq_getElem hj)
    simp only [Option.some.injEq, Addr.mk.injEq] at e
    obtain ⟨rfl, rfl, _⟩ := e
    rw [hcell, List.getD_eq_getElem?_getD, List.getElem?_eq_getElem hj]; rfl
section
variable {w w' : World} {base E : Nat} {A : Option Addr} {n c : Nat} {q : Bool} {A2 : Option Addr} {n2 c2 : Nat} {q2 : Bool} {v : Value} {es es' : List Edt} {m m' : Int}
/-- No panic in sight. -/
theorem wp_still {P : Program} {cd : Code} {K : Act → World → Prop} {Q : Exit → Act → World → Prop} {a : Act} {w : World} (h : cd.wp P (Exit.then K fun _ _ _ => False) a w) : cd.wp P (Exit.then K Q) a w := by
  refine wp_mono h ?_
  intro e a' w' hq
  cases e with
  | normal => exact hq
  | exit id => exact hq.elim
  | goto l => exact hq.elim
  | ret => exact hq.elim
  | panic ch => exact hq.elim
  | outgrown => exact hq.elim
/-- A box stays. -/
theorem DStep.blk (hd : Df w base E A n c q A2 n2 c2 q2 v es m) (hs : DStep w base E A n c q A2 n2 c2 q2 v es' m' w') {k : Nat} {cs : Array Value} {t : TypeId} (hk : w.heap[k]? = some (.cells cs t (0, 0))) (h1 : 59 ≠ t) (h2 : 30 ≠ t) : w'.heap[k]? = some (.cells cs t (0, 0)) := by
  refine (hs.keep (Array.getElem?_eq_some_iff.1 hk).1 (fun e => ?_) (own_ne_block h2 hd.row hk)).trans hk
  subst e
  rw [hd.box] at hk
  injection hk with hk
  injection hk with _ hk
  exact h1 hk
theorem DStep.keepsO (hd : Df w base E A n c q A2 n2 c2 q2 v es m) (hs : DStep w base E A n c q A2 n2 c2 q2 v es' m' w') : KeepsOthers w w' := by
  refine ⟨hs.tou.size, fun k o hk ho => (hs.tou.block k (Array.getElem?_eq_some_iff.1 hk).1 fun h => ?_).trans hk⟩
  rcases h with h | h
  · subst h
    rw [hd.box] at hk
    obtain rfl := Option.some.inj hk
    cases ho
  · obtain ⟨cur, h1⟩ := own_block_at hd.row h
    rw [h1] at hk
    obtain rfl := Option.some.inj hk
    cases ho
end
theorem row_sl {w : World} {g M : Nat} {F : Nat → Int} {lo : Nat} (h : RowF w g M 3 (fun k => .int .i64 (F k))) (hlo : lo ≤ g) (hM : M ≤ 100000) (hwf : ∀ k, k < M → (Lit.int .i64 (F k)).wf = true) : Sl (tInt .i64) w (rg lo w.heap.size) (some ⟨g, 0, none⟩) M M ((List.range M).map F) := by
  refine ⟨by simp, Nat.le_refl _, by show M * 8 ≤ _; omega, Nat.le_trans hM (by decide), (fun e => by cases e), fun h0 => ⟨g, 0, (List.range M).map fun k => .int .i64 (F k), rfl, ⟨hlo, h.lt⟩, ?_, fun j u hj => ?_⟩⟩
  · have key : ∀ xs : List Nat, (∀ k ∈ xs, k < M) → Row (tInt .i64) w (rg lo w.heap.size) (xs.map F) (xs.map fun k => .int .i64 (F k)) := by
      intro xs
      induction xs with
      | nil => intro _; exact Row.nil
      | cons k r ih => intro hk; exact ⟨[_], _, rfl, ⟨rfl, hwf k (hk k (by simp))⟩, ih fun z hz => hk z (by simp [hz])⟩
    exact key _ fun k hk => List.mem_range.1 hk
  · rw [List.getElem?_map] at hj
    by_cases hjm : j < M
    · rw [List.getElem?_range hjm] at hj
      obtain rfl := Option.some.inj hj
      rw [Nat.zero_add]
      exact h.at_ hjm
    · rw [List.getElem?_eq_none (by simp; omega)] at hj
      cases hj
/-- What a node's walk leaves, round by round. -/
structure NdI (w : World) (base E b1 o1 n1 c1 : Nat) (q1 : Bool) (b2 o2 n2 c2 : Nat) (q2 : Bool) (v : Value) (acc : Nat → List Edt) (mk : Nat → Int) (bef : Nat → Int) (Xb k : Nat) (W : World) : Prop where
  df : ∃ v', Df W base E (some ⟨b1, o1, none⟩) n1 c1 q1 (some ⟨b2, o2, none⟩) n2 c2 q2 v' (acc k) (mk k) ∧ ∀ b, v'.ownBlock = some b → v.ownBlock = some b ∨ w.heap.size ≤ b
  tou : Tou (fun b => b = E ∨ v.ownBlock = some b ∨ b = Xb) w W
  bx : W.heap[Xb]? = some (.cells #[.int .i64 (bef k)] 3 (0, 0))
section
variable {w : World} {base E b1 o1 n1 c1 : Nat} {q1 : Bool} {b2 o2 n2 c2 : Nat} {q2 : Bool} {v : Value} {acc : Nat → List Edt} {mk : Nat → Int} {bef : Nat → Int} {Xb k : Nat} {W : World} {es : List Edt} {m : Int}
theorem NdI.blk (h : NdI w base E b1 o1 n1 c1 q1 b2 o2 n2 c2 q2 v acc mk bef Xb k W) (hd : Df w base E (some ⟨b1, o1, none⟩) n1 c1 q1 (some ⟨b2, o2, none⟩) n2 c2 q2 v es m) {j : Nat} {cs : Array Value} {t : TypeId} (hk : w.heap[j]? = some (.cells cs t (0, 0))) (h1 : 59 ≠ t) (h2 : 30 ≠ t) (h3 : j ≠ Xb) : W.heap[j]? = some (.cells cs t (0, 0)) := by
  refine (h.tou.block j (Array.getElem?_eq_some_iff.1 hk).1 fun e => ?_).trans hk
  rcases e with e | e | e
  · subst e
    rw [hd.box] at hk
    injection hk with hk
    injection hk with _ hk
    exact h1 hk
  · exact own_ne_block h2 hd.row hk e
  · exact h3 e
theorem NdI.below (h : NdI w base E b1 o1 n1 c1 q1 b2 o2 n2 c2 q2 v acc mk bef Xb k W) (hd : Df w base E (some ⟨b1, o1, none⟩) n1 c1 q1 (some ⟨b2, o2, none⟩) n2 c2 q2 v es m) (hX : base ≤ Xb) : Below base w W :=
  h.tou.below (fun b hb => by
    rcases hb with e | e | e
    · exact (hd.mine b (.inl e)).1
    · exact (hd.mine b (.inr e)).1
    · rw [e]; exact hX) (Nat.le_trans hd.lo (Nat.le_of_lt hd.lt))
/-- One round more. -/
theorem NdI.step {v' : Value} {W2 W3 : World} (h : NdI w base E b1 o1 n1 c1 q1 b2 o2 n2 c2 q2 v acc mk bef Xb k W) (ho : ∀ b, v'.ownBlock = some b → v.ownBlock = some b ∨ w.heap.size ≤ b) (hb : Below W.heap.size W W2) (hd2 : Df W2 base E (some ⟨b1, o1, none⟩) n1 c1 q1 (some ⟨b2, o2, none⟩) n2 c2 q2 v' (acc k) (mk k)) (hs : DStep W2 base E (some ⟨b1, o1, none⟩) n1 c1 q1 (some ⟨b2, o2, none⟩) n2 c2 q2 v' (acc (k + 1)) (mk (k + 1)) W3) :
    NdI w base E b1 o1 n1 c1 q1 b2 o2 n2 c2 q2 v acc mk bef Xb (k + 1) (W3.setCell ⟨Xb, 0, none⟩ (.int .i64 (bef (k + 1)))) ∧ KeepsOthers W (W3.setCell ⟨Xb, 0, none⟩ (.int .i64 (bef (k + 1)))) := by
  have hx2 := (hb.block _ (Array.getElem?_eq_some_iff.1 h.bx).1).trans h.bx
  have hx3 := DStep.blk hd2 hs hx2 (by decide) (by decide)
  have hko := DStep.keepsO hd2 hs
  obtain ⟨⟨v3, hd3, ho3⟩, ht3⟩ := hs
  have hEX : E ≠ Xb := fun e => by
    subst e
    rw [hd3.box] at hx3
    injection hx3 with hx3
    injection hx3 with _ hx3
    exact absurd hx3 (by decide)
  refine ⟨⟨⟨v3, ⟨(Below.heap_setCell _ _ _ _ hEX).trans hd3.box, Own.kept hd3.row (grown_set W3 Xb 0 _) (Or.inr (own_ne_block (by decide) hd3.row hx3)) (fun _ h => h.elim), hd3.lo⟩, fun b hb3 => ?_⟩, ?_, set_blk (i := 0) hx3 _⟩, ?_⟩
  · rcases ho3 b hb3 with e | e
    · exact ho b e
    · exact .inr (Nat.le_trans (Nat.le_trans h.tou.size hb.size) e)
  · have t1 : Tou (fun b => b = E ∨ v.ownBlock = some b ∨ b = Xb) w W2 := h.tou.trans (Tou.of_below (S := fun _ => False) hb) fun _ _ h => h.elim
    have t2 : Tou (fun b => b = E ∨ v.ownBlock = some b ∨ b = Xb) w W3 := t1.trans ht3 fun j hj hs => by
      rcases hs with e | e
      · exact .inl e
      · rcases ho j e with e | e
        · exact .inr (.inl e)
        · omega
    exact t2.trans (tou_set W3 Xb 0 _) fun j _ e => .inr (.inr e)
  · refine ⟨Nat.le_trans hb.size (Nat.le_trans hko.size (grown_set W3 Xb 0 _).size), fun j o hj hno => ?_⟩
    have h1 := hko.same j o ((hb.block j (Array.getElem?_eq_some_iff.1 hj).1).trans hj) hno
    refine (Below.heap_setCell _ _ _ _ fun e => ?_).trans h1
    have e2 : j = Xb := e
    subst e2
    rw [hx3] at h1
    obtain rfl := Option.some.inj h1
    cases hno
end
theorem ndI_own {w w1 : World} {base E b1 o1 n1 c1 : Nat} {q1 : Bool} {b2 o2 n2 c2 : Nat} {q2 : Bool} {v : Value} {acc : Nat → List Edt} {mk : Nat → Int} {bef : Nat → Int} {Xb : Nat} (hw : w.heap.size ≤ w1.heap.size) (k : Nat) : OwnFrom w1.heap.size (fun (_ : Unit) W => NdI w base E b1 o1 n1 c1 q1 b2 o2 n2 c2 q2 v acc mk bef Xb k W) := by
  rintro _ W W' row ⟨⟨v', hd, ho⟩, ht, hb⟩ hg hr
  have off : ∀ {j : Nat} {cs : Array Value} {e : TypeId}, W.heap[j]? = some (.cells cs e (0, 0)) → some j ≠ row := fun {j cs e} hj e2 => by
    obtain ⟨_, o, h2, h3⟩ := hr j e2.symm
    rw [hj] at h2
    obtain rfl := Option.some.inj h2
    cases h3
  have blk : ∀ {j : Nat} {cs : Array Value} {e : TypeId}, W.heap[j]? = some (.cells cs e (0, 0)) → W'.heap[j]? = some (.cells cs e (0, 0)) := fun {j cs e} hj => (hg.block j (Array.getElem?_eq_some_iff.1 hj).1 (off hj)).trans hj
  refine ⟨⟨v', ⟨blk hd.box, ?_, hd.lo⟩, ho⟩, ?_, blk hb⟩
  · refine Own.kept hd.row hg ?_ fun _ h => h.elim
    cases hv : v'.ownBlock with
    | none => exact .inl rfl
    | some g =>
      right
      obtain ⟨cur, h1⟩ := own_block_at hd.row hv
      exact off h1
  · refine ⟨hg.os.trans ht.os, hg.tape.trans ht.tape, hg.output.trans ht.output, Nat.le_trans ht.size hg.size, fun j hj hn => ?_⟩
    exact (hg.block j (Nat.lt_of_lt_of_le hj ht.size) fun e2 => by have := (hr j e2.symm).1; omega).trans (ht.block j hj hn)
set_option maxRecDepth 100000 in
set_option maxHeartbeats 16000000 in
theorem dnode_gen {l1 l2 : List Nd} (T1 : Tree l1) (T2 : Tree l2) (base E b1 o1 n1 c1 b2 o2 n2 c2 : Nat) (q1 q2 : Bool) (v : Value) (es : List Edt) (mm : Int) (hn1 : n1 ≤ c1) (hn2 : n2 ≤ c2) (f n m2 : Nat) (x y : Nd) (w : World) (B : Nat)
    (hx : l1[n]? = some x) (hy : l2[m2]? = some y) (hD1 : DocAt w B b1 o1 n1 l1) (hD2 : DocAt w B b2 o2 n2 l2) (hB : B ≤ base) (hs1 : n1 ≤ 1000) (hs2 : n2 ≤ 1000) (hdf : Df w base E (some ⟨b1, o1, none⟩) n1 c1 q1 (some ⟨b2, o2, none⟩) n2 c2 q2 v es mm) (hle : es.length ≤ 40000)
    (hz1 : ∀ z ∈ x.kids, ∃ p : Nat, z = (p : Int) ∧ p < l1.length ∧ upN l1 p + f = 41) (hz2 : ∀ z ∈ y.kids, ∃ p : Nat, z = (p : Int) ∧ p < l2.length) (hLM : x.kids.length ≤ y.kids.length) (hM : y.kids.length ≤ 1000) (hA1 : x.attrs.length ≤ 1000) (hA2 : y.attrs.length ≤ 1000) (hla : LastA x.attrs y.attrs) (hlb : LastA y.attrs x.attrs) (htx : y.text.size ≤ 1152921504606846976)
    (hdi : ∀ k, k < x.kids.length → Diag (Wk l1 l2 f x.kids y.kids) (dpF (Wk l1 l2 f x.kids y.kids) x.kids.length y.kids.length) k)
    (acc : Nat → List Edt) (mk bef : Nat → Int) (h0 : acc 0 = es ++ ownE (n : Int) x y) (hm0 : mk 0 = mm) (hb0 : bef 0 = -1)
    (hround : ∀ k, k < y.kids.length → (0 ≤ outF x.kids (y.kids.length - 1 - k) ∧ bef (k + 1) = outF x.kids (y.kids.length - 1 - k) ∧ ∀ W v', Below base w W → Df W base E (some ⟨b1, o1, none⟩) n1 c1 q1 (some ⟨b2, o2, none⟩) n2 c2 q2 v' (acc k) (mk k) → Calls Tryd.prog 18 #[.pointer (some ⟨E, 0, none⟩), .int .i64 (outF x.kids (y.kids.length - 1 - k)), .int .i64 (y.kids[y.kids.length - 1 - k]?.getD 0)] W fun e' W' => e' = .returned undef ∧ DStep W base E (some ⟨b1, o1, none⟩) n1 c1 q1 (some ⟨b2, o2, none⟩) n2 c2 q2 v' (acc (k + 1)) (mk (k + 1)) W') ∨
      (outF x.kids (y.kids.length - 1 - k) = -1 ∧ ∃ es', (es'.length ≤ 100000) ∧ acc (k + 1) = es' ++ [⟨5, n, bef (k + 1), bef k, ⟨#[]⟩, ⟨#[]⟩, ⟨0, ⟨#[]⟩, [], ⟨#[]⟩, 0, []⟩⟩] ∧ (Lit.int .i64 (bef (k + 1))).wf = true ∧ (Lit.int .i64 (bef k)).wf = true ∧ ∀ W v', Below base w W → Df W base E (some ⟨b1, o1, none⟩) n1 c1 q1 (some ⟨b2, o2, none⟩) n2 c2 q2 v' (acc k) (mk k) → Calls Tryd.prog 34 #[.pointer (some ⟨E, 0, none⟩), .int .i64 (y.kids[y.kids.length - 1 - k]?.getD 0)] W fun e' W' => e' = .returned (.int .i64 (bef (k + 1))) ∧ DStep W base E (some ⟨b1, o1, none⟩) n1 c1 q1 (some ⟨b2, o2, none⟩) n2 c2 q2 v' es' (mk (k + 1)) W')) :
    Calls Tryd.prog 18 #[.pointer (some ⟨E, 0, none⟩), .int .i64 (n : Int), .int .i64 (m2 : Int)] w fun e' w' => e' = .returned undef ∧ DStep w base E (some ⟨b1, o1, none⟩) n1 c1 q1 (some ⟨b2, o2, none⟩) n2 c2 q2 v (acc y.kids.length) (mk y.kids.length) w' := by
  have hBz : B ≤ w.heap.size := Nat.le_trans hB (Nat.le_trans hdf.lo (Nat.le_of_lt hdf.lt))
  obtain ⟨wa, hwa⟩ : ∃ wa, wa = w.alloc (.cells #[.pointer (some ⟨E, 0, none⟩)] 57) := ⟨_, rfl⟩
  obtain ⟨w0, hw0⟩ : ∃ w0, w0 = wa.alloc (.cells #[.int .i64 (n : Int)] 3) := ⟨_, rfl⟩
  have za : wa.heap.size = w.heap.size + 1 := by rw [hwa]; exact World.size_alloc w _
  have hb00 : Below w.heap.size w w0 := by rw [hw0, hwa]; exact balloc3 (balloc3 (Below.refl _ _) _) _
  have hx3 : w0.heap[w.heap.size]? = some (.cells #[.pointer (some ⟨E, 0, none⟩)] 57 (0, 0)) := by rw [hw0, Lib.alloc_old _ _ _ (by omega), hwa]; exact heap_alloc_new w _
  have hx4 : w0.heap[w.heap.size + 1]? = some (.cells #[.int .i64 (n : Int)] 3 (0, 0)) := by rw [hw0, ← za]; exact heap_alloc_new wa _
  have hd0 := hdf.next hb00
  have hnl := hD1.hn
  have hml := hD2.hn
  have hnlt : n < l1.length := (List.getElem?_eq_some_iff.1 hx).1
  have hmlt : m2 < l2.length := (List.getElem?_eq_some_iff.1 hy).1
  have hE1 := hD1.below hb00 hBz
  have hE2 := hD2.below hb00 hBz
  obtain ⟨Aa, na, ca, Ak, nk, ck, hnd1, p0, p1, p2, p3, p4, p5⟩ := hE1.at_ n x hx
  obtain ⟨Aa2, na2, ca2, Ak2, nk2, ck2, hnd2, d0, d1, d2, d3, d4, d5⟩ := hE2.at_ m2 y hy
  have hB0z : B ≤ w0.heap.size := Nat.le_trans hBz hb00.size
  have e0 : w0.cell? ⟨E, 0, none⟩ = some (.slice (some ⟨b1, o1, none⟩) n1 c1) := cell_blk (i := 0) hd0.box rfl
  have e2 : w0.cell? ⟨E, 2, none⟩ = some (.slice (some ⟨b2, o2, none⟩) n2 c2) := cell_blk (i := 2) hd0.box rfl
  have t3 := cell_blk (i := 0) (v := .pointer (some ⟨E, 0, none⟩)) hx3 rfl
  have t4 := cell_blk (i := 0) (v := .int .i64 (n : Int)) hx4 rfl
  have i1 : (0 : Int) ≤ (n : Int) := by omega
  have i2 : (n : Int) < (n1 : Int) := by omega
  have i3 : (0 : Int) ≤ (m2 : Int) := by omega
  have i4 : (m2 : Int) < (n2 : Int) := by omega
  have HX3 := Lib.hid hx3
  have HX4 := Lib.hid hx4
  have HS1 : Hid (∀ W, Below w0.heap.size w0 W → (fun w' : World => w'.cell? ⟨w.heap.size, 0, none⟩ = some (.pointer (some ⟨E, 0, none⟩)) ∧ w'.cell? ⟨w.heap.size + 1, 0, none⟩ = some (.int .i64 (n : Int)) ∧ w'.cell? ⟨E, 0, none⟩ = some (.slice (some ⟨b1, o1, none⟩) n1 c1) ∧ w'.cell? ⟨E, 2, none⟩ = some (.slice (some ⟨b2, o2, none⟩) n2 c2) ∧ w'.cell? ⟨b1, o1 + n * 6, none⟩ = some (.int .i64 x.kind) ∧ w'.cell? ⟨b1, o1 + n * 6 + 1, none⟩ = some (.string x.name) ∧ w'.cell? ⟨b1, o1 + n * 6 + 2, none⟩ = some (.slice Aa na ca) ∧ w'.cell? ⟨b1, o1 + n * 6 + 3, none⟩ = some (.string x.text) ∧ w'.cell? ⟨b1, o1 + n * 6 + 4, none⟩ = some (.int .i64 x.parent) ∧ w'.cell? ⟨b1, o1 + n * 6 + 5, none⟩ = some (.slice Ak nk ck) ∧ w'.cell? ⟨b2, o2 + m2 * 6, none⟩ = some (.int .i64 y.kind) ∧ w'.cell? ⟨b2, o2 + m2 * 6 + 1, none⟩ = some (.string y.name) ∧ w'.cell? ⟨b2, o2 + m2 * 6 + 2, none⟩ = some (.slice Aa2 na2 ca2) ∧ w'.cell? ⟨b2, o2 + m2 * 6 + 3, none⟩ = some (.string y.text) ∧ w'.cell? ⟨b2, o2 + m2 * 6 + 4, none⟩ = some (.int .i64 y.parent) ∧ w'.cell? ⟨b2, o2 + m2 * 6 + 5, none⟩ = some (.slice Ak2 nk2 ck2)) W) := fun W h => ⟨cell_be t3 h, cell_be t4 h, cell_be e0 h, cell_be e2 h, cell_be p0 h, cell_be p1 h, cell_be p2 h, cell_be p3 h, cell_be p4 h, cell_be p5 h, cell_be d0 h, cell_be d1 h, cell_be d2 h, cell_be d3 h, cell_be d4 h, cell_be d5 h⟩
  have HD0 := Lib.hid hd0
  have HDF := Lib.hid hdf
  have HB0 := Lib.hid hb00
  have HD1 := Lib.hid hE1
  have HD2 := Lib.hid hE2
  have HN1 := Lib.hid hnd1
  have HN2 := Lib.hid hnd2
  have HLA := Lib.hid hla
  have HLB := Lib.hid hlb
  have HBZ : Hid (B ≤ w0.heap.size) := hB0z
  have HBB : Hid (B ≤ base) := hB
  have HTX := Lib.hid htx
  have HLE := Lib.hid hle
  have HA1 := Lib.hid hA1
  have HA2 := Lib.hid hA2
  have HZ1 := Lib.hid hz1
  have HZ2 := Lib.hid hz2
  have HDI := Lib.hid hdi
  have HRD := Lib.hid hround
  have HWN : Hid ((Lit.int .i64 (n : Int)).wf = true) := WalkArith.wf_i64 (by omega)
  have HA0 := Lib.hid h0
  have HM0 := Lib.hid hm0
  have HBF0 := Lib.hid hb0
  have HNKL := Lib.hid hnd1.kids.hn
  have HNKM := Lib.hid hnd2.kids.hn
  have HKM := Lib.hid (And.intro hLM hM)
  have hnk1 : nk ≤ 1000 := by have := hnd1.kids.hn; omega
  have hnk2 : nk2 ≤ 1000 := by have := hnd2.kids.hn; omega
  have hckk := hnd1.kids.hc
  have hckk2 := hnd2.kids.hc
  clear za hb00 hx3 hx4 hd0 hdf hnl hml hnlt hmlt hE1 hE2 hD1 hD2 hnd1 hnd2 p0 p1 p2 p3 p4 p5 d0 d1 d2 d3 d4 d5 hB0z hB hBz e0 e2 t3 t4 htx hle hA1 hA2 hz1 hz2 hdi hround h0 hm0 hb0 hla hlb hLM hM hx hy
  refine (callsIn_wide (n := 9)).1 ?_
  refine callsIn_of_wp_marks Tryd.func18 rfl trivial ?_ rfl
  simp only [Tryd.ntmps18, List.size_toArray, List.length_cons, List.length_nil, Nat.reduceAdd, Nat.reduceSub, Array.replicate_succ, Array.replicate_zero, List.push_toArray, List.append_toArray, List.nil_append, List.cons_append]
  refine wpIn_wide.2 ?_
  go_upto_region 1 with fail
  rw [← hwa, ← hw0]
  clear hwa hw0
  go_cut [6, 7] from 15 to 30 (fun v u wx => TwoAt w0 [.int .i64 x.kind, .string x.name, .slice Aa na ca, .string x.text, .int .i64 x.parent, .slice Ak nk ck] [.int .i64 y.kind, .string y.name, .slice Aa2 na2 ca2, .string y.text, .int .i64 y.parent, .slice Ak2 nk2 ck2] v u wx)
  case first =>
    refine wp_still ?_
    refine wp_region_G (S := (fun w' : World => w'.cell? ⟨w.heap.size, 0, none⟩ = some (.pointer (some ⟨E, 0, none⟩)) ∧ w'.cell? ⟨w.heap.size + 1, 0, none⟩ = some (.int .i64 (n : Int)) ∧ w'.cell? ⟨E, 0, none⟩ = some (.slice (some ⟨b1, o1, none⟩) n1 c1) ∧ w'.cell? ⟨E, 2, none⟩ = some (.slice (some ⟨b2, o2, none⟩) n2 c2) ∧ w'.cell? ⟨b1, o1 + n * 6, none⟩ = some (.int .i64 x.kind) ∧ w'.cell? ⟨b1, o1 + n * 6 + 1, none⟩ = some (.string x.name) ∧ w'.cell? ⟨b1, o1 + n * 6 + 2, none⟩ = some (.slice Aa na ca) ∧ w'.cell? ⟨b1, o1 + n * 6 + 3, none⟩ = some (.string x.text) ∧ w'.cell? ⟨b1, o1 + n * 6 + 4, none⟩ = some (.int .i64 x.parent) ∧ w'.cell? ⟨b1, o1 + n * 6 + 5, none⟩ = some (.slice Ak nk ck) ∧ w'.cell? ⟨b2, o2 + m2 * 6, none⟩ = some (.int .i64 y.kind) ∧ w'.cell? ⟨b2, o2 + m2 * 6 + 1, none⟩ = some (.string y.name) ∧ w'.cell? ⟨b2, o2 + m2 * 6 + 2, none⟩ = some (.slice Aa2 na2 ca2) ∧ w'.cell? ⟨b2, o2 + m2 * 6 + 3, none⟩ = some (.string y.text) ∧ w'.cell? ⟨b2, o2 + m2 * 6 + 4, none⟩ = some (.int .i64 y.parent) ∧ w'.cell? ⟨b2, o2 + m2 * 6 + 5, none⟩ = some (.slice Ak2 nk2 ck2))) (T := []) (by kernel_rfl) ?_
    have hS : (fun w' : World => w'.cell? ⟨w.heap.size, 0, none⟩ = some (.pointer (some ⟨E, 0, none⟩)) ∧ w'.cell? ⟨w.heap.size + 1, 0, none⟩ = some (.int .i64 (n : Int)) ∧ w'.cell? ⟨E, 0, none⟩ = some (.slice (some ⟨b1, o1, none⟩) n1 c1) ∧ w'.cell? ⟨E, 2, none⟩ = some (.slice (some ⟨b2, o2, none⟩) n2 c2) ∧ w'.cell? ⟨b1, o1 + n * 6, none⟩ = some (.int .i64 x.kind) ∧ w'.cell? ⟨b1, o1 + n * 6 + 1, none⟩ = some (.string x.name) ∧ w'.cell? ⟨b1, o1 + n * 6 + 2, none⟩ = some (.slice Aa na ca) ∧ w'.cell? ⟨b1, o1 + n * 6 + 3, none⟩ = some (.string x.text) ∧ w'.cell? ⟨b1, o1 + n * 6 + 4, none⟩ = some (.int .i64 x.parent) ∧ w'.cell? ⟨b1, o1 + n * 6 + 5, none⟩ = some (.slice Ak nk ck) ∧ w'.cell? ⟨b2, o2 + m2 * 6, none⟩ = some (.int .i64 y.kind) ∧ w'.cell? ⟨b2, o2 + m2 * 6 + 1, none⟩ = some (.string y.name) ∧ w'.cell? ⟨b2, o2 + m2 * 6 + 2, none⟩ = some (.slice Aa2 na2 ca2) ∧ w'.cell? ⟨b2, o2 + m2 * 6 + 3, none⟩ = some (.string y.text) ∧ w'.cell? ⟨b2, o2 + m2 * 6 + 4, none⟩ = some (.int .i64 y.parent) ∧ w'.cell? ⟨b2, o2 + m2 * 6 + 5, none⟩ = some (.slice Ak2 nk2 ck2)) w0.drew := HS1.out _ (Below.refl _ w0).drew
    refine wpAnyG_take (i := 0) (v := ?_) rfl (by kernel_rfl) (by kernel_rfl) (by kernel_rfl) (by kernel_rfl) (fun _ _ _ h => h) hS rfl ?_ ?_
    rotate_left
    · intro w' hSw
      (try dsimp only at hSw)
      first | (go_simp; done) | (go_simp; with_reducible rfl)
    refine wpAnyG_pure (i := 1) (v := ?_) rfl (by kernel_rfl) (by kernel_rfl) (by kernel_rfl) (fun _ _ _ h => h) rfl ?_ ?_
    rotate_left
    · intro w'
      first | (go_simp; done) | (go_simp; with_reducible rfl)
    refine wpAnyG_pure (i := 2) (v := ?_) rfl (by kernel_rfl) (by kernel_rfl) (by kernel_rfl) (fun _ _ _ h => h) rfl ?_ ?_
    rotate_left
    · intro w'
      first | (go_simp; done) | (go_simp; with_reducible rfl)
    refine wpAnyG_pure (i := 3) (v := ?_) rfl (by kernel_rfl) (by kernel_rfl) (by kernel_rfl) (fun _ _ _ h => h) rfl ?_ ?_
    rotate_left
    · intro w'
      first | (go_simp; done) | (go_simp; with_reducible rfl)
    refine wpAnyG_take (i := 4) (v := ?_) rfl (by kernel_rfl) (by kernel_rfl) (by kernel_rfl) (by kernel_rfl) (fun _ _ _ h => h) hS rfl ?_ ?_
    rotate_left
    · intro w' hSw
      (try dsimp only at hSw)
      first | (go_simp; done) | (go_simp; with_reducible rfl)
    refine wpAnyG_take (i := 5) (v := ?_) rfl (by kernel_rfl) (by kernel_rfl) (by kernel_rfl) (by kernel_rfl) (fun _ _ _ h => h) hS rfl ?_ ?_
    rotate_left
    · intro w' hSw
      (try dsimp only at hSw)
      first | (go_simp; done) | (go_simp; with_reducible rfl)
    refine wpAnyG_pure (i := 6) (v := ?_) rfl (by kernel_rfl) (by kernel_rfl) (by kernel_rfl) (fun _ _ _ h => h) rfl ?_ ?_
    rotate_left
    · intro w'
      first | (go_simp; done) | (go_simp; with_reducible rfl)
    refine wpAnyG_take (i := 7) (v := ?_) rfl (by kernel_rfl) (by kernel_rfl) (by kernel_rfl) (by kernel_rfl) (fun _ _ _ h => h) hS rfl ?_ ?_
    rotate_left
    · intro w' hSw
      (try dsimp only at hSw)
      first | (go_simp; done) | (go_simp; with_reducible rfl)
    refine wpAnyG_take (i := 8) (v := ?_) rfl (by kernel_rfl) (by kernel_rfl) (by kernel_rfl) (by kernel_rfl) (fun _ _ _ h => h) hS rfl ?_ ?_
    rotate_left
    · intro w' hSw
      (try dsimp only at hSw)
      first | (go_simp; done) | (go_simp; with_reducible rfl)
    refine wpAnyG_pure (i := 9) (v := ?_) rfl (by kernel_rfl) (by kernel_rfl) (by kernel_rfl) (fun _ _ _ h => h) rfl ?_ ?_
    rotate_left
    · intro w'
      first | (go_simp; done) | (go_simp; with_reducible rfl)
    refine wpAnyG_pure (i := 10) (v := ?_) rfl (by kernel_rfl) (by kernel_rfl) (by kernel_rfl) (fun _ _ _ h => h) rfl ?_ ?_
    rotate_left
    · intro w'
      first | (go_simp; done) | (go_simp; with_reducible rfl)
    refine wpAnyG_pure (i := 11) (v := ?_) rfl (by kernel_rfl) (by kernel_rfl) (by kernel_rfl) (fun _ _ _ h => h) rfl ?_ ?_
    rotate_left
    · intro w'
      first | (go_simp; done) | (go_simp; with_reducible rfl)
    refine wpAnyG_take (i := 12) (v := ?_) rfl (by kernel_rfl) (by kernel_rfl) (by kernel_rfl) (by kernel_rfl) (fun _ _ _ h => h) hS rfl ?_ ?_
    rotate_left
    · intro w' hSw
      (try dsimp only at hSw)
      first | (go_simp; done) | (go_simp; with_reducible rfl)
    refine wpAnyG_pure (i := 13) (v := ?_) rfl (by kernel_rfl) (by kernel_rfl) (by kernel_rfl) (fun _ _ _ h => h) rfl ?_ ?_
    rotate_left
    · intro w'
      first | (go_simp; done) | (go_simp; with_reducible rfl)
    refine wpAnyG_pure (i := 14) (v := ?_) rfl (by kernel_rfl) (by kernel_rfl) (by kernel_rfl) (fun _ _ _ h => h) rfl ?_ ?_
    rotate_left
    · intro w'
      first | (go_simp; done) | (go_simp; with_reducible rfl)
    refine wpAnyG_take (i := 15) (v := ?_) rfl (by kernel_rfl) (by kernel_rfl) (by kernel_rfl) (by kernel_rfl) (fun _ _ _ h => h) hS rfl ?_ ?_
    rotate_left
    · intro w' hSw
      (try dsimp only at hSw)
      first | (go_simp; done) | (go_simp; with_reducible rfl)
    refine wpAnyG_two (i := 16) (j := 17) (by kernel_rfl) rfl rfl rfl rfl (fun K hK => ?_) (fun K hK => ?_)
    · go_simp
      refine hK.out _ _ (fun _ _ => HS1.out _ ((Below.refl _ w0).drew.alloc (Nat.le_refl _) _)) ?_
      clear hK K hS
      refine wpAnyG_one (i := 17) (by kernel_rfl) rfl rfl (fun K hK => ?_)
      go_simp
      refine hK.out _ _ (fun _ _ => HS1.out _ (((Below.refl _ w0).drew.alloc (Nat.le_refl _) _).alloc (by simp) _)) ?_
      clear hK K
      refine wpAnyG_one (i := 18) (by kernel_rfl) rfl rfl (fun K hK => ?_)
      go_simp
      refine hK.out _ _ (fun _ _ => HS1.out _ (((Below.refl _ w0).drew.alloc (Nat.le_refl _) _).alloc (by simp) _)) ?_
      clear hK K
      refine wpAnyG_one (i := 19) (by kernel_rfl) rfl rfl (fun K hK => ?_)
      go_simp
      refine hK.out _ _ (fun _ _ => HS1.out _ (((Below.refl _ w0).drew.alloc (Nat.le_refl _) _).alloc (by simp) _)) ?_
      clear hK K
      refine wpAnyG_done (by kernel_rfl) ?_ _
      go_wp2_with fail
      go_meet
      case rel => exact ⟨w0.heap.size, w0.heap.size + 1, rfl, rfl, (two_new w0 _ _ _).1, (two_new w0 _ _ _).2.1, (two_new w0 _ _ _).2.2⟩
    · go_simp
      refine hK.out _ _ (fun _ _ => HS1.out _ ((Below.refl _ w0).drew.alloc (Nat.le_refl _) _)) ?_
      clear hK K hS
      refine wpAnyG_one (i := 16) (by kernel_rfl) rfl rfl (fun K hK => ?_)
      go_simp
      refine hK.out _ _ (fun _ _ => HS1.out _ (((Below.refl _ w0).drew.alloc (Nat.le_refl _) _).alloc (by simp) _)) ?_
      clear hK K
      refine wpAnyG_one (i := 18) (by kernel_rfl) rfl rfl (fun K hK => ?_)
      go_simp
      refine hK.out _ _ (fun _ _ => HS1.out _ (((Below.refl _ w0).drew.alloc (Nat.le_refl _) _).alloc (by simp) _)) ?_
      clear hK K
      refine wpAnyG_one (i := 19) (by kernel_rfl) rfl rfl (fun K hK => ?_)
      go_simp
      refine hK.out _ _ (fun _ _ => HS1.out _ (((Below.refl _ w0).drew.alloc (Nat.le_refl _) _).alloc (by simp) _)) ?_
      clear hK K
      refine wpAnyG_done (by kernel_rfl) ?_ _
      go_wp2_with fail
      go_meet
      case rel => exact ⟨w0.heap.size + 1, w0.heap.size, rfl, rfl, (two_new w0 _ _ _).1, (two_new w0 _ _ _).2.2, (two_new w0 _ _ _).2.1⟩
  case rest =>
    obtain ⟨O1, O2, rfl, rfl, hbw, ho1, ho2⟩ := hcut
    obtain ⟨w1, rfl⟩ : ∃ w1 : World, w1 = wc := ⟨_, rfl⟩
    have hd1 := HD0.out.next hbw
    have hx3 := (hbw.block _ (Array.getElem?_eq_some_iff.1 HX3.out).1).trans HX3.out
    have hx4 := (hbw.block _ (Array.getElem?_eq_some_iff.1 HX4.out).1).trans HX4.out
    have t3 := cell_blk (i := 0) (v := .pointer (some ⟨E, 0, none⟩)) hx3 rfl
    have t4 := cell_blk (i := 0) (v := .int .i64 (n : Int)) hx4 rfl
    have a2 := cell_blk (i := 2) (v := .slice Aa na ca) ho1 rfl
    have g2 := cell_blk (i := 2) (v := .slice Aa2 na2 ca2) ho2 rfl
    have HAT := Lib.hid (dfAttrs_any w1 base E (some ⟨b1, o1, none⟩) n1 c1 q1 (some ⟨b2, o2, none⟩) n2 c2 q2 v es mm hd1 (by have := HLE.out; omega) n (by omega) Aa na ca x.attrs Aa2 na2 ca2 y.attrs B (HN1.out.attrs.below hbw HBZ.out) (HN2.out.attrs.below hbw HBZ.out) HBB.out HLA.out HLB.out (by have := HN1.out.attrs.hn; have := HA1.out; omega) (by have := HN2.out.attrs.hn; have := HA2.out; omega))
    have HDW := Lib.hid hd1
    have HW3 := Lib.hid hx3
    have HW4 := Lib.hid hx4
    have HO1 := Lib.hid ho1
    have HO2 := Lib.hid ho2
    have HBW := Lib.hid hbw
    clear hd1 hx3 hx4 ho1 ho2 hbw HS1
    go_upto_region 3 with (go_at_call 29; refine HAT.out.mono ?_; rintro e' w2 ⟨rfl, hs2⟩)
    have b1' := DStep.blk HDW.out hs2 HO1.out (by decide) (by decide)
    have b2' := DStep.blk HDW.out hs2 HO2.out (by decide) (by decide)
    have b3' := DStep.blk HDW.out hs2 HW3.out (by decide) (by decide)
    have b4' := DStep.blk HDW.out hs2 HW4.out (by decide) (by decide)
    have a3 := cell_blk (i := 3) (v := .string x.text) b1' rfl
    have g3 := cell_blk (i := 3) (v := .string y.text) b2' rfl
    have u3 := cell_blk (i := 0) (v := .pointer (some ⟨E, 0, none⟩)) b3' rfl
    have u4 := cell_blk (i := 0) (v := .int .i64 (n : Int)) b4' rfl
    have HS2 := Lib.hid hs2
    clear b1' b2' b3' b4' hs2 t3 t4 a2 g2 HAT
    go_upto_if 42 with fail
    go_cut [] from 42 to 49 (fun wx => DStep w1 base E (some ⟨b1, o1, none⟩) n1 c1 q1 (some ⟨b2, o2, none⟩) n2 c2 q2 v (acc 0) mm wx)
    case first =>
      by_cases ht : x.text = y.text
      · have kt := beq_str ht
        have kt2 : (x.text.toList != y.text.toList) = false := by rw [bne, kt]; rfl
        first | rw [kt2] | rw [kt]
        have HOW : Hid (acc 0 = es ++ attrsE2 (n : Int) x.attrs y.attrs) := by
          show acc 0 = _
          rw [HA0.out]
          unfold ownE
          rw [if_pos ht, List.append_nil]
        clear ht
        go_wp2_with fail
        go_meet
        case rel => rw [HOW.out]; exact HS2.out
      · have kt := bne_str ht
        have kt2 : (x.text.toList != y.text.toList) = true := by rw [bne, kt]; rfl
        first | rw [kt2] | rw [kt]
        have HOW : Hid (acc 0 = (es ++ attrsE2 (n : Int) x.attrs y.attrs) ++ [textE n y.text]) := by
          show acc 0 = _
          rw [HA0.out]
          unfold ownE
          rw [if_neg ht, List.append_assoc]
        clear ht
        obtain ⟨⟨v2, hd2, hv2⟩, ht2⟩ := HS2.out
        have hal : (attrsE2 (n : Int) x.attrs y.attrs).length ≤ 2000 := by
          unfold attrsE2
          rw [List.length_append, List.length_map, List.length_map]
          have k1 := List.length_filter_le (fun a => !hasA (stayA x.attrs y.attrs) a.1) x.attrs
          have k2 := List.length_filter_le (fun a => !inA (stayA x.attrs y.attrs) a) y.attrs
          have := HA1.out
          have := HA2.out
          omega
        have HPU := Lib.hid (show Calls Tryd.prog 30 #[.pointer (some ⟨E, 0, none⟩), .agg #[.int .i64 3, .int .i64 (n : Int), .int .i64 0, .int .i64 0, .string ⟨#[]⟩, .string y.text, .int .i64 0, .string ⟨#[]⟩, .slice none 0 0, .string ⟨#[]⟩, .int .i64 0, .slice none 0 0]] w2 _ from push_any w2 base E (some ⟨b1, o1, none⟩) n1 c1 q1 (some ⟨b2, o2, none⟩) n2 c2 q2 v2 _ mm (textE n y.text) hd2 ⟨rfl, rfl, HWN.out, rfl, rfl, Nat.zero_le _, HTX.out⟩ (by rw [List.length_append]; have := HLE.out; omega))
        have HV2 := Lib.hid hv2
        have HT2 := Lib.hid ht2
        clear hd2 hv2 ht2 hal
        go_wp2_with (go_at_call 30; refine HPU.out.mono ?_; rintro e' w3 ⟨rfl, hs3⟩)
        go_meet
        case rel => rw [HOW.out]; exact DStep.go HV2.out HT2.out hs3
    case rest =>
      obtain ⟨wt, rfl⟩ : ∃ wt : World, wt = wc := ⟨_, rfl⟩
      have HST := Lib.hid hcut
      obtain ⟨⟨v3, hd3, hv3⟩, ht3⟩ := hcut
      have hbb : Below base w0 wt := (HBW.out.mono (Nat.le_trans HD0.out.lo (Nat.le_of_lt HD0.out.lt))).trans (HST.out.below HDW.out)
      have b1' := DStep.blk HDW.out HST.out HO1.out (by decide) (by decide)
      have b2' := DStep.blk HDW.out HST.out HO2.out (by decide) (by decide)
      have b3' := DStep.blk HDW.out HST.out HW3.out (by decide) (by decide)
      have b4' := DStep.blk HDW.out HST.out HW4.out (by decide) (by decide)
      have hwB : B ≤ wt.heap.size := Nat.le_trans HBZ.out hbb.size
      have HPA := Lib.hid (pairs_any T1 T2 E b1 o1 n1 c1 b2 o2 n2 c2 q1 q2 v3 mm hn1 hn2 f Ak nk ck x.kids Ak2 nk2 ck2 y.kids wt B (HD1.out.below hbb HBB.out) (HD2.out.below hbb HBB.out) hwB hs1 hs2 hd3.box (HN1.out.kids.below hbb HBB.out) (HN2.out.kids.below hbb HBB.out) HZ1.out HZ2.out hnk1 hnk2 (by rw [HNKL.out, HNKM.out]; exact HKM.out.1) (by rw [show nk = x.kids.length from HNKL.out, show nk2 = y.kids.length from HNKM.out]; exact HDI.out))
      have u3 := cell_blk (i := 0) (v := .pointer (some ⟨E, 0, none⟩)) b3' rfl
      have a5 := cell_blk (i := 5) (v := .slice Ak nk ck) b1' rfl
      have g5 := cell_blk (i := 5) (v := .slice Ak2 nk2 ck2) b2' rfl
      have HD3 := Lib.hid hd3
      have HV3 := Lib.hid hv3
      have HT3 := Lib.hid ht3
      have HBT := Lib.hid hbb
      have HC1 := Lib.hid b1'
      have HC2 := Lib.hid b2'
      have HC3 := Lib.hid b3'
      have HC4 := Lib.hid b4'
      clear hd3 hv3 ht3 hbb b1' b2' b3' b4' hwB u4 a3 g3
      go_upto_region 6 with (go_at_call 31; refine HPA.out.mono ?_; rintro e' w5 ⟨g, rfl, hb5, hg5, hr5⟩)
      obtain ⟨w6, hw6⟩ : ∃ w6, w6 = w5.alloc (.cells #[.slice (some ⟨g, 0, none⟩) nk2 nk2] 26) := ⟨_, rfl⟩
      have hb56 : Below w5.heap.size w5 w6 := by rw [hw6]; exact balloc3 (Below.refl _ _) _
      have hx8 : w6.heap[w5.heap.size]? = some (.cells #[.slice (some ⟨g, 0, none⟩) nk2 nk2] 26 (0, 0)) := by rw [hw6]; exact heap_alloc_new w5 _
      have hb6 : Below wt.heap.size wt w6 := bst hb5 hb56
      have hr6 := hr5.next hb56
      have hrs := row_sl hr6 hg5 (by omega) fun k _ => by
        unfold outF
        cases hz : x.kids[k]? with
        | none => rfl
        | some z =>
          obtain ⟨p, rfl, hp, _⟩ := HZ1.out z (List.mem_of_getElem? hz)
          have := T1.small
          exact WalkArith.wf_i64 (by simp only [Option.getD_some]; omega)
      have c1' := (hb6.block _ (Array.getElem?_eq_some_iff.1 HC1.out).1).trans HC1.out
      have c2'' := (hb6.block _ (Array.getElem?_eq_some_iff.1 HC2.out).1).trans HC2.out
      have c3' := (hb6.block _ (Array.getElem?_eq_some_iff.1 HC3.out).1).trans HC3.out
      have c4' := (hb6.block _ (Array.getElem?_eq_some_iff.1 HC4.out).1).trans HC4.out
      have HD6 := Lib.hid (HD3.out.next hb6)
      have HB6 := Lib.hid hb6
      have HRS := Lib.hid hrs
      have HR6 := Lib.hid hr6
      have HE1 := Lib.hid c1'
      have HE2 := Lib.hid c2''
      have HE3 := Lib.hid c3'
      have HE4 := Lib.hid c4'
      have HX8 := Lib.hid hx8
      have HKS := Lib.hid ((HN1.out.kids.below HBT.out HBB.out).below hb6 (Nat.le_trans HBZ.out HBT.out.size))
      have a5 := cell_blk (i := 5) (v := .slice Ak nk ck) c1' rfl
      have x8 := cell_blk (i := 0) (v := .slice (some ⟨g, 0, none⟩) nk2 nk2) hx8 rfl
      rw [← hw6]
      have HW6 := Lib.hid hw6
      clear hw6 hb56 hx8 hb6 hr6 hrs c1' c2'' c3' c4' hb5 hr5 u3 g5
      obtain ⟨X8, hX8⟩ : ∃ X8, w5.heap.size = X8 := ⟨_, rfl⟩
      rw [hX8] at HX8 x8 ⊢
      clear hX8 HW6
      go_upto_region 7 with fail
      go_loopw [58] (fun s wr => ∃ j : Nat, j ≤ nk ∧ s = .int .i64 (j : Int) ∧ wr = w6) (fun s _ => nk - (intOf s).toNat)
      case atStart => exact ⟨0, Nat.zero_le _, rfl, rfl⟩
      case round =>
        obtain ⟨j, hj, rfl, rfl⟩ := hrel
        by_cases hlt : j < nk
        · obtain ⟨z, hz⟩ : ∃ z, x.kids[j]? = some z := get_some (by have := HNKL.out; omega)
          obtain ⟨bk, ok, rfl, _, ck0, _⟩ := HKS.out.int hz
          have hct : ((List.range nk2).map (outF x.kids)).contains z = true := by
            rw [List.contains_iff_mem, List.mem_map]
            exact ⟨j, List.mem_range.2 (by have := HKM.out.1; have := HNKL.out; have := HNKM.out; omega), by unfold outF; rw [hz]; rfl⟩
          have HCN := Lib.hid (hasInt_any (some ⟨g, 0, none⟩) nk2 nk2 _ z wr _ HRS.out)
          rw [hct] at HCN
          have j1 : (0 : Int) ≤ (j : Int) := by omega
          have j2 : (j : Int) < (nk : Int) := by omega
          clear hz hct
          go_wp2_with (go_at_call 32; refine HCN.out.mono ?_; rintro e' w7 ⟨rfl, rfl⟩)
          go_roundw
          case rel => exact ⟨j + 1, by omega, by go_num, by first | trivial | rfl⟩
          case measure => simp [intOf]; omega
        · have hjn : j = nk := by omega
          have hge : ¬ (j : Int) < (nk : Int) := by omega
          have g5 := cell_blk (i := 5) (v := .slice Ak2 nk2 ck2) HE2.out rfl
          obtain ⟨w7, hw7⟩ : ∃ w7, w7 = wr.alloc (.cells #[.int .i64 (-1)] 3) := ⟨_, rfl⟩
          obtain ⟨w8, hw8⟩ : ∃ w8, w8 = w7.alloc (.cells #[.slice Ak2 nk2 ck2] 26) := ⟨_, rfl⟩
          have hb7 : Below wr.heap.size wr w7 := by rw [hw7]; exact balloc3 (Below.refl _ _) _
          have hb78 : Below w7.heap.size w7 w8 := by rw [hw8]; exact balloc3 (Below.refl _ _) _
          have hx7 : w7.heap[wr.heap.size]? = some (.cells #[.int .i64 (-1)] 3 (0, 0)) := by rw [hw7]; exact heap_alloc_new wr _
          have hx88 : w8.heap[w7.heap.size]? = some (.cells #[.slice Ak2 nk2 ck2] 26 (0, 0)) := by rw [hw8]; exact heap_alloc_new w7 _
          have g57 := cell_be g5 hb7
          have HBK := Lib.hid (backI_any Ak2 nk2 ck2 w7)
          have HB8 := Lib.hid (bst hb7 hb78)
          have HXB := Lib.hid ((hb78.block _ (Array.getElem?_eq_some_iff.1 hx7).1).trans hx7)
          have HXC := Lib.hid hx88
          clear hb7 hb78 hx7 hx88 hjn hlt hj
          go_upto_region 13 with fail
          rw [← hw7]
          clear hw7 g5
          go_wp2_with (go_at_call 33; refine HBK.out.mono ?_; rintro e' w9 ⟨rfl, rfl⟩; rw [← hw8])
          try rw [← hw8]
          clear HBK g57 hw8
          obtain ⟨Xb, hXb⟩ : ∃ Xb, wr.heap.size = Xb := ⟨_, rfl⟩
          have HXBL := Lib.hid hXb
          rw [hXb] at HXB ⊢
          obtain ⟨Xc, hXc⟩ : ∃ Xc, w7.heap.size = Xc := ⟨_, rfl⟩
          rw [hXc] at HXC ⊢
          clear hXb hXc
          have HD8 := Lib.hid (HD6.out.next HB8.out)
          have HI0 : Hid (NdI w8 base E b1 o1 n1 c1 q1 b2 o2 n2 c2 q2 v3 acc mk bef Xb 0 w8) := ⟨⟨v3, by rw [HM0.out]; exact HD8.out, fun _ h => .inl h⟩, Tou.refl _ _, by rw [HBF0.out]; exact HXB.out⟩
          have HB08 : Hid (Below base w0 w8) := HBT.out.trans ((bst HB6.out HB8.out).mono (Nat.le_trans HD3.out.lo (Nat.le_of_lt HD3.out.lt)))
          have HB0w : Hid (Below base w w0) := HB0.out.mono (Nat.le_trans HDF.out.lo (Nat.le_of_lt HDF.out.lt))
          have HX88 := Lib.hid ((HB8.out.block _ (Array.getElem?_eq_some_iff.1 HX8.out).1).trans HX8.out)
          have HR88 := Lib.hid ((HB8.out.block _ HR6.out.lt).trans HR6.out)
          have HE38 := Lib.hid ((HB8.out.block _ (Array.getElem?_eq_some_iff.1 HE3.out).1).trans HE3.out)
          have HE48 := Lib.hid ((HB8.out.block _ (Array.getElem?_eq_some_iff.1 HE4.out).1).trans HE4.out)
          have HXNE : Hid (X8 ≠ Xb ∧ Xc ≠ Xb ∧ base ≤ Xb ∧ g ≠ Xb ∧ w.heap.size ≠ Xb ∧ w.heap.size + 1 ≠ Xb) := by
            have h1 := (Array.getElem?_eq_some_iff.1 HX8.out).1
            have h2 := HR6.out.lt
            have h3 := (Array.getElem?_eq_some_iff.1 HE3.out).1
            have h4 := (Array.getElem?_eq_some_iff.1 HE4.out).1
            have h5 := HXBL.out
            have h6 := HD6.out.lo
            have h7 := HD6.out.lt
            refine ⟨by omega, fun e => ?_, by omega, by omega, by omega, by omega⟩
            have h8 := HXC.out
            rw [e, HXB.out] at h8
            injection h8 with h8
            injection h8 with _ h8
            exact absurd h8 (by decide)
          refine wpIn_wide.1 (wpIn_rounds2 (F := Fence.wide) (n := 9) rfl (by decide) (gf := 56) (lb := #[.pointer (some ⟨Xc, 0, none⟩)]) rfl trivial (enters_of Tryd.func56 (by kernel_rfl) rfl)
            nk2 (fun k => #[.int .i64 ((nk2 - 1 - k : Nat) : Int), .int .i64 (y.kids[nk2 - 1 - k]?.getD 0)]) (fun _ => rfl) (NdI w8 base E b1 o1 n1 c1 q1 b2 o2 n2 c2 q2 v3 acc mk bef Xb)
            12 13 (fun k => .int .i64 ((nk2 - 1 - k : Nat) : Int)) (fun k => .int .i64 (y.kids[nk2 - 1 - k]?.getD 0))
            (ndI_own (Nat.le_refl _)) HI0.out ?hseq ?assign ?body ?done)
          case assign =>
            intro lp k W K hk hI hK
            have HI := Lib.hid hI
            have HK := Lib.hid hK
            clear hI hK
            gi_wp2
            refine HK.out _ _ (KeepsOthers.refl _) ⟨HI.out, ?_⟩
            first | (go_simp; done) | (simp; done) | kernel_rfl
          case hseq =>
            intro lp J W hJI hY h0
            refine backI1_in 8 (by decide) lp Xc Ak2 nk2 ck2 (by omega) (fun i => .int .i64 (y.kids[i]?.getD 0)) J (fun k W hJ => ?_) (fun k i W1 hk hJ => ?_) W h0
            · have hI := hJI k W hJ
              refine ⟨cell_blk (i := 0) (hI.blk HD8.out HXC.out (by decide) (by decide) HXNE.out.2.1) rfl, fun i hi => ?_⟩
              obtain ⟨z, hz⟩ : ∃ z, y.kids[i]? = some z := get_some (by have := HNKM.out; omega)
              obtain ⟨b, o, e, _, c0, _⟩ := (HN2.out.kids.below (HB08.out.trans (hI.below HD8.out HXNE.out.2.2.1)) HBB.out).int hz
              exact ⟨b, o, z, e, by rw [hz]; rfl, c0⟩
            · have h1 := hY k W1 (by omega) hJ
              rw [show nk2 - 1 - k = i from by omega] at h1
              exact h1
          case body =>
            rintro lp k a' W hk ⟨hI, rfl⟩
            have hrd := HRD.out k (by rw [← HNKM.out]; exact hk)
            rw [← show nk2 = y.kids.length from HNKM.out] at hrd
            obtain ⟨i, hi⟩ : ∃ i, nk2 - 1 - k = i := ⟨_, rfl⟩
            rw [hi] at hrd ⊢
            have hil : i < nk2 := by omega
            have hX8 := hI.blk HD8.out HX88.out (by decide) (by decide) HXNE.out.1
            have hG8 := hI.blk HD8.out HR88.out (by decide) (by decide) HXNE.out.2.2.2.1
            have hE3 := hI.blk HD8.out HE38.out (by decide) (by decide) HXNE.out.2.2.2.2.1
            have hE4 := hI.blk HD8.out HE48.out (by decide) (by decide) HXNE.out.2.2.2.2.2
            have x8 := cell_blk (i := 0) (v := .slice (some ⟨g, 0, none⟩) nk2 nk2) hX8 rfl
            have r8 := RowF.at_ (w := W) (g := g) (n := nk2) (e := 3) (F := fun k => .int .i64 (outF x.kids k)) hG8 hil
            have e3 := cell_blk (i := 0) (v := .pointer (some ⟨E, 0, none⟩)) hE3 rfl
            have e4 := cell_blk (i := 0) (v := .int .i64 (n : Int)) hE4 rfl
            have xb := cell_blk (i := 0) (v := .int .i64 (bef k)) hI.bx rfl
            have i1' : (0 : Int) ≤ (i : Int) := by omega
            have i2' : (i : Int) < (nk2 : Int) := by omega
            have HI := Lib.hid hI
            have hbW : Below base w W := (HB0w.out.trans HB08.out).trans (hI.below HD8.out HXNE.out.2.2.1)
            obtain ⟨⟨v', hd', ho'⟩, _, _⟩ := hI
            have HDK := Lib.hid hd'
            have HOK := Lib.hid ho'
            have HBWK := Lib.hid hbW
            obtain ⟨zo, hzo⟩ : ∃ zo, outF x.kids i = zo := ⟨_, rfl⟩
            rw [hzo] at hrd r8
            have HZO := Lib.hid hzo
            have HGW := Lib.hid hG8
            have hI' := HI.out.bx
            have HE4W := Lib.hid hE4
            have HE3W := Lib.hid hE3
            clear hE3 hE4 hd' ho' hbW hzo hG8 hi
            rcases hrd with ⟨hpos, hbef, hcall⟩ | ⟨hneg, es', hle', hacc, hwf1, hwf2, hcall⟩
            · have HBEF := Lib.hid hbef
              have HCA := Lib.hid (hcall W.drew v' HBWK.out.drew (HDK.out.next (Below.refl _ W).drew))
              clear hcall hbef
              gi_wp2
              have hmix : Tryd.prog.follows .mixedOrders = true := by kernel_rfl
              have hdep : 1 ≤ 9 - 1 - 1 := by decide
              have HW8 := Lib.hid hX8
              have HWB := Lib.hid hI'
              gi_cut [] from 200 (fun wx => DStep W.drew base E (some ⟨b1, o1, none⟩) n1 c1 q1 (some ⟨b2, o2, none⟩) n2 c2 q2 v' (acc (k + 1)) (mk (k + 1)) wx)
              case first =>
                gi_region_with_o (refine ⟨trivial, CallsIn.inRound lp (callsIn_wide.2 (HCA.out.mono ?_))⟩; rintro e' W3 ⟨rfl, hs3⟩)
                all_goals
                  first
                    | (gi_wp2; gi_meet; exact hs3)
                    | (gi_wp2; go_meet; exact hs3)
                    | (simp only [Exit.then]; apply_assumption; refine Met.intro ?_; apply_assumption; (repeat apply Exists.intro); refine ⟨?rel, rfl⟩; exact hs3)
              case rest =>
                obtain ⟨W3, rfl⟩ : ∃ W3 : World, W3 = wc := ⟨_, rfl⟩
                have hs3 := hcut
                have hdr : Below W.heap.size W W.drew := (Below.refl _ W).drew
                have hd2 := HDK.out.next hdr
                have hst := NdI.step HI.out HOK.out hdr hd2 hs3
                rw [show bef (k + 1) = zo from HBEF.out] at hst
                have z8 := cell_blk (i := 0) (v := .slice (some ⟨g, 0, none⟩) nk2 nk2) (DStep.blk hd2 hs3 HW8.out (by decide) (by decide)) rfl
                have zr := RowF.at_ (w := W3) (g := g) (n := nk2) (e := 3) (F := fun k => .int .i64 (outF x.kids k)) (DStep.blk hd2 hs3 HGW.out (by decide) (by decide)) hil
                rw [show outF x.kids i = zo from HZO.out] at zr
                have zb := DStep.blk hd2 hs3 HWB.out (by decide) (by decide)
                have zb0 := cell_blk (i := 0) (v := .int .i64 (bef k)) zb rfl
                have zb1 := free_blk (i := 0) zb
                have HST := Lib.hid hst
                clear hcut hs3 hdr hd2 hst zb x8 r8 e3 e4 xb
                gi_wp2
                exact ⟨HST.out.2, HST.out.1⟩
            · have HACC := Lib.hid hacc
              have HLE2 := Lib.hid hle'
              have HWF1 := Lib.hid hwf1
              have HWF2 := Lib.hid hwf2
              have HMA := Lib.hid (hcall W v' HBWK.out HDK.out)
              have HW8 := Lib.hid hX8
              have HWB := Lib.hid hI'
              have hng : ¬ (0 : Int) ≤ zo := by omega
              clear hacc hle' hwf1 hwf2 hcall
              gi_wp2
              refine ⟨trivial, CallsIn.inRound lp (callsIn_wide.2 (HMA.out.mono ?_))⟩
              rintro e' W2 ⟨rfl, hs2⟩
              have z3 := cell_blk (i := 0) (v := .pointer (some ⟨E, 0, none⟩)) (DStep.blk HDK.out hs2 HE3W.out (by decide) (by decide)) rfl
              have z4 := cell_blk (i := 0) (v := .int .i64 (n : Int)) (DStep.blk HDK.out hs2 HE4W.out (by decide) (by decide)) rfl
              have zbk := DStep.blk HDK.out hs2 HWB.out (by decide) (by decide)
              have zb := cell_blk (i := 0) (v := .int .i64 (bef k)) zbk rfl
              obtain ⟨⟨v2, hd2, ho2⟩, ht2⟩ := hs2
              have HPU := Lib.hid (show Calls Tryd.prog 30 #[.pointer (some ⟨E, 0, none⟩), .agg #[.int .i64 5, .int .i64 (n : Int), .int .i64 (bef (k + 1)), .int .i64 (bef k), .string ⟨#[]⟩, .string ⟨#[]⟩, .int .i64 0, .string ⟨#[]⟩, .slice none 0 0, .string ⟨#[]⟩, .int .i64 0, .slice none 0 0]] W2 _ from push_any W2 base E (some ⟨b1, o1, none⟩) n1 c1 q1 (some ⟨b2, o2, none⟩) n2 c2 q2 v2 es' (mk (k + 1)) ⟨5, n, bef (k + 1), bef k, ⟨#[]⟩, ⟨#[]⟩, ⟨0, ⟨#[]⟩, [], ⟨#[]⟩, 0, []⟩⟩ hd2 ⟨rfl, rfl, HWN.out, HWF1.out, HWF2.out, Nat.zero_le _, Nat.zero_le _⟩ HLE2.out)
              have HD2 := Lib.hid hd2
              have HO2 := Lib.hid ho2
              have HT2 := Lib.hid ht2
              have HZB := Lib.hid zbk
              clear hd2 ho2 ht2 zbk x8 r8 e3 e4 xb HMA
              gi_wp2
              refine ⟨trivial, CallsIn.inRound lp (callsIn_wide.2 (HPU.out.mono ?_))⟩
              rintro e' W3 ⟨rfl, hs3⟩
              have hsA : DStep W base E (some ⟨b1, o1, none⟩) n1 c1 q1 (some ⟨b2, o2, none⟩) n2 c2 q2 v' (acc (k + 1)) (mk (k + 1)) W3 := by
                rw [HACC.out]
                exact DStep.go HO2.out HT2.out hs3
              have hst := NdI.step HI.out HOK.out (Below.refl _ W) HDK.out hsA
              have zbk := DStep.blk HD2.out hs3 HZB.out (by decide) (by decide)
              have zb0 := cell_blk (i := 0) (v := .int .i64 (bef k)) zbk rfl
              have zb1 := free_blk (i := 0) zbk
              have HST := Lib.hid hst
              clear hs3 hsA hst zbk z3 z4 zb HPU
              gi_wp2
              exact ⟨HST.out.2, HST.out.1⟩
          case done =>
            intro D W hD hI hdef
            obtain ⟨⟨vf, hdf, hof⟩, htf, _⟩ := hI
            have hDl := (Array.getElem?_eq_some_iff.1 hdef).1
            obtain ⟨WF, hWF⟩ : ∃ WF, WF = W.putObj D (.deferred none) := ⟨_, rfl⟩
            have hoth : ∀ j, j ≠ D → WF.heap[j]? = W.heap[j]? := fun j hj => by rw [hWF]; exact World.putObj_heap_other hj
            have hgf : W.grownBy WF (some D) := by rw [hWF]; exact grownBy_putObj' W D (.deferred none)
            have hED : E ≠ D := fun e => by
              subst e
              rw [hdf.box] at hdef
              cases hdef
            have hrowF : OwnF tEdt WF base 30 vf (acc nk2).length (acc nk2) := by
              refine Own.kept hdf.row hgf ?_ fun _ h => h.elim
              cases hv : vf.ownBlock with
              | none => exact .inl rfl
              | some g0 =>
                right
                intro e
                obtain ⟨cur, h1⟩ := own_block_at hdf.row hv
                injection e with e
                subst e
                rw [hdef] at h1
                cases h1
            have hfin : DStep w base E (some ⟨b1, o1, none⟩) n1 c1 q1 (some ⟨b2, o2, none⟩) n2 c2 q2 v (acc nk2) (mk nk2) WF := by
              have hsz01 : w.heap.size ≤ w1.heap.size := Nat.le_trans HB0.out.size HBW.out.size
              have hszt : w1.heap.size ≤ wt.heap.size := HT3.out.size
              have hsz8 : wt.heap.size ≤ w8.heap.size := (bst HB6.out HB8.out).size
              refine ⟨⟨vf, ⟨(hoth E hED).trans hdf.box, hrowF, hdf.lo⟩, fun b hb => ?_⟩, ?_⟩
              · rcases hof b hb with e | e
                · rcases HV3.out b e with e | e
                  · exact .inl e
                  · exact .inr (by omega)
                · exact .inr (by omega)
              · have hXb : w.heap.size ≤ Xb := by have h1 := HXBL.out; have h2 := HB6.out.size; omega
                have t1 : Tou (fun b => b = E ∨ v.ownBlock = some b) w w1 := Tou.of_below (HB0.out.trans (HBW.out.mono HB0.out.size))
                have t2 := t1.trans HT3.out fun j _ h => h
                have t3 := t2.trans (Tou.of_below (S := fun _ => False) (bst HB6.out HB8.out)) fun _ _ h => h.elim
                have t4 := t3.trans htf fun j hj hs => by
                  rcases hs with e | e | e
                  · exact .inl e
                  · rcases HV3.out j e with e | e
                    · exact .inr e
                    · omega
                  · omega
                exact t4.trans (Tou.of_grown hgf) fun j hj e => by
                  injection e with e
                  omega
            rw [show nk2 = y.kids.length from HNKM.out] at hfin
            refine ⟨by simp, .inl ⟨_, _, rfl, run_takeDeferred hdef, ?_⟩⟩
            rw [← hWF]
            exact ⟨undef, results_none rfl _ _ _, rfl, hfin⟩
end Go.Proofs.YtomleengbnfikaaDoor
