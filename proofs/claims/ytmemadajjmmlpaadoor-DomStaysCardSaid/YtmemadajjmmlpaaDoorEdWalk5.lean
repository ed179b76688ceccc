/-
The walks of package dom's editor: make.
-/
import Derived.Test.YtmemadajjmmlpaaDoorEdWalk4
import Derived.Test.YtmemadajjmmlpaaDoorRegionG
namespace Go.Proofs.YtmemadajjmmlpaaDoor
open Go.RowKit Go.Cl
attribute [local go_sem ↓] Go.wp_at_zero Go.wp_at_succ

section
variable {w w1 : World} {E g c base : Nat} {l : List Nd} {q : Bool} {made : Int} {ps : List (Value × Value)}
theorem Parts.grown {x : Nd} {p : Value × Value} {v : Value} {n : Nat} {xs : List (List Value)} (hP : Parts w base x p) (hrow : OwnF tN6 w base 35 v n xs) (hg : w.grownBy w1 v.ownBlock) : Parts w1 base x p :=
  ⟨ownF_kept hP.attrs hg (own_ne (by decide) hP.attrs hrow), ownF_kept hP.kids hg (own_ne (by decide) hP.kids hrow), hP.ok⟩
/-- Rows of unlike blocks. -/
def Apart (p q : Value × Value) : Prop := (p.1.ownBlock = none ∨ p.1.ownBlock ≠ q.1.ownBlock) ∧ (p.2.ownBlock = none ∨ p.2.ownBlock ≠ q.2.ownBlock)
/-- A node more. -/
theorem Ed.app {A v' : Value} {y : Nd} {p : Value × Value} (h : Ed w base A l ps) (hP : Parts w base y p) (hap : ∀ (i : Nat) q, ps[i]? = some q → Apart q p ∧ Apart p q) (hl : l.length < 1000) (hg : w.grownBy w1 A.ownBlock) (hrow : OwnF tN6 w1 base 35 v' (l.length + 1) (List.zipWith ndRow l ps ++ [ndRow y p])) :
    Ed w1 base v' (l ++ [y]) (ps ++ [p]) := by
  have hlen := h.len
  have key : ∀ (i : Nat) q, (ps ++ [p])[i]? = some q → (i < l.length ∧ ps[i]? = some q) ∨ (i = l.length ∧ q = p) := fun i q hq => by
    by_cases hi : i < ps.length
    · rw [List.getElem?_append_left hi] at hq
      exact Or.inl ⟨by omega, hq⟩
    · have := (List.getElem?_eq_some_iff.1 hq).1
      rw [List.length_append, List.length_singleton] at this
      have e : i = ps.length := by omega
      subst e
      rw [app_last] at hq
      exact Or.inr ⟨by omega, (Option.some.inj hq).symm⟩
  refine ⟨by simp [hlen], by rw [List.length_append, List.length_singleton]; omega, ?_, fun i x q hx hq => ?_, fun i j a b ha hb hij => ?_⟩
  · rw [List.zipWith_append hlen.symm, List.length_append]
    exact hrow
  · rcases key i q hq with ⟨hi, hq⟩ | ⟨rfl, rfl⟩
    · rw [List.getElem?_append_left hi] at hx
      exact (h.parts i x q hx hq).grown h.row hg
    · rw [app_last] at hx
      obtain rfl := Option.some.inj hx
      exact hP.grown h.row hg
  · rcases key i a ha with ⟨hi, ha2⟩ | ⟨hi, ea⟩
    · rcases key j b hb with ⟨hj, hb2⟩ | ⟨hj, eb⟩
      · exact h.apart i j a b ha2 hb2 hij
      · rw [eb]
        exact (hap i a ha2).1
    · rcases key j b hb with ⟨hj, hb2⟩ | ⟨hj, eb⟩
      · rw [ea]
        exact (hap j b hb2).2
      · omega
/-- What lies elsewhere turns. -/
theorem Ed.other {A : Value} {k : Nat} {cs : Array Value} {e' : TypeId} {fr : Nat × Nat} (h : Ed w base A l ps) (hk : w.heap[k]? = some (.cells cs e' fr)) (h1 : 35 ≠ e') (h2 : 91 ≠ e') (h3 : 3 ≠ e') (hg : w.grownBy w1 (some k)) : Ed w1 base A l ps :=
  ⟨h.len, h.few, ownF_kept h.row hg (Or.inr (own_ne_block h1 h.row hk)), fun i x p hx hp =>
    have hP := h.parts i x p hx hp
    ⟨ownF_kept hP.attrs hg (Or.inr (own_ne_block h2 hP.attrs hk)), ownF_kept hP.kids hg (Or.inr (own_ne_block h3 hP.kids hk)), hP.ok⟩, h.apart⟩
theorem EdAt.made_ (h : EdAt w E g c base l q made ps) (k : Int) : EdAt (w.setCell ⟨E, 2, none⟩ (.int .i64 k)) E g c base l q k ps :=
  ⟨by rw [set_blk h.box]; rfl, h.ed.other h.box (by decide) (by decide) (by decide) (grown_set w E 2 _), h.le, h.pos, h.cap⟩
theorem elemN6 : ElemOf Tryd.prog 22 35 tN6.size 96 := elemNd
/-- A node is appended, and the slice stored. -/
theorem EdAt.app (h : EdAt w E g c base l q made ps) {y : Nd} {A' : Option Addr} {c' kb : Nat} (hl : l.length < 1000) (hy : EdOk y) (hk : y.kids = []) (ho : OwnF tDA w base 91 (.slice A' y.attrs.length c') y.attrs.length y.attrs) (hfr : ∀ (i : Nat) q b, ps[i]? = some q → q.1.ownBlock = some b → (Value.slice A' y.attrs.length c').ownBlock ≠ some b)
    (hcell : ∀ (j : Nat) u, (ndRow y (.slice A' y.attrs.length c', .slice none 0 0))[j]? = some u → w.cell? ⟨kb, 0 + j, none⟩ = some u) :
    ∃ g' c2 w5, (Builtin.append_ #[22, 22] 22 #[.slice (some ⟨g, 0, none⟩) l.length c, .slice (some ⟨kb, 0, none⟩) 1 1]).run Tryd.prog w = .ok (.slice (some ⟨g', 0, none⟩) (l.length + 1) c2) w5 ∧ w.grownBy w5 (some g) ∧ Below base w w5 ∧ w5.heap[E]? = w.heap[E]? ∧
      EdAt (w5.setCell ⟨E, 0, none⟩ (.slice (some ⟨g', 0, none⟩) (l.length + 1) c2)) E g' c2 base (l ++ [y]) q made (ps ++ [(.slice A' y.attrs.length c', .slice none 0 0)]) := by
  have hP : Parts w base y (.slice A' y.attrs.length c', .slice none 0 0) := ⟨ho, by rw [hk]; exact OwnF.nil _ _ _, hy⟩
  have hrow := h.ed.row
  have hrep : tN6.rep w (fun _ => False) (ndRow y (.slice A' y.attrs.length c', .slice none 0 0)) (ndRow y (.slice A' y.attrs.length c', .slice none 0 0)) := ⟨rfl, ndRow_ok ⟨_, _, _, rfl⟩ ⟨_, _, _, rfl⟩⟩
  obtain ⟨v', w5, hrun, hown, hg, hb, hv⟩ := run_ap1 (P := Tryd.prog) (t := 22) (ty := 22) (c := 1) w elemN6 hrow (fun _ h => h.elim) hrep hcell (by omega) (by omega) (Nat.le_trans h.le (Nat.le_of_lt h.lt))
  obtain ⟨A5, c5, rfl⟩ := Own.form hown
  obtain ⟨g', cells, rfl, hg', hgl, _, _, _⟩ := Own.block hown (by omega)
  have hcap : l.length + 1 ≤ c5 := by
    obtain ⟨_, h1, _⟩ := hown
    rcases h1.2 with ⟨hv, _⟩ | ⟨g', cap, cur, hv, _, _, hnc, _⟩
    · cases hv
    · injection hv with _ _ hv
      omega
  have hE5 : w5.heap[E]? = w.heap[E]? := hg.block E h.lt (fun e => h.apart (by simpa [Value.ownBlock] using e))
  have hbox5 := hE5.trans h.box
  have hed5 : Ed w5 base (.slice (some ⟨g', 0, none⟩) (l.length + 1) c5) (l ++ [y]) (ps ++ [(.slice A' y.attrs.length c', .slice none 0 0)]) := h.ed.app hP (fun i a ha => by
    refine ⟨⟨?_, ?_⟩, ?_, Or.inl rfl⟩
    · cases hb : a.1.ownBlock with
      | none => exact Or.inl rfl
      | some b => exact Or.inr fun e => hfr i a b ha hb e.symm
    · cases hb : a.2.ownBlock with
      | none => exact Or.inl rfl
      | some b => exact Or.inr fun e => by cases e
    · cases hb : a.1.ownBlock with
      | none =>
        cases A' with
        | none => exact Or.inl rfl
        | some z => exact Or.inr fun e => by cases e
      | some b => exact Or.inr fun e => hfr i a b ha hb e) hl hg hown
  refine ⟨g', c5, w5, hrun, hg, hb, hE5, ?_⟩
  have hll : (l ++ [y]).length = l.length + 1 := by simp
  exact ⟨by rw [set_blk hbox5, hll]; rfl, by rw [hll]; exact hed5.other hbox5 (by decide) (by decide) (by decide) (grown_set w5 E 0 _), h.le, by rw [hll]; omega, by rw [hll]; exact hcap⟩
end
theorem cell_far {w : World} {E i k j : Nat} {v : Value} (h : E ≠ k) (hv : w.cell? ⟨k, j, none⟩ = some v) (u : Value) : (w.setCell ⟨E, i, none⟩ u).cell? ⟨k, j, none⟩ = some v := (World.cell?_setCell_other _ _ _ _ (fun e => h (congrArg Addr.block e))).trans hv
theorem made_err {l : List Nd} {x : Nd} : makeErr l x = if x.kids ≠ [] then 3 else if x.kind = 1 then 7 else if nodeE x ≠ 0 then nodeE x else if l.length = 200 then 2 else 0 := rfl

set_option maxRecDepth 100000 in
set_option maxHeartbeats 4000000 in
theorem make_any (w : World) (E g c base : Nat) (l : List Nd) (q : Bool) (made : Int) (ps : List (Value × Value)) (e : Edt) (Aa : Option Addr) (na ca : Nat) (Ak : Option Addr) (nk ck : Nat) (h : EdAt w E g c base l q made ps) (hg : Good l) (hx : NdAt w (lt base) e.node Aa na ca Ak nk ck) :
    Calls Tryd.prog 105 #[.pointer (some ⟨E, 0, none⟩), .agg (edtCells e Aa na ca Ak nk ck)] w (EdPost E base q (makeErr l e.node) (makeDo l e.node) l.length w) := by
  obtain rfl : na = e.node.attrs.length := hx.attrs.hn
  obtain ⟨w0, hw0⟩ : ∃ w0, w0 = w.alloc (.cells (edtCells e Aa e.node.attrs.length ca Ak nk ck) 59) := ⟨_, rfl⟩
  have hk := eb_of h (edtCells e Aa e.node.attrs.length ca Ak nk ck)
  rw [← hw0] at hk
  obtain ⟨hEB, hb0⟩ := hk
  have e6 := hEB.cell 6 (v := .int .i64 e.node.kind) rfl
  have e7 := hEB.cell 7 (v := .string e.node.name) rfl
  have e8 := hEB.cell 8 (v := .slice Aa e.node.attrs.length ca) rfl
  have e9 := hEB.cell 9 (v := .string e.node.text) rfl
  have e10 := hEB.cell 10 (v := .int .i64 e.node.parent) rfl
  have e11 := hEB.cell 11 (v := .slice Ak nk ck) rfl
  have HB0 := Lib.hid hb0
  have HEB := Lib.hid hEB
  have HX := Lib.hid hx
  have HSM := Lib.hid hg.small
  clear h hg hx hb0 hEB
  go_enter Tryd.func105, Tryd.ntmps105
  unfold edtCells at *
  go_upto_region 1 with fail
  rw [← hw0]
  clear hw0
  go_upto_region 2 with fail
  obtain ⟨w1, hw1⟩ : ∃ w1, w1 = w0.alloc (.cells #[.int .i64 e.node.kind, .string e.node.name, .slice Aa e.node.attrs.length ca, .string e.node.text, .int .i64 e.node.parent, .slice Ak nk ck] 35) := ⟨_, rfl⟩
  have hb1 : Below w0.heap.size w0 w1 := by rw [hw1]; exact (Below.refl _ _).alloc (Nat.le_refl _) _
  have hbk : w1.heap[w0.heap.size]? = some (.cells #[.int .i64 e.node.kind, .string e.node.name, .slice Aa e.node.attrs.length ca, .string e.node.text, .int .i64 e.node.parent, .slice Ak nk ck] 35 (0, 0)) := by rw [hw1]; exact heap_alloc_new w0 _
  have HE1 := Lib.hid (HEB.out.at_.next hb1)
  have HBS0 : Hid (base ≤ w0.heap.size) := Nat.le_trans HEB.out.low (Nat.le_trans HEB.out.le (Nat.le_of_lt HEB.out.lt))
  have HB1 := Lib.hid (HB0.out.trans (hb1.mono HBS0.out))
  have hx1 := HX.out.below HB1.out (Nat.le_refl _)
  rw [← hw1]
  clear hw1 e6 e7 e8 e9 e10 e11
  have HBK := Lib.hid hbk
  have k0 := cell_blk (i := 0) hbk rfl
  have k1 := cell_blk (i := 1) hbk rfl
  have k2 := cell_blk (i := 2) hbk rfl
  have k3 := cell_blk (i := 3) hbk rfl
  have k4 := cell_blk (i := 4) hbk rfl
  have k5 := cell_blk (i := 5) hbk rfl
  have HO := Lib.hid (one_any' e.node Aa _ ca Ak nk ck w1 base hx1 (Nat.le_trans HBS0.out hb1.size))
  have HX1 := Lib.hid hx1
  have hnk : nk = e.node.kids.length := hx1.kids.hn
  clear hx1 hbk hb1
  have HR0 := Lib.hid (@made_err l e.node)
  by_cases hk : e.node.kids = []
  · have hR1 := HR0.out.trans (if_neg (by rw [hk]; exact fun h => h rfl))
    have hn0 : nk = 0 := by rw [hnk, hk]; rfl
    subst hn0
    clear hnk
    by_cases h1 : e.node.kind = 1
    · have HR := Lib.hid (hR1.trans (if_pos h1))
      rw [h1] at k0
      clear hk hR1 h1
      go_wp2_with fail
      go_ret
      exact ⟨by rw [HR.out]; rfl, HB1.out, by rw [HR.out]; exact fun h => absurd h (by decide)⟩
    · have hR2 := hR1.trans (if_neg h1)
      have hk1 : (e.node.kind == 1) = false := beq_eq_false_iff_ne.2 h1
      have HK := Lib.hid hk
      clear hk hR1 h1
      by_cases h2 : nodeE e.node ≠ 0
      · have HR := Lib.hid (hR2.trans (if_pos h2))
        have h2' : (nodeE e.node != 0) = true := by simpa using h2
        have HNZ := Lib.hid h2
        clear hR2 h2
        generalize nodeE e.node = ne at *
        go_wp2_with (go_at_call 53; refine HO.out.mono ?_; rintro e' w2 ⟨rfl, hb2⟩)
        go_ret
        exact ⟨by rw [HR.out]; rfl, HB1.out.trans (hb2.mono (Nat.le_trans HE1.out.le (Nat.le_of_lt HE1.out.lt))), by rw [HR.out]; exact fun h => absurd h HNZ.out⟩
      · have hR3 := hR2.trans (if_neg h2)
        have h20 : nodeE e.node = 0 := by simpa using h2
        have HE0 := Lib.hid h20
        rw [h20] at HO
        clear h20 h2 hR2
        go_upto_region 7 with (go_at_call 53; refine HO.out.mono ?_; rintro e' w2 ⟨rfl, hb2⟩)
        have HBS1 : Hid (base ≤ w1.heap.size) := Nat.le_trans HE1.out.le (Nat.le_of_lt HE1.out.lt)
        have HB2 := Lib.hid (HB1.out.trans (hb2.mono HBS1.out))
        have HE2 := Lib.hid (HE1.out.next hb2)
        have HX2 := Lib.hid (HX.out.below HB2.out (Nat.le_refl _))
        have hbk2 := (hb2.block _ (Array.getElem?_eq_some_iff.1 HBK.out).1).trans HBK.out
        clear hb2 k0 k1 k2 k3 k4 k5 HO HBK
        have HBK := Lib.hid hbk2
        have c0 := HE2.out.c0
        have c2 := HE2.out.c2
        have fE : w2.frozen? ⟨E, 2, none⟩ = false := free_blk HE2.out.box
        have hcap := HE2.out.cap
        by_cases h200 : l.length = 200
        · have HR := Lib.hid (hR3.trans (if_pos h200))
          have i2 : ((l.length : Int) == 200) = true := by rw [h200]; rfl
          clear h200 hR3
          go_wp2_with fail
          go_ret
          exact ⟨by rw [HR.out]; rfl, HB2.out, by rw [HR.out]; exact fun h => absurd h (by decide)⟩
        · have HR := Lib.hid (hR3.trans (if_neg h200))
          have i2 : ((l.length : Int) == 200) = false := beq_eq_false_iff_ne.2 (by omega)
          have HL2 : Hid (l.length < 200) := by have := HSM.out; show l.length < 200; omega
          clear h200 hR3
          go_upto_region 12 with fail
          obtain ⟨w3, hw3⟩ : ∃ w3, w3 = w2.setCell ⟨E, 2, none⟩ (.int .i64 l.length) := ⟨_, rfl⟩
          rw [← hw3]
          have hne : w0.heap.size ≠ E := by have := HEB.out.at_.lt; omega
          have hbk3 : w3.heap[w0.heap.size]? = some (.cells #[.int .i64 e.node.kind, .string e.node.name, .slice Aa e.node.attrs.length ca, .string e.node.text, .int .i64 e.node.parent, .slice Ak 0 ck] 35 (0, 0)) := by rw [hw3]; exact (Below.heap_setCell _ _ _ _ hne).trans HBK.out
          have HE3 := Lib.hid (HE2.out.made_ l.length)
          have HB3 := Lib.hid (HB2.out.setCell (p := ⟨E, 2, none⟩) HE2.out.le (.int .i64 l.length))
          rw [← hw3] at HE3 HB3
          have HNE : Hid (E ≠ w0.heap.size) := fun e' => hne e'.symm
          clear hw3 c0 c2 fE hcap i2 HBK
          obtain ⟨g0, cg, eg0, hg0, hgl0, _⟩ := HEB.out.at_.ed.where_ HEB.out.at_.pos
          simp only [Value.slice.injEq, Option.some.injEq, Addr.mk.injEq, and_true, true_and] at eg0
          obtain ⟨rfl, rfl⟩ := eg0
          have HAP : Hid (∀ (w4 : World) (A' : Option Addr) (c' : Nat), Below w3.heap.size w3 w4 → Own tDA w4 w3.heap.size 91 (lt base) (.slice A' e.node.attrs.length c') e.node.attrs.length e.node.attrs →
              ∃ g' c2 w5, (Builtin.append_ #[22, 22] 22 #[.slice (some ⟨g, 0, none⟩) l.length c, .slice (some ⟨w4.heap.size, 0, none⟩) 1 1]).run Tryd.prog (w4.alloc (.cells #[.int .i64 e.node.kind, .string e.node.name, .slice A' e.node.attrs.length c', .string e.node.text, .int .i64 (-1), .slice none 0 0] 35)) = .ok (.slice (some ⟨g', 0, none⟩) (l.length + 1) c2) w5 ∧
                Below base w w5 ∧ EdAt (w5.setCell ⟨E, 0, none⟩ (.slice (some ⟨g', 0, none⟩) (l.length + 1) c2)) E g' c2 base (makeDo l e.node) q l.length (ps ++ [(.slice A' e.node.attrs.length c', .slice none 0 0)]) ∧
                (∀ (i : Nat) u, (#[Value.int .i64 e.node.kind, .string e.node.name, .slice Aa e.node.attrs.length ca, .string e.node.text, .int .i64 e.node.parent, .slice Ak 0 ck] : Array Value)[i]? = some u → w5.cell? ⟨w0.heap.size, i, none⟩ = some u) ∧ w5.cell? ⟨E, 0, none⟩ = some (.slice (some ⟨g, 0, none⟩) l.length c) ∧ w5.frozen? ⟨E, 0, none⟩ = false) := fun w4 A' c' hb4 ho4 => by
            obtain ⟨w4', hw4'⟩ : ∃ w4', w4' = w4.alloc (.cells #[.int .i64 e.node.kind, .string e.node.name, .slice A' e.node.attrs.length c', .string e.node.text, .int .i64 (-1), .slice none 0 0] 35) := ⟨_, rfl⟩
            have hb44 : Below w4.heap.size w4 w4' := by rw [hw4']; exact (Below.refl _ _).alloc (Nat.le_refl _) _
            have hb34 := hb4.trans (hb44.mono hb4.size)
            have hE4 := HE3.out.next hb34
            have hno := (nodeE_iff e.node).1 HE0.out
            have hfl : OwnF tDA w4 base 91 (.slice A' e.node.attrs.length c') e.node.attrs.length e.node.attrs := ((ho4.flat (flatPair flatStr flatStr)).down (Nat.le_trans HE3.out.le (Nat.le_of_lt HE3.out.lt)))
            have hcw : ∀ (j : Nat) u, (ndRow { e.node with parent := -1, kids := [] } (.slice A' e.node.attrs.length c', .slice none 0 0))[j]? = some u → w4'.cell? ⟨w4.heap.size, 0 + j, none⟩ = some u := by rw [hw4']; exact cell_new w4 _ _
            obtain ⟨g', c2, w5, hrun, hgr, hb5, hE5, hat⟩ := hE4.app (y := { e.node with parent := -1, kids := [] }) (A' := A') (c' := c') (kb := w4.heap.size) (by have := HL2.out; omega) ⟨HX2.out.kind, HX2.out.name, HX2.out.text, (by decide : (Lit.int .i64 (-1)).wf = true), hno.2.2.1.few, Nat.zero_le _⟩ rfl (hfl.below hb44 (Nat.le_refl _)) (fun i p b hp hb e' => by
              obtain ⟨x, hx⟩ := get_some (l := l) (k := i) (by have := HE3.out.ed.len; have := (List.getElem?_eq_some_iff.1 hp).1; omega)
              have h1 := (Own.lt (HE3.out.ed.parts i x p hx hp).attrs b hb).2
              have h2 := (Own.lt ho4 b e').1
              omega) hcw
            refine ⟨g', c2, w5, by rw [← hw4']; exact hrun, (HB3.out.trans (hb34.mono (Nat.le_trans HE3.out.le (Nat.le_of_lt HE3.out.lt)))).trans hb5, hat, fun i u hu => ?_, ?_, ?_⟩
            · have h1 := (hb34.block _ (Array.getElem?_eq_some_iff.1 hbk3).1).trans hbk3
              exact cell_blk ((hgr.block w0.heap.size (Array.getElem?_eq_some_iff.1 h1).1 (fun e' => by simp at e'; omega)).trans h1) hu
            · exact cell_blk (hE5.trans hE4.box) rfl
            · exact free_blk (hE5.trans hE4.box)
          have HCL := Lib.hid (fun W (hs : Sl tDA W (lt base) Aa e.node.attrs.length ca e.node.attrs) (hz : base ≤ W.heap.size) => cloneDA Aa _ ca e.node.attrs W base hs hz)
          have HXS := Lib.hid ((HX.out.below HB3.out (Nat.le_refl _)).attrs.drew)
          have HBS3 : Hid (base ≤ w3.heap.size) := Nat.le_trans HE3.out.le (Nat.le_of_lt HE3.out.lt)
          have k0 := cell_blk (i := 0) hbk3 rfl
          have k1 := cell_blk (i := 1) hbk3 rfl
          have k2 := cell_blk (i := 2) hbk3 rfl
          have k3 := cell_blk (i := 3) hbk3 rfl
          have HK3 := Lib.hid hbk3
          have c0 := HE3.out.c0
          clear hbk3 hgl0 hg0 hne
          refine wp_region_G (S := fun w' => w'.cell? ⟨w0.heap.size, 0, none⟩ = some (.int .i64 e.node.kind) ∧ w'.cell? ⟨w0.heap.size, 1, none⟩ = some (.string e.node.name) ∧ w'.cell? ⟨w0.heap.size, 2, none⟩ = some (.slice Aa e.node.attrs.length ca) ∧ w'.cell? ⟨w0.heap.size, 3, none⟩ = some (.string e.node.text) ∧ w'.cell? ⟨E, 0, none⟩ = some (.slice (some ⟨g, 0, none⟩) l.length c)) (T := [21]) (by kernel_rfl) ?_
          have hS : (fun w' : World => w'.cell? ⟨w0.heap.size, 0, none⟩ = some (.int .i64 e.node.kind) ∧ w'.cell? ⟨w0.heap.size, 1, none⟩ = some (.string e.node.name) ∧ w'.cell? ⟨w0.heap.size, 2, none⟩ = some (.slice Aa e.node.attrs.length ca) ∧ w'.cell? ⟨w0.heap.size, 3, none⟩ = some (.string e.node.text) ∧ w'.cell? ⟨E, 0, none⟩ = some (.slice (some ⟨g, 0, none⟩) l.length c)) w3.drew := ⟨k0, k1, k2, k3, c0⟩
          refine wpAnyG_take (i := 0) (v := ?_) rfl (by kernel_rfl) (by kernel_rfl) (by kernel_rfl) (by kernel_rfl) (fun _ _ _ h => h) hS rfl ?_ ?_
          rotate_left
          · intro w' hSw
            (try dsimp only at hSw)
            first | (go_simp; done) | (go_simp; with_reducible rfl)
          refine wpAnyG_take (i := 1) (v := ?_) rfl (by kernel_rfl) (by kernel_rfl) (by kernel_rfl) (by kernel_rfl) (fun _ _ _ h => h) hS rfl ?_ ?_
          rotate_left
          · intro w' hSw
            (try dsimp only at hSw)
            first | (go_simp; done) | (go_simp; with_reducible rfl)
          refine wpAnyG_take (i := 2) (v := ?_) rfl (by kernel_rfl) (by kernel_rfl) (by kernel_rfl) (by kernel_rfl) (fun _ _ _ h => h) hS rfl ?_ ?_
          rotate_left
          · intro w' hSw
            (try dsimp only at hSw)
            first | (go_simp; done) | (go_simp; with_reducible rfl)
          refine wpAnyG_take (i := 3) (v := ?_) rfl (by kernel_rfl) (by kernel_rfl) (by kernel_rfl) (by kernel_rfl) (fun _ _ _ h => h) hS rfl ?_ ?_
          rotate_left
          · intro w' hSw
            (try dsimp only at hSw)
            first | (go_simp; done) | (go_simp; with_reducible rfl)
          refine wpAnyG_take (i := 4) (v := ?_) rfl (by kernel_rfl) (by kernel_rfl) (by kernel_rfl) (by kernel_rfl) (fun _ _ _ h => h) hS rfl ?_ ?_
          rotate_left
          · intro w' hSw
            (try dsimp only at hSw)
            first | (go_simp; done) | (go_simp; with_reducible rfl)
          refine wpAnyG_take (i := 5) (v := ?_) rfl (by kernel_rfl) (by kernel_rfl) (by kernel_rfl) (by kernel_rfl) (fun _ _ _ h => h) hS rfl ?_ ?_
          rotate_left
          · intro w' hSw
            (try dsimp only at hSw)
            first | (go_simp; done) | (go_simp; with_reducible rfl)
          refine wpAnyG_take (i := 6) (v := ?_) rfl (by kernel_rfl) (by kernel_rfl) (by kernel_rfl) (by kernel_rfl) (fun _ _ _ h => h) hS rfl ?_ ?_
          rotate_left
          · intro w' hSw
            (try dsimp only at hSw)
            first | (go_simp; done) | (go_simp; with_reducible rfl)
          refine wpAnyG_take (i := 7) (v := ?_) rfl (by kernel_rfl) (by kernel_rfl) (by kernel_rfl) (by kernel_rfl) (fun _ _ _ h => h) hS rfl ?_ ?_
          rotate_left
          · intro w' hSw
            (try dsimp only at hSw)
            first | (go_simp; done) | (go_simp; with_reducible rfl)
          refine wpAnyG_take (i := 8) (v := ?_) rfl (by kernel_rfl) (by kernel_rfl) (by kernel_rfl) (by kernel_rfl) (fun _ _ _ h => h) hS rfl ?_ ?_
          rotate_left
          · intro w' hSw
            (try dsimp only at hSw)
            first | (go_simp; done) | (go_simp; with_reducible rfl)
          refine wpAnyG_take (i := 9) (v := ?_) rfl (by kernel_rfl) (by kernel_rfl) (by kernel_rfl) (by kernel_rfl) (fun _ _ _ h => h) hS rfl ?_ ?_
          rotate_left
          · intro w' hSw
            (try dsimp only at hSw)
            first | (go_simp; done) | (go_simp; with_reducible rfl)
          refine wpAnyG_take (i := 10) (v := ?_) rfl (by kernel_rfl) (by kernel_rfl) (by kernel_rfl) (by kernel_rfl) (fun _ _ _ h => h) hS rfl ?_ ?_
          rotate_left
          · intro w' hSw
            (try dsimp only at hSw)
            first | (go_simp; done) | (go_simp; with_reducible rfl)
          refine wpAnyG_take (i := 11) (v := ?_) rfl (by kernel_rfl) (by kernel_rfl) (by kernel_rfl) (by kernel_rfl) (fun _ _ _ h => h) hS rfl ?_ ?_
          rotate_left
          · intro w' hSw
            (try dsimp only at hSw)
            first | (go_simp; done) | (go_simp; with_reducible rfl)
          refine wpAnyG_take (i := 13) (v := ?_) rfl (by kernel_rfl) (by kernel_rfl) (by kernel_rfl) (by kernel_rfl) (fun _ _ _ h => h) hS rfl ?_ ?_
          rotate_left
          · intro w' hSw
            (try dsimp only at hSw)
            first | (go_simp; done) | (go_simp; with_reducible rfl)
          refine wpAnyG_take (i := 14) (v := ?_) rfl (by kernel_rfl) (by kernel_rfl) (by kernel_rfl) (by kernel_rfl) (fun _ _ _ h => h) hS rfl ?_ ?_
          rotate_left
          · intro w' hSw
            (try dsimp only at hSw)
            first | (go_simp; done) | (go_simp; with_reducible rfl)
          refine wpAnyG_one (i := 12) (by kernel_rfl) rfl rfl (fun K hK => ?_)
          go_simp
          go_at_call 74
          refine (HCL.out _ HXS.out HBS3.out).mono ?_
          rintro e' w4 ⟨A', c', rfl, hb4, ho4⟩
          have hb40 : Below w3.heap.size w3 w4 := ((Below.refl _ w3).drew).trans hb4
          have m0 := cell_be k0 hb40
          have m1 := cell_be k1 hb40
          have m2 := cell_be k2 hb40
          have m3 := cell_be k3 hb40
          have mc := cell_be c0 hb40
          go_wp2_with fail
          refine hK.out _ _ (fun _ _ => ⟨m0, m1, m2, m3, mc⟩) ?_
          clear hK K hS
          have hS : (fun w' : World => w'.cell? ⟨w0.heap.size, 0, none⟩ = some (.int .i64 e.node.kind) ∧ w'.cell? ⟨w0.heap.size, 1, none⟩ = some (.string e.node.name) ∧ w'.cell? ⟨w0.heap.size, 2, none⟩ = some (.slice Aa e.node.attrs.length ca) ∧ w'.cell? ⟨w0.heap.size, 3, none⟩ = some (.string e.node.text) ∧ w'.cell? ⟨E, 0, none⟩ = some (.slice (some ⟨g, 0, none⟩) l.length c)) w4 := ⟨m0, m1, m2, m3, mc⟩
          refine wpAnyG_take (i := 15) (v := ?_) rfl (by kernel_rfl) (by kernel_rfl) (by kernel_rfl) (by kernel_rfl) (fun _ _ _ h => h) hS rfl ?_ ?_
          rotate_left
          · intro w' hSw
            (try dsimp only at hSw)
            first | (go_simp; done) | (go_simp; with_reducible rfl)
          refine wpAnyG_one (i := 16) (by kernel_rfl) rfl rfl (fun K hK => ?_)
          go_simp
          obtain ⟨g', c2, w5, hrun, hb5, hat, hk5, hc5, hf5⟩ := HAP.out w4 A' c' hb40 ho4
          refine hK.out _ _ (fun _ _ => ⟨cell_al m0 _, cell_al m1 _, cell_al m2 _, cell_al m3 _, cell_al mc _⟩) ?_
          clear hK K hS
          refine wpAnyG_one (i := 17) (by kernel_rfl) rfl rfl (fun K hK => ?_)
          refine wp_append_runI (.tmp 44) (.tmp 55) 22 rfl (.slice (some ⟨g, 0, none⟩) l.length c) (.slice (some ⟨w4.heap.size, 0, none⟩) 1 1) rfl rfl hrun ?_
          have n0 := hk5 0 _ rfl
          have n1 := hk5 1 _ rfl
          have n2 := hk5 2 _ rfl
          have n3 := hk5 3 _ rfl
          refine hK.out _ _ (fun _ _ => ⟨n0, n1, n2, n3, hc5⟩) ?_
          clear hK K hk5
          have hS : (fun w' : World => w'.cell? ⟨w0.heap.size, 0, none⟩ = some (.int .i64 e.node.kind) ∧ w'.cell? ⟨w0.heap.size, 1, none⟩ = some (.string e.node.name) ∧ w'.cell? ⟨w0.heap.size, 2, none⟩ = some (.slice Aa e.node.attrs.length ca) ∧ w'.cell? ⟨w0.heap.size, 3, none⟩ = some (.string e.node.text) ∧ w'.cell? ⟨E, 0, none⟩ = some (.slice (some ⟨g, 0, none⟩) l.length c)) w5 := ⟨n0, n1, n2, n3, hc5⟩
          have HAT := Lib.hid hat
          have HB5 := Lib.hid hb5
          clear hat hb5 hrun m0 m1 m2 m3 mc hb4 hb40 ho4 k0 k1 k2 k3 c0
          refine wpAnyG_one (i := 18) (by kernel_rfl) rfl rfl (fun K hK => ?_)
          go_simp
          refine hK.out _ _ (fun _ h => h) ?_
          clear hK K
          refine wpAnyG_one (i := 19) (by kernel_rfl) rfl rfl (fun K hK => ?_)
          go_simp
          refine hK.out _ _ (fun _ h => h) ?_
          clear hK K
          refine wpAnyG_one (i := 20) (by kernel_rfl) rfl rfl (fun K hK => ?_)
          go_simp
          refine hK.out _ _ (fun _ h => h) ?_
          clear hK K
          refine wpAnyG_one (i := 21) (by kernel_rfl) rfl rfl (fun K hK => ?_)
          go_simp
          refine hK.out _ _ (fun h => absurd (by decide) h) ?_
          clear hK K hS
          refine wpAnyG_done (by kernel_rfl) ?_ _
          go_wp2_with fail
          go_ret
          exact ⟨by rw [HR.out]; rfl, HB5.out.setCell (p := ⟨E, 0, none⟩) HEB.out.at_.le _, fun _ => ⟨_, _, _, HAT.out⟩⟩
  · have HR := Lib.hid (HR0.out.trans (if_pos hk))
    have i0 : (0 : Int) < (nk : Int) := by
      have := List.length_pos_iff.2 hk
      omega
    clear hk hnk
    go_wp2_with fail
    go_ret
    exact ⟨by rw [HR.out]; rfl, HB1.out, by rw [HR.out]; exact fun h => absurd h (by decide)⟩
end Go.Proofs.YtmemadajjmmlpaaDoor
