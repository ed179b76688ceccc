/-
The walks of package dom's editor: make.
-/
import Derived.Test.YtpbngckplbnahaaGreatDoorEdWalksA
import Derived.Test.YtpbngckplbnahaaGreatDoorRegionG
import Derived.Test.YtpbngckplbnahaaGreatDoorTreeB
import Derived.Deep.DeepCutAuto
namespace Go.Proofs.YtpbngckplbnahaaGreatDoor
open Go.RowKit Go.Cl
attribute [local go_sem ↓] Go.wp_at_zero Go.wp_at_succ

section
variable {w w1 : World} {E g c base : Nat} {l : List Nd} {q : Bool} {made : Int} {ps : List (Value × Value)}
theorem Parts.grown {x : Nd} {p : Value × Value} {v : Value} {n : Nat} {xs : List (List Value)} (hP : Parts w base x p) (hrow : OwnF tN6 w base 26 v n xs) (hg : w.grownBy w1 v.ownBlock) : Parts w1 base x p :=
  ⟨ownF_kept hP.attrs hg (own_ne (by decide) hP.attrs hrow), ownF_kept hP.kids hg (own_ne (by decide) hP.kids hrow), hP.ok⟩
/-- Rows of unlike blocks. -/
def Apart (p q : Value × Value) : Prop := (p.1.ownBlock = none ∨ p.1.ownBlock ≠ q.1.ownBlock) ∧ (p.2.ownBlock = none ∨ p.2.ownBlock ≠ q.2.ownBlock)
/-- A node more. -/
theorem Ed.app {A v' : Value} {y : Nd} {p : Value × Value} (h : Ed w base A l ps) (hP : Parts w base y p) (hap : ∀ (i : Nat) q, ps[i]? = some q → Apart q p ∧ Apart p q) (hl : l.length < 1000) (hg : w.grownBy w1 A.ownBlock) (hrow : OwnF tN6 w1 base 26 v' (l.length + 1) (List.zipWith ndRow l ps ++ [ndRow y p])) :
    Ed w1 base v' (l ++ [y]) (ps ++ [p]) := by
  have hlen := h.len
  have key : ∀ (i : Nat) q, (ps ++ [p])[i]? = some q → (i < l.length ∧ ps[i]? = some q) ∨ (i = l.length ∧ q = p) := fun i q hq => by
    by_cases hi : i < ps.length
    · rw [List.getElem?_append_left hi] at hq
      exact Or.inl ⟨by omega, hq⟩
    · have := (List.getElem?_eq_some_iff.1 hq).1
      rw [List.length_append, List.length_singleton] at this
      have e : i = ps.length := by omega
      subst e
      rw [app_last] at hq
      exact Or.inr ⟨by omega, (Option.some.inj hq).symm⟩
  refine ⟨by simp [hlen], by rw [List.length_append, List.length_singleton]; omega, ?_, fun i x q hx hq => ?_, fun i j a b ha hb hij => ?_⟩
  · rw [List.zipWith_append hlen.symm, List.length_append]
    exact hrow
  · rcases key i q hq with ⟨hi, hq⟩ | ⟨rfl, rfl⟩
    · rw [List.getElem?_append_left hi] at hx
      exact (h.parts i x q hx hq).grown h.row hg
    · rw [app_last] at hx
      obtain rfl := Option.some.inj hx
      exact hP.grown h.row hg
  · rcases key i a ha with ⟨hi, ha2⟩ | ⟨hi, ea⟩
    · rcases key j b hb with ⟨hj, hb2⟩ | ⟨hj, eb⟩
      · exact h.apart i j a b ha2 hb2 hij
      · rw [eb]
        exact (hap i a ha2).1
    · rcases key j b hb with ⟨hj, hb2⟩ | ⟨hj, eb⟩
      · rw [ea]
        exact (hap j b hb2).2
      · omega
/-- What lies elsewhere turns. -/
theorem Ed.other {A : Value} {k : Nat} {cs : Array Value} {e' : TypeId} {fr : Nat × Nat} (h : Ed w base A l ps) (hk : w.heap[k]? = some (.cells cs e' fr)) (h1 : 26 ≠ e') (h2 : 31 ≠ e') (h3 : 3 ≠ e') (hg : w.grownBy w1 (some k)) : Ed w1 base A l ps :=
  ⟨h.len, h.few, ownF_kept h.row hg (Or.inr (own_ne_block h1 h.row hk)), fun i x p hx hp =>
    have hP := h.parts i x p hx hp
    ⟨ownF_kept hP.attrs hg (Or.inr (own_ne_block h2 hP.attrs hk)), ownF_kept hP.kids hg (Or.inr (own_ne_block h3 hP.kids hk)), hP.ok⟩, h.apart⟩
theorem EdAt.made_ (h : EdAt w E g c base l q made ps) (k : Int) : EdAt (w.setCell ⟨E, 2, none⟩ (.int .i64 k)) E g c base l q k ps :=
  ⟨by rw [set_blk h.box]; rfl, h.ed.other h.box (by decide) (by decide) (by decide) (grown_set w E 2 _), h.le, h.pos, h.cap⟩
theorem elemN6 : ElemOf Tryz.prog 27 26 tN6.size 96 := elemNd
/-- A node is appended, and the slice stored. -/
theorem EdAt.app (h : EdAt w E g c base l q made ps) {y : Nd} {A' : Option Addr} {c' kb : Nat} (hl : l.length < 1000) (hy : EdOk y) (hk : y.kids = []) (ho : OwnF tDA w base 31 (.slice A' y.attrs.length c') y.attrs.length y.attrs) (hfr : ∀ (i : Nat) q b, ps[i]? = some q → q.1.ownBlock = some b → (Value.slice A' y.attrs.length c').ownBlock ≠ some b)
    (hcell : ∀ (j : Nat) u, (ndRow y (.slice A' y.attrs.length c', .slice none 0 0))[j]? = some u → w.cell? ⟨kb, 0 + j, none⟩ = some u) :
    ∃ g' c2 w5, (Builtin.append_ #[27, 27] 27 #[.slice (some ⟨g, 0, none⟩) l.length c, .slice (some ⟨kb, 0, none⟩) 1 1]).run Tryz.prog w = .ok (.slice (some ⟨g', 0, none⟩) (l.length + 1) c2) w5 ∧ w.grownBy w5 (some g) ∧ Below base w w5 ∧ w5.heap[E]? = w.heap[E]? ∧
      EdAt (w5.setCell ⟨E, 0, none⟩ (.slice (some ⟨g', 0, none⟩) (l.length + 1) c2)) E g' c2 base (l ++ [y]) q made (ps ++ [(.slice A' y.attrs.length c', .slice none 0 0)]) := by
  have hP : Parts w base y (.slice A' y.attrs.length c', .slice none 0 0) := ⟨ho, by rw [hk]; exact OwnF.nil _ _ _, hy⟩
  have hrow := h.ed.row
  have hrep : tN6.rep w (fun _ => False) (ndRow y (.slice A' y.attrs.length c', .slice none 0 0)) (ndRow y (.slice A' y.attrs.length c', .slice none 0 0)) := ⟨rfl, ndRow_ok ⟨_, _, _, rfl⟩ ⟨_, _, _, rfl⟩⟩
  obtain ⟨v', w5, hrun, hown, hg, hb, hv⟩ := run_ap1 (P := Tryz.prog) (t := 27) (ty := 27) (c := 1) w elemN6 hrow (fun _ h => h.elim) hrep hcell (by omega) (by omega) (Nat.le_trans h.le (Nat.le_of_lt h.lt))
  obtain ⟨A5, c5, rfl⟩ := Own.form hown
  obtain ⟨g', cells, rfl, hg', hgl, _, _, _⟩ := Own.block hown (by omega)
  have hcap : l.length + 1 ≤ c5 := by
    obtain ⟨_, h1, _⟩ := hown
    rcases h1.2 with ⟨hv, _⟩ | ⟨g', cap, cur, hv, _, _, hnc, _⟩
    · cases hv
    · injection hv with _ _ hv
      omega
  have hE5 : w5.heap[E]? = w.heap[E]? := hg.block E h.lt (fun e => h.apart (by simpa [Value.ownBlock] using e))
  have hbox5 := hE5.trans h.box
  have hed5 : Ed w5 base (.slice (some ⟨g', 0, none⟩) (l.length + 1) c5) (l ++ [y]) (ps ++ [(.slice A' y.attrs.length c', .slice none 0 0)]) := h.ed.app hP (fun i a ha => by
    refine ⟨⟨?_, ?_⟩, ?_, Or.inl rfl⟩
    · cases hb : a.1.ownBlock with
      | none => exact Or.inl rfl
      | some b => exact Or.inr fun e => hfr i a b ha hb e.symm
    · cases hb : a.2.ownBlock with
      | none => exact Or.inl rfl
      | some b => exact Or.inr fun e => by cases e
    · cases hb : a.1.ownBlock with
      | none =>
        cases A' with
        | none => exact Or.inl rfl
        | some z => exact Or.inr fun e => by cases e
      | some b => exact Or.inr fun e => hfr i a b ha hb e) hl hg hown
  refine ⟨g', c5, w5, hrun, hg, hb, hE5, ?_⟩
  have hll : (l ++ [y]).length = l.length + 1 := by simp
  exact ⟨by rw [set_blk hbox5, hll]; rfl, by rw [hll]; exact hed5.other hbox5 (by decide) (by decide) (by decide) (grown_set w5 E 0 _), h.le, by rw [hll]; omega, by rw [hll]; exact hcap⟩
end
theorem cell_far {w : World} {E i k j : Nat} {v : Value} (h : E ≠ k) (hv : w.cell? ⟨k, j, none⟩ = some v) (u : Value) : (w.setCell ⟨E, i, none⟩ u).cell? ⟨k, j, none⟩ = some v := (World.cell?_setCell_other _ _ _ _ (fun e => h (congrArg Addr.block e))).trans hv
theorem made_err {l : List Nd} {x : Nd} : makeErr l x = if x.kids ≠ [] then 3 else if x.kind = 1 then 7 else if nodeE x ≠ 0 then nodeE x else if l.length = 200 then 2 else 0 := rfl

set_option maxRecDepth 100000 in
set_option maxHeartbeats 4000000 in
theorem make_any (w : World) (E g c base : Nat) (l : List Nd) (q : Bool) (made : Int) (ps : List (Value × Value)) (e : Edt) (Aa : Option Addr) (na ca : Nat) (Ak : Option Addr) (nk ck : Nat) (h : EdAt w E g c base l q made ps) (hg : Good l) (hx : NdAt w (lt base) e.node Aa na ca Ak nk ck) :
    Calls Tryz.prog 142 #[.pointer (some ⟨E, 0, none⟩), .agg (edtCells e Aa na ca Ak nk ck)] w (EdPost E base q (makeErr l e.node) (makeDo l e.node) l.length w) := by
  obtain rfl : na = e.node.attrs.length := hx.attrs.hn
  obtain ⟨w0, hw0⟩ : ∃ w0, w0 = w.alloc (.cells (edtCells e Aa e.node.attrs.length ca Ak nk ck) 64) := ⟨_, rfl⟩
  have hk := eb_of h (edtCells e Aa e.node.attrs.length ca Ak nk ck)
  rw [← hw0] at hk
  obtain ⟨hEB, hb0⟩ := hk
  have e6 := hEB.cell 6 (v := .int .i64 e.node.kind) rfl
  have e7 := hEB.cell 7 (v := .string e.node.name) rfl
  have e8 := hEB.cell 8 (v := .slice Aa e.node.attrs.length ca) rfl
  have e9 := hEB.cell 9 (v := .string e.node.text) rfl
  have e10 := hEB.cell 10 (v := .int .i64 e.node.parent) rfl
  have e11 := hEB.cell 11 (v := .slice Ak nk ck) rfl
  have HB0 := Lib.hid hb0
  have HEB := Lib.hid hEB
  have HX := Lib.hid hx
  have HSM := Lib.hid hg.small
  clear h hg hx hb0 hEB
  go_enter Tryz.func142, Tryz.ntmps142
  unfold edtCells at *
  go_upto_region 1 with fail
  rw [← hw0]
  clear hw0
  go_upto_region 2 with fail
  obtain ⟨w1, hw1⟩ : ∃ w1, w1 = w0.alloc (.cells #[.int .i64 e.node.kind, .string e.node.name, .slice Aa e.node.attrs.length ca, .string e.node.text, .int .i64 e.node.parent, .slice Ak nk ck] 26) := ⟨_, rfl⟩
  have hb1 : Below w0.heap.size w0 w1 := by rw [hw1]; exact (Below.refl _ _).alloc (Nat.le_refl _) _
  have hbk : w1.heap[w0.heap.size]? = some (.cells #[.int .i64 e.node.kind, .string e.node.name, .slice Aa e.node.attrs.length ca, .string e.node.text, .int .i64 e.node.parent, .slice Ak nk ck] 26 (0, 0)) := by rw [hw1]; exact heap_alloc_new w0 _
  have HE1 := Lib.hid (HEB.out.at_.next hb1)
  have HBS0 : Hid (base ≤ w0.heap.size) := Nat.le_trans HEB.out.low (Nat.le_trans HEB.out.le (Nat.le_of_lt HEB.out.lt))
  have HB1 := Lib.hid (HB0.out.trans (hb1.mono HBS0.out))
  have hx1 := HX.out.below HB1.out (Nat.le_refl _)
  rw [← hw1]
  clear hw1 e6 e7 e8 e9 e10 e11
  have HBK := Lib.hid hbk
  have k0 := cell_blk (i := 0) hbk rfl
  have k1 := cell_blk (i := 1) hbk rfl
  have k2 := cell_blk (i := 2) hbk rfl
  have k3 := cell_blk (i := 3) hbk rfl
  have k4 := cell_blk (i := 4) hbk rfl
  have k5 := cell_blk (i := 5) hbk rfl
  have HO := Lib.hid (one_any' e.node Aa _ ca Ak nk ck w1 base hx1 (Nat.le_trans HBS0.out hb1.size))
  have HX1 := Lib.hid hx1
  have hnk : nk = e.node.kids.length := hx1.kids.hn
  clear hx1 hbk hb1
  have HR0 := Lib.hid (@made_err l e.node)
  by_cases hk : e.node.kids = []
  · have hR1 := HR0.out.trans (if_neg (by rw [hk]; exact fun h => h rfl))
    have hn0 : nk = 0 := by rw [hnk, hk]; rfl
    subst hn0
    clear hnk
    by_cases h1 : e.node.kind = 1
    · have HR := Lib.hid (hR1.trans (if_pos h1))
      rw [h1] at k0
      clear hk hR1 h1
      go_wp2_with fail
      go_ret
      exact ⟨by rw [HR.out]; rfl, HB1.out, by rw [HR.out]; exact fun h => absurd h (by decide)⟩
    · have hR2 := hR1.trans (if_neg h1)
      have hk1 : (e.node.kind == 1) = false := beq_eq_false_iff_ne.2 h1
      have HK := Lib.hid hk
      clear hk hR1 h1
      by_cases h2 : nodeE e.node ≠ 0
      · have HR := Lib.hid (hR2.trans (if_pos h2))
        have h2' : (nodeE e.node != 0) = true := by simpa using h2
        have HNZ := Lib.hid h2
        clear hR2 h2
        generalize nodeE e.node = ne at *
        go_wp2_with (go_at_call 98; refine HO.out.mono ?_; rintro e' w2 ⟨rfl, hb2⟩)
        go_ret
        exact ⟨by rw [HR.out]; rfl, HB1.out.trans (hb2.mono (Nat.le_trans HE1.out.le (Nat.le_of_lt HE1.out.lt))), by rw [HR.out]; exact fun h => absurd h HNZ.out⟩
      · have hR3 := hR2.trans (if_neg h2)
        have h20 : nodeE e.node = 0 := by simpa using h2
        have HE0 := Lib.hid h20
        rw [h20] at HO
        clear h20 h2 hR2
        go_upto_region 7 with (go_at_call 98; refine HO.out.mono ?_; rintro e' w2 ⟨rfl, hb2⟩)
        have HBS1 : Hid (base ≤ w1.heap.size) := Nat.le_trans HE1.out.le (Nat.le_of_lt HE1.out.lt)
        have HB2 := Lib.hid (HB1.out.trans (hb2.mono HBS1.out))
        have HE2 := Lib.hid (HE1.out.next hb2)
        have HX2 := Lib.hid (HX.out.below HB2.out (Nat.le_refl _))
        have hbk2 := (hb2.block _ (Array.getElem?_eq_some_iff.1 HBK.out).1).trans HBK.out
        clear hb2 k0 k1 k2 k3 k4 k5 HO HBK
        have HBK := Lib.hid hbk2
        have c0 := HE2.out.c0
        have c2 := HE2.out.c2
        have fE : w2.frozen? ⟨E, 2, none⟩ = false := free_blk HE2.out.box
        have hcap := HE2.out.cap
        by_cases h200 : l.length = 200
        · have HR := Lib.hid (hR3.trans (if_pos h200))
          have i2 : ((l.length : Int) == 200) = true := by rw [h200]; rfl
          clear h200 hR3
          go_wp2_with fail
          go_ret
          exact ⟨by rw [HR.out]; rfl, HB2.out, by rw [HR.out]; exact fun h => absurd h (by decide)⟩
        · have HR := Lib.hid (hR3.trans (if_neg h200))
          have i2 : ((l.length : Int) == 200) = false := beq_eq_false_iff_ne.2 (by omega)
          have HL2 : Hid (l.length < 200) := by have := HSM.out; show l.length < 200; omega
          clear h200 hR3
          go_upto_region 12 with fail
          obtain ⟨w3, hw3⟩ : ∃ w3, w3 = w2.setCell ⟨E, 2, none⟩ (.int .i64 l.length) := ⟨_, rfl⟩
          rw [← hw3]
          have hne : w0.heap.size ≠ E := by have := HEB.out.at_.lt; omega
          have hbk3 : w3.heap[w0.heap.size]? = some (.cells #[.int .i64 e.node.kind, .string e.node.name, .slice Aa e.node.attrs.length ca, .string e.node.text, .int .i64 e.node.parent, .slice Ak 0 ck] 26 (0, 0)) := by rw [hw3]; exact (Below.heap_setCell _ _ _ _ hne).trans HBK.out
          have HE3 := Lib.hid (HE2.out.made_ l.length)
          have HB3 := Lib.hid (HB2.out.setCell (p := ⟨E, 2, none⟩) HE2.out.le (.int .i64 l.length))
          rw [← hw3] at HE3 HB3
          have HNE : Hid (E ≠ w0.heap.size) := fun e' => hne e'.symm
          clear hw3 c0 c2 fE hcap i2 HBK
          obtain ⟨g0, cg, eg0, hg0, hgl0, _⟩ := HEB.out.at_.ed.where_ HEB.out.at_.pos
          simp only [Value.slice.injEq, Option.some.injEq, Addr.mk.injEq, and_true, true_and] at eg0
          obtain ⟨rfl, rfl⟩ := eg0
          have HAP : Hid (∀ (w4 : World) (A' : Option Addr) (c' : Nat), Below w3.heap.size w3 w4 → Own tDA w4 w3.heap.size 31 (lt base) (.slice A' e.node.attrs.length c') e.node.attrs.length e.node.attrs →
              ∃ g' c2 w5, (Builtin.append_ #[27, 27] 27 #[.slice (some ⟨g, 0, none⟩) l.length c, .slice (some ⟨w4.heap.size, 0, none⟩) 1 1]).run Tryz.prog (w4.alloc (.cells #[.int .i64 e.node.kind, .string e.node.name, .slice A' e.node.attrs.length c', .string e.node.text, .int .i64 (-1), .slice none 0 0] 26)) = .ok (.slice (some ⟨g', 0, none⟩) (l.length + 1) c2) w5 ∧
                Below base w w5 ∧ EdAt (w5.setCell ⟨E, 0, none⟩ (.slice (some ⟨g', 0, none⟩) (l.length + 1) c2)) E g' c2 base (makeDo l e.node) q l.length (ps ++ [(.slice A' e.node.attrs.length c', .slice none 0 0)]) ∧
                (∀ (i : Nat) u, (#[Value.int .i64 e.node.kind, .string e.node.name, .slice Aa e.node.attrs.length ca, .string e.node.text, .int .i64 e.node.parent, .slice Ak 0 ck] : Array Value)[i]? = some u → w5.cell? ⟨w0.heap.size, i, none⟩ = some u) ∧ w5.cell? ⟨E, 0, none⟩ = some (.slice (some ⟨g, 0, none⟩) l.length c) ∧ w5.frozen? ⟨E, 0, none⟩ = false) := fun w4 A' c' hb4 ho4 => by
            obtain ⟨w4', hw4'⟩ : ∃ w4', w4' = w4.alloc (.cells #[.int .i64 e.node.kind, .string e.node.name, .slice A' e.node.attrs.length c', .string e.node.text, .int .i64 (-1), .slice none 0 0] 26) := ⟨_, rfl⟩
            have hb44 : Below w4.heap.size w4 w4' := by rw [hw4']; exact (Below.refl _ _).alloc (Nat.le_refl _) _
            have hb34 := hb4.trans (hb44.mono hb4.size)
            have hE4 := HE3.out.next hb34
            have hno := (nodeE_iff e.node).1 HE0.out
            have hfl : OwnF tDA w4 base 31 (.slice A' e.node.attrs.length c') e.node.attrs.length e.node.attrs := ((ho4.flat (flatPair flatStr flatStr)).down (Nat.le_trans HE3.out.le (Nat.le_of_lt HE3.out.lt)))
            have hcw : ∀ (j : Nat) u, (ndRow { e.node with parent := -1, kids := [] } (.slice A' e.node.attrs.length c', .slice none 0 0))[j]? = some u → w4'.cell? ⟨w4.heap.size, 0 + j, none⟩ = some u := by rw [hw4']; exact cell_new w4 _ _
            obtain ⟨g', c2, w5, hrun, hgr, hb5, hE5, hat⟩ := hE4.app (y := { e.node with parent := -1, kids := [] }) (A' := A') (c' := c') (kb := w4.heap.size) (by have := HL2.out; omega) ⟨HX2.out.kind, HX2.out.name, HX2.out.text, (by decide : (Lit.int .i64 (-1)).wf = true), (by have := hno.2.2.1.few; show e.node.attrs.length ≤ 2000000000; omega), Nat.zero_le _⟩ rfl (hfl.below hb44 (Nat.le_refl _)) (fun i p b hp hb e' => by
              obtain ⟨x, hx⟩ := get_some (l := l) (k := i) (by have := HE3.out.ed.len; have := (List.getElem?_eq_some_iff.1 hp).1; omega)
              have h1 := (Own.lt (HE3.out.ed.parts i x p hx hp).attrs b hb).2
              have h2 := (Own.lt ho4 b e').1
              omega) hcw
            refine ⟨g', c2, w5, by rw [← hw4']; exact hrun, (HB3.out.trans (hb34.mono (Nat.le_trans HE3.out.le (Nat.le_of_lt HE3.out.lt)))).trans hb5, hat, fun i u hu => ?_, ?_, ?_⟩
            · have h1 := (hb34.block _ (Array.getElem?_eq_some_iff.1 hbk3).1).trans hbk3
              exact cell_blk ((hgr.block w0.heap.size (Array.getElem?_eq_some_iff.1 h1).1 (fun e' => by simp at e'; omega)).trans h1) hu
            · exact cell_blk (hE5.trans hE4.box) rfl
            · exact free_blk (hE5.trans hE4.box)
          have HCL := Lib.hid (fun W (hs : Sl tDA W (lt base) Aa e.node.attrs.length ca e.node.attrs) (hz : base ≤ W.heap.size) => cloneDA Aa _ ca e.node.attrs W base hs hz)
          have HXS := Lib.hid ((HX.out.below HB3.out (Nat.le_refl _)).attrs.drew)
          have HBS3 : Hid (base ≤ w3.heap.size) := Nat.le_trans HE3.out.le (Nat.le_of_lt HE3.out.lt)
          have k0 := cell_blk (i := 0) hbk3 rfl
          have k1 := cell_blk (i := 1) hbk3 rfl
          have k2 := cell_blk (i := 2) hbk3 rfl
          have k3 := cell_blk (i := 3) hbk3 rfl
          have HK3 := Lib.hid hbk3
          have c0 := HE3.out.c0
          clear hbk3 hgl0 hg0 hne
          refine wp_region_G (S := fun w' => w'.cell? ⟨w0.heap.size, 0, none⟩ = some (.int .i64 e.node.kind) ∧ w'.cell? ⟨w0.heap.size, 1, none⟩ = some (.string e.node.name) ∧ w'.cell? ⟨w0.heap.size, 2, none⟩ = some (.slice Aa e.node.attrs.length ca) ∧ w'.cell? ⟨w0.heap.size, 3, none⟩ = some (.string e.node.text) ∧ w'.cell? ⟨E, 0, none⟩ = some (.slice (some ⟨g, 0, none⟩) l.length c)) (T := [21]) (by kernel_rfl) ?_
          have hS : (fun w' : World => w'.cell? ⟨w0.heap.size, 0, none⟩ = some (.int .i64 e.node.kind) ∧ w'.cell? ⟨w0.heap.size, 1, none⟩ = some (.string e.node.name) ∧ w'.cell? ⟨w0.heap.size, 2, none⟩ = some (.slice Aa e.node.attrs.length ca) ∧ w'.cell? ⟨w0.heap.size, 3, none⟩ = some (.string e.node.text) ∧ w'.cell? ⟨E, 0, none⟩ = some (.slice (some ⟨g, 0, none⟩) l.length c)) w3.drew := ⟨k0, k1, k2, k3, c0⟩
          refine wpAnyG_take (i := 0) (v := ?_) rfl (by kernel_rfl) (by kernel_rfl) (by kernel_rfl) (by kernel_rfl) (fun _ _ _ h => h) hS rfl ?_ ?_
          rotate_left
          · intro w' hSw
            (try dsimp only at hSw)
            first | (go_simp; done) | (go_simp; with_reducible rfl)
          refine wpAnyG_take (i := 1) (v := ?_) rfl (by kernel_rfl) (by kernel_rfl) (by kernel_rfl) (by kernel_rfl) (fun _ _ _ h => h) hS rfl ?_ ?_
          rotate_left
          · intro w' hSw
            (try dsimp only at hSw)
            first | (go_simp; done) | (go_simp; with_reducible rfl)
          refine wpAnyG_take (i := 2) (v := ?_) rfl (by kernel_rfl) (by kernel_rfl) (by kernel_rfl) (by kernel_rfl) (fun _ _ _ h => h) hS rfl ?_ ?_
          rotate_left
          · intro w' hSw
            (try dsimp only at hSw)
            first | (go_simp; done) | (go_simp; with_reducible rfl)
          refine wpAnyG_take (i := 3) (v := ?_) rfl (by kernel_rfl) (by kernel_rfl) (by kernel_rfl) (by kernel_rfl) (fun _ _ _ h => h) hS rfl ?_ ?_
          rotate_left
          · intro w' hSw
            (try dsimp only at hSw)
            first | (go_simp; done) | (go_simp; with_reducible rfl)
          refine wpAnyG_take (i := 4) (v := ?_) rfl (by kernel_rfl) (by kernel_rfl) (by kernel_rfl) (by kernel_rfl) (fun _ _ _ h => h) hS rfl ?_ ?_
          rotate_left
          · intro w' hSw
            (try dsimp only at hSw)
            first | (go_simp; done) | (go_simp; with_reducible rfl)
          refine wpAnyG_take (i := 5) (v := ?_) rfl (by kernel_rfl) (by kernel_rfl) (by kernel_rfl) (by kernel_rfl) (fun _ _ _ h => h) hS rfl ?_ ?_
          rotate_left
          · intro w' hSw
            (try dsimp only at hSw)
            first | (go_simp; done) | (go_simp; with_reducible rfl)
          refine wpAnyG_take (i := 6) (v := ?_) rfl (by kernel_rfl) (by kernel_rfl) (by kernel_rfl) (by kernel_rfl) (fun _ _ _ h => h) hS rfl ?_ ?_
          rotate_left
          · intro w' hSw
            (try dsimp only at hSw)
            first | (go_simp; done) | (go_simp; with_reducible rfl)
          refine wpAnyG_take (i := 7) (v := ?_) rfl (by kernel_rfl) (by kernel_rfl) (by kernel_rfl) (by kernel_rfl) (fun _ _ _ h => h) hS rfl ?_ ?_
          rotate_left
          · intro w' hSw
            (try dsimp only at hSw)
            first | (go_simp; done) | (go_simp; with_reducible rfl)
          refine wpAnyG_take (i := 8) (v := ?_) rfl (by kernel_rfl) (by kernel_rfl) (by kernel_rfl) (by kernel_rfl) (fun _ _ _ h => h) hS rfl ?_ ?_
          rotate_left
          · intro w' hSw
            (try dsimp only at hSw)
            first | (go_simp; done) | (go_simp; with_reducible rfl)
          refine wpAnyG_take (i := 9) (v := ?_) rfl (by kernel_rfl) (by kernel_rfl) (by kernel_rfl) (by kernel_rfl) (fun _ _ _ h => h) hS rfl ?_ ?_
          rotate_left
          · intro w' hSw
            (try dsimp only at hSw)
            first | (go_simp; done) | (go_simp; with_reducible rfl)
          refine wpAnyG_take (i := 10) (v := ?_) rfl (by kernel_rfl) (by kernel_rfl) (by kernel_rfl) (by kernel_rfl) (fun _ _ _ h => h) hS rfl ?_ ?_
          rotate_left
          · intro w' hSw
            (try dsimp only at hSw)
            first | (go_simp; done) | (go_simp; with_reducible rfl)
          refine wpAnyG_take (i := 11) (v := ?_) rfl (by kernel_rfl) (by kernel_rfl) (by kernel_rfl) (by kernel_rfl) (fun _ _ _ h => h) hS rfl ?_ ?_
          rotate_left
          · intro w' hSw
            (try dsimp only at hSw)
            first | (go_simp; done) | (go_simp; with_reducible rfl)
          refine wpAnyG_take (i := 13) (v := ?_) rfl (by kernel_rfl) (by kernel_rfl) (by kernel_rfl) (by kernel_rfl) (fun _ _ _ h => h) hS rfl ?_ ?_
          rotate_left
          · intro w' hSw
            (try dsimp only at hSw)
            first | (go_simp; done) | (go_simp; with_reducible rfl)
          refine wpAnyG_take (i := 14) (v := ?_) rfl (by kernel_rfl) (by kernel_rfl) (by kernel_rfl) (by kernel_rfl) (fun _ _ _ h => h) hS rfl ?_ ?_
          rotate_left
          · intro w' hSw
            (try dsimp only at hSw)
            first | (go_simp; done) | (go_simp; with_reducible rfl)
          refine wpAnyG_one (i := 12) (by kernel_rfl) rfl rfl (fun K hK => ?_)
          go_simp
          go_at_call 102
          refine (HCL.out _ HXS.out HBS3.out).mono ?_
          rintro e' w4 ⟨A', c', rfl, hb4, ho4⟩
          have hb40 : Below w3.heap.size w3 w4 := ((Below.refl _ w3).drew).trans hb4
          have m0 := cell_be k0 hb40
          have m1 := cell_be k1 hb40
          have m2 := cell_be k2 hb40
          have m3 := cell_be k3 hb40
          have mc := cell_be c0 hb40
          go_wp2_with fail
          refine hK.out _ _ (fun _ _ => ⟨m0, m1, m2, m3, mc⟩) ?_
          clear hK K hS
          have hS : (fun w' : World => w'.cell? ⟨w0.heap.size, 0, none⟩ = some (.int .i64 e.node.kind) ∧ w'.cell? ⟨w0.heap.size, 1, none⟩ = some (.string e.node.name) ∧ w'.cell? ⟨w0.heap.size, 2, none⟩ = some (.slice Aa e.node.attrs.length ca) ∧ w'.cell? ⟨w0.heap.size, 3, none⟩ = some (.string e.node.text) ∧ w'.cell? ⟨E, 0, none⟩ = some (.slice (some ⟨g, 0, none⟩) l.length c)) w4 := ⟨m0, m1, m2, m3, mc⟩
          refine wpAnyG_take (i := 15) (v := ?_) rfl (by kernel_rfl) (by kernel_rfl) (by kernel_rfl) (by kernel_rfl) (fun _ _ _ h => h) hS rfl ?_ ?_
          rotate_left
          · intro w' hSw
            (try dsimp only at hSw)
            first | (go_simp; done) | (go_simp; with_reducible rfl)
          refine wpAnyG_one (i := 16) (by kernel_rfl) rfl rfl (fun K hK => ?_)
          go_simp
          obtain ⟨g', c2, w5, hrun, hb5, hat, hk5, hc5, hf5⟩ := HAP.out w4 A' c' hb40 ho4
          refine hK.out _ _ (fun _ _ => ⟨cell_al m0 _, cell_al m1 _, cell_al m2 _, cell_al m3 _, cell_al mc _⟩) ?_
          clear hK K hS
          refine wpAnyG_one (i := 17) (by kernel_rfl) rfl rfl (fun K hK => ?_)
          refine wp_append_runI (.tmp 44) (.tmp 55) 27 rfl (.slice (some ⟨g, 0, none⟩) l.length c) (.slice (some ⟨w4.heap.size, 0, none⟩) 1 1) rfl rfl hrun ?_
          have n0 := hk5 0 _ rfl
          have n1 := hk5 1 _ rfl
          have n2 := hk5 2 _ rfl
          have n3 := hk5 3 _ rfl
          refine hK.out _ _ (fun _ _ => ⟨n0, n1, n2, n3, hc5⟩) ?_
          clear hK K hk5
          have hS : (fun w' : World => w'.cell? ⟨w0.heap.size, 0, none⟩ = some (.int .i64 e.node.kind) ∧ w'.cell? ⟨w0.heap.size, 1, none⟩ = some (.string e.node.name) ∧ w'.cell? ⟨w0.heap.size, 2, none⟩ = some (.slice Aa e.node.attrs.length ca) ∧ w'.cell? ⟨w0.heap.size, 3, none⟩ = some (.string e.node.text) ∧ w'.cell? ⟨E, 0, none⟩ = some (.slice (some ⟨g, 0, none⟩) l.length c)) w5 := ⟨n0, n1, n2, n3, hc5⟩
          have HAT := Lib.hid hat
          have HB5 := Lib.hid hb5
          clear hat hb5 hrun m0 m1 m2 m3 mc hb4 hb40 ho4 k0 k1 k2 k3 c0
          refine wpAnyG_one (i := 18) (by kernel_rfl) rfl rfl (fun K hK => ?_)
          go_simp
          refine hK.out _ _ (fun _ h => h) ?_
          clear hK K
          refine wpAnyG_one (i := 19) (by kernel_rfl) rfl rfl (fun K hK => ?_)
          go_simp
          refine hK.out _ _ (fun _ h => h) ?_
          clear hK K
          refine wpAnyG_one (i := 20) (by kernel_rfl) rfl rfl (fun K hK => ?_)
          go_simp
          refine hK.out _ _ (fun _ h => h) ?_
          clear hK K
          refine wpAnyG_one (i := 21) (by kernel_rfl) rfl rfl (fun K hK => ?_)
          go_simp
          refine hK.out _ _ (fun h => absurd (by decide) h) ?_
          clear hK K hS
          refine wpAnyG_done (by kernel_rfl) ?_ _
          go_wp2_with fail
          go_ret
          exact ⟨by rw [HR.out]; rfl, HB5.out.setCell (p := ⟨E, 0, none⟩) HEB.out.at_.le _, fun _ => ⟨_, _, _, HAT.out⟩⟩
  · have HR := Lib.hid (HR0.out.trans (if_pos hk))
    have i0 : (0 : Int) < (nk : Int) := by
      have := List.length_pos_iff.2 hk
      omega
    clear hk hnk
    go_wp2_with fail
    go_ret
    exact ⟨by rw [HR.out]; rfl, HB1.out, by rw [HR.out]; exact fun h => absurd h (by decide)⟩
end Go.Proofs.YtpbngckplbnahaaGreatDoor

/-
The walks of package dom's editor: below, deep.
-/
namespace Go.Proofs.YtpbngckplbnahaaGreatDoor
open Go.RowKit Go.Cl
attribute [local go_sem ↓] Go.wp_at_zero Go.wp_at_succ

theorem below_neg (l : List Nd) {z top : Int} (h : z < 0) : belowB l z top = (z == top) := by
  unfold belowB depZ
  rw [if_pos h]
  rfl
theorem below_self {l : List Nd} (z : Int) : belowB l z z = true := by
  unfold belowB
  cases depZ l z with
  | zero => unfold belowF; simp
  | succ f => unfold belowF; simp
theorem Tree.below_up {l : List Nd} (T : Tree l) {m : Nat} {top : Int} (hm : m < l.length) (h : (m : Int) ≠ top) : belowB l m top = belowB l (parD l m) top := by
  unfold belowB
  rw [← T.dep_par hm, belowF]
  have h1 : ((m : Int) == top) = false := by simpa using h
  have h2 : decide (0 ≤ (m : Int)) = true := by simp
  rw [h1, h2, Bool.false_or, Bool.true_and]
/-- What below is at. -/
def BRel (l : List Nd) (n top z : Int) : Prop := (z = -1 ∨ ∃ m : Nat, z = (m : Int) ∧ m < l.length) ∧ belowB l n top = belowB l z top
set_option maxRecDepth 100000 in
set_option maxHeartbeats 1000000 in
theorem below_any (w : World) (E g c base : Nat) (l : List Nd) (q : Bool) (made : Int) (ps : List (Value × Value)) (n : Nat) (top : Int) (h : EdAt w E g c base l q made ps) (T : Tree l) (hn : n < l.length) :
    Calls Tryz.prog 182 #[.pointer (some ⟨E, 0, none⟩), .int .i64 (n : Int), .int .i64 top] w fun e w' => e = .returned (.bool (belowB l n top)) ∧ w = w' := by
  have c0 := h.c0
  have HE := Lib.hid h
  have HT := Lib.hid T
  have HCAP := h.cap
  clear h T
  have H0 : Hid (BRel l n top n) := ⟨Or.inr ⟨n, rfl, hn⟩, rfl⟩
  clear hn
  go_enter Tryz.func182, Tryz.ntmps182
  go_upto_region 1 with fail
  go_loop [1] (fun s => ∃ z : Int, s = .int .i64 z ∧ Hid (BRel l n top z)) (fun s => depZ l (intOf s))
  case atStart => exact ⟨n, rfl, H0⟩
  case round =>
    obtain ⟨z, rfl, HR⟩ := hrel
    rcases HR.out.1 with hz | ⟨m, hz, hm⟩
    · have h0 : ¬ 0 ≤ z := by omega
      have HB := Lib.hid (HR.out.2.trans (below_neg l (by omega)))
      clear hz
      go_wp2_with fail
      go_ret
      exact ⟨retB HB.out.symm, rfl⟩
    · subst hz
      by_cases ht : (m : Int) = top
      · have HB := Lib.hid (show belowB l n top = true from HR.out.2.trans (by rw [ht]; exact below_self top))
        have ht1 : ((m : Int) != top) = false := by simpa using ht
        have ht2 : ((m : Int) == top) = true := by simpa using ht
        clear ht
        go_wp2_with fail
        go_ret
        exact ⟨retB HB.out.symm, rfl⟩
      · obtain ⟨x, hx⟩ := get_some hm
        have ht1 : ((m : Int) != top) = true := by simpa using ht
        obtain ⟨p, _, hnd⟩ := HE.out.node hx
        have k4 := hnd.c4
        have HPD := Lib.hid (parD_at hx)
        have HU := Lib.hid (HR.out.2.trans (HT.out.below_up hm ht))
        have HDP := Lib.hid (HT.out.dep_par hm)
        have HPR := Lib.hid (HT.out.par hm)
        have i1 : (m : Int) < (l.length : Int) := by omega
        clear hnd hx ht hm HR
        go_wp2_with fail
        go_round
        case rel => exact ⟨_, rfl, by
          rw [HPD.out] at HU HPR
          refine ⟨?_, HU.out⟩
          rcases HPR.out with e | ⟨p, e, hp, _⟩
          · exact Or.inl e
          · exact Or.inr ⟨p, e, hp⟩⟩
        case measure =>
          simp only [intOf]
          have h1 := HDP.out
          have h2 := HPD.out
          rw [h2] at h1
          omega

theorem foldl_max_le : ∀ (xs : List Nat) (a b : Nat), a ≤ b → (∀ x ∈ xs, x ≤ b) → xs.foldl max a ≤ b := by
  intro xs
  induction xs with
  | nil => intro a b h _; exact h
  | cons x xs ih =>
    intro a b h hx
    rw [List.foldl_cons]
    exact ih _ b (Nat.max_le.2 ⟨h, hx x (by simp)⟩) fun y hy => hx y (by simp [hy])
theorem deepF_le (l : List Nd) : ∀ (f : Nat) (z : Int), deepF l f z ≤ f := by
  intro f
  induction f with
  | zero => intro z; exact Nat.le_refl _
  | succ f ih =>
    intro z
    rw [deepF]
    refine foldl_max_le _ _ _ (Nat.zero_le _) fun x hx => ?_
    obtain ⟨k, _, rfl⟩ := List.mem_map.1 hx
    have := ih k
    omega
/-- The greatest one so far. -/
def mostF (F : Int → Nat) (ks : List Int) : Nat := (ks.map F).foldl max 0
theorem most_snoc (F : Int → Nat) (ks : List Int) {j : Nat} {k : Int} (h : ks[j]? = some k) : mostF F (ks.take (j + 1)) = max (mostF F (ks.take j)) (F k) := by
  unfold mostF
  rw [List.take_add_one, h, List.map_append, List.foldl_append]
  rfl
theorem most_le {F : Int → Nat} {b : Nat} (hF : ∀ k, F k ≤ b) (ks : List Int) : mostF F ks ≤ b :=
  foldl_max_le _ _ _ (Nat.zero_le _) fun x hx => by
    obtain ⟨k, _, rfl⟩ := List.mem_map.1 hx
    exact hF k
set_option maxRecDepth 100000 in
set_option maxHeartbeats 1000000 in
theorem deep_any (E g c base : Nat) (l : List Nd) (q : Bool) (made : Int) (ps : List (Value × Value)) (T : Tree l) (f : Nat) : ∀ (m : Nat) (w : World), EdAt w E g c base l q made ps → m < l.length → upN l m + f = 41 →
    Calls Tryz.prog 183 #[.pointer (some ⟨E, 0, none⟩), .int .i64 (m : Int)] w fun e w' => e = .returned (.int .i64 (deepF l f m : Nat)) ∧ w = w' := by
  induction f with
  | zero =>
    intro m w _ hm hf
    have := (T.deep m hm).1
    omega
  | succ f ih =>
    intro m w h hm hf
    have IH := Lib.hid ih
    have HUP : Hid (∀ k ∈ kidsD l m, ∃ p : Nat, k = (p : Int) ∧ p < l.length ∧ upN l p + f = 41) := fun k hk => by
      obtain ⟨p, e, hp, hpar⟩ := T.kid hm hk
      exact ⟨p, e, hp, by have := (T.up_par hp hpar).2; omega⟩
    have HF40 : f ≤ 41 := by omega
    have c0 := h.c0
    have HCAP := h.cap
    obtain ⟨x, hx⟩ := get_some hm
    obtain ⟨p, hp, hnd⟩ := h.node hx
    have k5 := hnd.c5
    obtain ⟨A1, c1, hp1, sl1⟩ := OwnF.sl hnd.parts.kids (by decide) (by have := hnd.parts.ok.kids; show x.kids.length * 8 ≤ _; omega)
    rw [hp1] at k5
    have HKD := Lib.hid (kidsD_at hx)
    rw [HKD.out] at HUP
    have HDF : Hid (deepF l (f + 1) (m : Int) = mostF (fun k => deepF l f k + 1) x.kids) := by rw [deepF, HKD.out]; rfl
    have HSL := Lib.hid sl1
    have hck := sl1.hc
    have hkl : x.kids.length ≤ 1000 := hnd.parts.ok.kids
    have HH := Lib.hid h
    have i1 : (0 : Int) ≤ (m : Int) := by omega
    have i2 : (m : Int) < (l.length : Int) := by omega
    have HML := Lib.hid (fun ks => most_le (F := fun k => deepF l f k + 1) (b := f + 1) (fun k => by have := deepF_le l f k; show deepF l f k + 1 ≤ f + 1; omega) ks)
    have HDL := Lib.hid (deepF_le l f)
    clear ih T h hm hf hx hp hnd hp1 sl1
    go_enter Tryz.func183, Tryz.ntmps183
    go_wp2_with fail
    go_loop [4, 17] (fun s t => ∃ j : Nat, j ≤ x.kids.length ∧ t = .int .i64 (j : Int) ∧ s = .int .i64 (mostF (fun k => deepF l f k + 1) (x.kids.take j) : Nat)) (fun _ t => x.kids.length - (intOf t).toNat)
    case atStart => exact ⟨0, Nat.zero_le _, rfl, rfl⟩
    case round =>
      obtain ⟨j, hj, rfl, rfl⟩ := hrel
      by_cases hlt : j < x.kids.length
      · obtain ⟨k, hk⟩ := get_some hlt
        obtain ⟨kk, rfl, hkl2, hup⟩ := HUP.out k (List.mem_of_getElem? hk)
        obtain ⟨g1, o1, rfl, _, ck, _⟩ := HSL.out.int hk
        have HI := Lib.hid (IH.out kk w HH.out hkl2 hup)
        have HSN := Lib.hid (most_snoc (fun k => deepF l f k + 1) x.kids hk)
        have b1 : mostF (fun k => deepF l f k + 1) (x.kids.take j) ≤ f + 1 := HML.out _
        have b2 : deepF l f kk ≤ f := HDL.out kk
        generalize mostF (fun k => deepF l f k + 1) (x.kids.take j) = M at *
        generalize deepF l f kk = D at *
        clear hk hkl2 hup
        go_wp2_with (go_at_call 183; refine HI.out.mono ?_; rintro e w1 ⟨rfl, rfl⟩)
        all_goals
          go_round
          case rel => exact ⟨j + 1, by omega, by go_num, by rw [HSN.out]; first | go_num | (congr 1; omega)⟩
          case measure => simp [intOf]; omega
      · have hjj : j = x.kids.length := by omega
        subst hjj
        have HD := Lib.hid (show deepF l (f + 1) (m : Int) = mostF (fun k => deepF l f k + 1) (x.kids.take x.kids.length) from by rw [HDF.out, List.take_length])
        generalize mostF (fun k => deepF l f k + 1) (x.kids.take x.kids.length) = M at *
        go_wp2_with fail
        go_ret
        exact ⟨retI (by rw [HD.out]), rfl⟩
end Go.Proofs.YtpbngckplbnahaaGreatDoor

/-
The walks of package dom's editor: insert.
-/
namespace Go.Proofs.YtpbngckplbnahaaGreatDoor
open Go.RowKit Go.Cl
attribute [local go_sem ↓] Go.wp_at_zero Go.wp_at_succ

/-- A kind that may not be put there. -/
def insKind (x y : Nd) : Prop := parentB x.kind = false ∨ y.kind = 1 ∨ (x.kind = 1 ∧ y.kind = 3)
def insKB (x y : Nd) : Bool := parentB x.kind == false || y.kind == 1 || (x.kind == 1 && y.kind == 3)
theorem insKB_iff {x y : Nd} : insKB x y = true ↔ insKind x y := by
  unfold insKB insKind
  simp [or_assoc]
instance (x y : Nd) : Decidable (insKind x y) := inferInstanceAs (Decidable (_ ∨ _ ∨ _ ∧ _))
theorem insErr_both {l : List Nd} {m t : Nat} {x y : Nd} {before : Int} (hx : l[m]? = some x) (hy : l[t]? = some y) : insErr l m t before =
    if insKind x y then 7 else if 0 ≤ y.parent then 9 else if insAt x.kids before < 0 then 5 else if belowB l m t = true then 8 else if 40 < upN l m + 1 + deepR l t then 2 else 0 := by
  unfold insErr
  rw [nodeAt_nat, nodeAt_nat, hx, hy]
  rfl
theorem insAt_le (ks : List Int) (b : Int) : insAt ks b ≤ ks.length := by
  unfold insAt
  by_cases h : b = -1
  · rw [if_pos h]; omega
  · rw [if_neg h]
    by_cases hm : b ∈ ks
    · obtain ⟨i, hi, hx, _⟩ := idx_of_mem hm
      have := (List.getElem?_eq_some_iff.1 hx).1
      omega
    · have h2 : Lib.idxOf ks b = -1 := Lib.idxFrom_miss b ks 0 fun j hj e => hm (by rw [← e]; rw [List.getD_eq_getElem?_getD, List.getElem?_eq_getElem hj]; exact List.getElem_mem hj)
      omega
theorem Good.kids_few {l : List Nd} (h : Good l) {m : Nat} {x : Nd} (hx : l[m]? = some x) : x.kids.length ≤ 200 := by
  obtain ⟨hn, hk⟩ := h.kr.kids m x hx
  have h1 := few_nats l.length x.kids (fun i j z hij hi hj => by
    have hil := (List.getElem?_eq_some_iff.1 hi)
    have hjl := (List.getElem?_eq_some_iff.1 hj)
    exact List.pairwise_iff_getElem.1 hn i j hil.1 hjl.1 hij (by rw [hil.2, hjl.2])) (fun z hz => by
    obtain ⟨n, y, e, hy, _⟩ := hk z hz
    exact ⟨n, e, (List.getElem?_eq_some_iff.1 hy).1⟩)
  exact Nat.le_trans h1 h.small
set_option maxRecDepth 100000 in
set_option maxHeartbeats 8000000 in
theorem insert_any (w : World) (E g c base : Nat) (l : List Nd) (q : Bool) (made : Int) (ps : List (Value × Value)) (e : Edt) (Aa : Option Addr) (na ca : Nat) (Ak : Option Addr) (nk ck : Nat) (h : EdAt w E g c base l q made ps) (hg : Good l) :
    Calls Tryz.prog 143 #[.pointer (some ⟨E, 0, none⟩), .agg (edtCells e Aa na ca Ak nk ck)] w (EdPost E base q (insErr l e.at_ e.to_ e.before) (insDo l e.at_ e.to_ e.before) made w) := by
  obtain ⟨w0, hw0⟩ : ∃ w0, w0 = w.alloc (.cells (edtCells e Aa na ca Ak nk ck) 64) := ⟨_, rfl⟩
  have hk := eb_of h (edtCells e Aa na ca Ak nk ck)
  rw [← hw0] at hk
  obtain ⟨hEB, hb0⟩ := hk
  have e1 := hEB.cell 1 (v := .int .i64 e.at_) rfl
  have e2 := hEB.cell 2 (v := .int .i64 e.to_) rfl
  have HB0 := Lib.hid hb0
  have HEB := Lib.hid hEB
  have HN := Lib.hid (fun k n => quiet_l (node_any (w0.drewN k) E g c base l q made ps n (hEB.at_.drewN k)))
  have HGD := Lib.hid hg
  have HBW : Hid (base ≤ w0.heap.size) := Nat.le_trans hEB.low (Nat.le_trans hEB.le (Nat.le_of_lt hEB.lt))
  have HC1 := Lib.hid (show (edtCells e Aa na ca Ak nk ck)[1]? = some (.int .i64 e.at_) from rfl)
  have HC2 := Lib.hid (show (edtCells e Aa na ca Ak nk ck)[2]? = some (.int .i64 e.to_) from rfl)
  have HC3 := Lib.hid (show (edtCells e Aa na ca Ak nk ck)[3]? = some (.int .i64 e.before) from rfl)
  clear h hb0 hEB hg
  go_enter Tryz.func143, Tryz.ntmps143
  generalize edtCells e Aa na ca Ak nk ck = cells at *
  go_upto_region 1 with fail
  rw [← hw0]
  clear hw0
  go_quiet ((go_at_call 181; exact HN.out _ _))
  generalize hw1 : w0.drewN _ = w1
  have hb1 : Below w0.heap.size w0 w1 := by rw [← hw1]; exact below_dN (Below.refl _ _) _
  have HE1 := Lib.hid (HEB.out.next hb1)
  have HB1 := Lib.hid (HB0.out.trans (hb1.mono HBW.out))
  clear hw1 hb1 e1 e2 HN HB0 HEB
  cases hx : nodeAt l e.at_ with
  | none =>
    have HR := Lib.hid (show insErr l e.at_ e.to_ e.before = 5 from by unfold insErr; rw [hx])
    rw [ptr_none hx]
    generalize ptrN g l e.to_ = v2
    clear hx
    go_wp2_with fail
    go_ret
    exact ⟨by rw [HR.out]; rfl, HB1.out, by rw [HR.out]; exact fun h => absurd h (by decide)⟩
  | some x =>
    obtain ⟨m, hme, hm⟩ := nodeAt_some hx
    cases hy : nodeAt l e.to_ with
    | none =>
      have HR := Lib.hid (show insErr l e.at_ e.to_ e.before = 5 from by unfold insErr; rw [hx, hy])
      have p1 : ptrN g l e.at_ = .pointer (some ⟨g, m * 6, none⟩) := by rw [hme]; exact ptr_some hm
      rw [p1, ptr_none hy]
      clear p1
      clear hx hy hme hm
      go_wp2_with fail
      go_ret
      exact ⟨by rw [HR.out]; rfl, HB1.out, by rw [HR.out]; exact fun h => absurd h (by decide)⟩
    | some y =>
      obtain ⟨t, hte, ht⟩ := nodeAt_some hy
      have p1 : ptrN g l e.at_ = .pointer (some ⟨g, m * 6, none⟩) := by rw [hme]; exact ptr_some hm
      have p2 : ptrN g l e.to_ = .pointer (some ⟨g, t * 6, none⟩) := by rw [hte]; exact ptr_some ht
      rw [p1, p2]
      rw [hme] at HC1
      rw [hte] at HC2
      have HRE := Lib.hid ((show insErr l e.at_ e.to_ e.before = insErr l m t e.before from by rw [hme, hte]).trans (insErr_both (before := e.before) hm ht))
      have HME := Lib.hid hme
      have HTE := Lib.hid hte
      clear p1 p2
      obtain ⟨px, hpx, hndx⟩ := HE1.out.at_.node hm
      obtain ⟨py, hpy, hndy⟩ := HE1.out.at_.node ht
      have HNX := Lib.hid hndx
      have HNY := Lib.hid hndy
      have HM := Lib.hid hm
      have HT := Lib.hid ht
      have HPX := Lib.hid hpx
      have HPY := Lib.hid hpy
      have k0 := hndx.c0
      have y0 := hndy.c0
      have HPB := Lib.hid (parentB_any x.kind)
      clear hx hy hme hte hm ht hpx hpy hndx hndy
      go_upto_region 4 with fail
      go_cut [23] (fun b wx => b = .bool (insKB x y) ∧ w1 = wx)
      case first =>
        by_cases h1 : parentB x.kind = false
        · have HK := Lib.hid ((insKB_iff (x := x) (y := y)).2 (Or.inl h1))
          rw [h1] at HPB
          clear h1
          go_wp2_with (go_at_call 176; refine (HPB.out _).mono ?_; rintro e' w2 ⟨rfl, rfl⟩)
          go_meet
          case rel => exact ⟨by rw [HK.out], rfl⟩
        · have hpb : parentB x.kind = true := by simpa using h1
          rw [hpb] at HPB
          by_cases h2 : y.kind = 1
          · have HK := Lib.hid ((insKB_iff (x := x) (y := y)).2 (Or.inr (Or.inl h2)))
            rw [h2] at y0
            clear h1 h2 hpb
            go_wp2_with (go_at_call 176; refine (HPB.out _).mono ?_; rintro e' w2 ⟨rfl, rfl⟩)
            go_meet
            case rel => exact ⟨by rw [HK.out], rfl⟩
          · have y1 : (y.kind == 1) = false := beq_eq_false_iff_ne.2 h2
            by_cases h3 : x.kind = 1
            · by_cases h4 : y.kind = 3
              · have HK := Lib.hid ((insKB_iff (x := x) (y := y)).2 (Or.inr (Or.inr ⟨h3, h4⟩)))
                rw [h3] at k0 HPB
                rw [h4] at y0
                clear h1 h2 h3 h4 hpb y1
                go_wp2_with (go_at_call 176; refine (HPB.out _).mono ?_; rintro e' w2 ⟨rfl, rfl⟩)
                go_meet
                case rel => exact ⟨by rw [HK.out], rfl⟩
              · have HK := Lib.hid (Bool.eq_false_iff.2 (fun hh => by rcases insKB_iff.1 hh with (a | a | a); exact h1 a; exact h2 a; exact h4 a.2))
                rw [h3] at k0 HPB
                have y3 : (y.kind == 3) = false := beq_eq_false_iff_ne.2 h4
                clear h1 h2 h3 h4 hpb
                go_wp2_with (go_at_call 176; refine (HPB.out _).mono ?_; rintro e' w2 ⟨rfl, rfl⟩)
                go_meet
                case rel => exact ⟨by rw [HK.out], rfl⟩
            · have HK := Lib.hid (Bool.eq_false_iff.2 (fun hh => by rcases insKB_iff.1 hh with (a | a | a); exact h1 a; exact h2 a; exact h3 a.1))
              have x1 : (x.kind == 1) = false := beq_eq_false_iff_ne.2 h3
              clear h1 h2 h3 hpb
              go_wp2_with (go_at_call 176; refine (HPB.out _).mono ?_; rintro e' w2 ⟨rfl, rfl⟩)
              go_meet
              case rel => exact ⟨by rw [HK.out], rfl⟩
      case rest =>
        obtain ⟨rfl, rfl⟩ := hcut
        by_cases hA : insKind x y
        · have HR := Lib.hid (HRE.out.trans (if_pos hA))
          have hd : insKB x y = true := insKB_iff.2 hA
          rw [hd]
          clear hA hd
          go_wp2_with fail
          go_ret
          exact ⟨by rw [HR.out]; rfl, HB1.out, by rw [HR.out]; exact fun h => absurd h (by decide)⟩
        have HR1 := Lib.hid (HRE.out.trans (if_neg hA))
        have hd : insKB x y = false := Bool.eq_false_iff.2 fun hh => hA (insKB_iff.1 hh)
        rw [hd]
        have HA := Lib.hid hA
        have y4 := HNY.out.c4
        clear hA hd k0 y0 HPB HRE
        by_cases hP : 0 ≤ y.parent
        · have HR := Lib.hid (HR1.out.trans (if_pos hP))
          go_wp2_with fail
          go_ret
          exact ⟨by rw [HR.out]; rfl, HB1.out, by rw [HR.out]; exact fun h => absurd h (by decide)⟩
        have HR2 := Lib.hid (HR1.out.trans (if_neg hP))
        have HPN := Lib.hid hP
        have x5 := HNX.out.c5
        obtain ⟨A1, c1, hp1, sl1⟩ := OwnF.sl HNX.out.parts.kids (by decide) (by have := HNX.out.parts.ok.kids; show x.kids.length * 8 ≤ _; omega)
        rw [hp1] at x5
        have e3 := HE1.out.cell 3 HC3.out
        have HP1 := Lib.hid hp1
        have HI := Lib.hid (fun k => quiet_l ((index_int _ _ _ x.kids e.before (w1.drewN k) _ (sl_drewN sl1 k)).mono fun _ _ h => ⟨h.1, h.2.symm⟩))
        have hck := sl1.hc
        have hkl : x.kids.length ≤ 200 := HGD.out.kids_few HM.out
        clear hp1 sl1 HR1
        go_upto_if 64 with fail
        go_cut [7] (fun i wx => i = .int .i64 (insAt x.kids e.before) ∧ ∃ q, wx = w1.drewN q)
        case first =>
          by_cases hbf : e.before = -1
          · have HII := Lib.hid (show insAt x.kids e.before = (x.kids.length : Int) from by unfold insAt; rw [if_pos hbf])
            have hb' : (e.before != -1) = false := by simpa using hbf
            clear hbf
            go_wp2_with fail
            go_meet
            case rel => exact ⟨by rw [HII.out], 0, rfl⟩
          · have HII := Lib.hid (show insAt x.kids e.before = Lib.idxOf x.kids e.before from by unfold insAt; rw [if_neg hbf])
            have hb' : (e.before != -1) = true := by simpa using hbf
            clear hbf
            go_upto_region 10 with fail
            go_quiet ((go_at_call 108; exact HI.out _))
            go_wp2_with fail
            go_meet
            case rel => exact ⟨by rw [HII.out], _, rfl⟩
        case rest =>
        obtain ⟨rfl, q1, hw2⟩ := hcut
        have hb2 : Below w1.heap.size w1 wc := by rw [hw2]; exact below_dN (Below.refl _ _) _
        have HE2 := Lib.hid (HE1.out.next hb2)
        have HBW1 : Hid (base ≤ w1.heap.size) := Nat.le_trans HE1.out.low (Nat.le_trans HE1.out.le (Nat.le_of_lt HE1.out.lt))
        have HB2 := Lib.hid (HB1.out.trans (hb2.mono HBW1.out))
        have HNX2 := Lib.hid (HNX.out.next hb2)
        have HNY2 := Lib.hid (HNY.out.next hb2)
        clear hw2 hb2 x5 e3 y4 HI HB1 HBW1 hck HC3
        by_cases hI : insAt x.kids e.before < 0
        · have HR := Lib.hid (HR2.out.trans (if_pos hI))
          go_wp2_with fail
          go_ret
          exact ⟨by rw [HR.out]; rfl, HB2.out, by rw [HR.out]; exact fun h => absurd h (by decide)⟩
        have HR3 := Lib.hid (HR2.out.trans (if_neg hI))
        obtain ⟨i, hi⟩ : ∃ i : Nat, insAt x.kids e.before = (i : Int) := ⟨(insAt x.kids e.before).toNat, by omega⟩
        have hil : i ≤ x.kids.length := by have := insAt_le x.kids e.before; omega
        have HII := Lib.hid hi
        rw [hi]
        have e1 := HE2.out.cell 1 HC1.out
        have e2 := HE2.out.cell 2 HC2.out
        have TR := tree_of (check_of HGD.out)
        have hml := (List.getElem?_eq_some_iff.1 HM.out).1
        have htl := (List.getElem?_eq_some_iff.1 HT.out).1
        have HBE := Lib.hid (below_any wc E g c base l q made ps m t HE2.out.at_ TR hml)
        have i0 : ¬ (i : Int) < 0 := by omega
        clear hI hi HR2
        by_cases hbl : belowB l m t = true
        · have HR := Lib.hid (HR3.out.trans (if_pos hbl))
          rw [hbl] at HBE
          clear hbl TR hml htl
          go_wp2_with (go_at_call 182; refine HBE.out.mono ?_; rintro e' w2 ⟨rfl, rfl⟩)
          go_ret
          exact ⟨by rw [HR.out]; rfl, HB2.out, by rw [HR.out]; exact fun h => absurd h (by decide)⟩
        have HR4 := Lib.hid (HR3.out.trans (if_neg hbl))
        have hbl' : belowB l m t = false := by simpa using hbl
        have HBL := Lib.hid hbl'
        rw [hbl'] at HBE
        have hU := (TR.deep m hml).1
        have hU2 := (TR.deep t htl).1
        have hD := deepF_le l (41 - upN l t) t
        have HTR := Lib.hid TR
        have HUP := Lib.hid (up_any (some ⟨g, 0, none⟩) l.length c l q m wc.drew _ HE2.out.at_.drew.ed.sl (Nat.le_refl _) TR.small hml (fun x hx => by
          obtain ⟨j, hj⟩ := List.mem_iff_getElem?.1 hx
          have h1 := TR.kr.parent_lt x hx
          rcases h1 with h1 | ⟨j, y, h1, hy⟩
          · have := TR.pos; omega
          · have := (List.getElem?_eq_some_iff.1 hy).1; omega))
        have HTL := Lib.hid htl
        clear hbl hbl' HR3 TR hml htl
        go_upto_region 15 with (go_at_call 182; refine HBE.out.mono ?_; rintro e' w2 ⟨rfl, rfl⟩)
        have HDR : Hid (deepR l t = deepF l (41 - upN l t) t) := rfl
        have HDP := Lib.hid (fun W (hE : EdAt W E g c base l q made ps) => deep_any E g c base l q made ps HTR.out (41 - upN l t) t W hE HTL.out (by have := (HTR.out.deep t HTL.out).1; omega))
        generalize hUm : upN l m = U at *
        generalize deepF l (41 - upN l t) t = D at *
        have s0 := HE2.out.at_.c0
        have s1 := HE2.out.at_.c1
        have hD41 : D ≤ 41 := by omega
        have wz1 : IntKind.i64.wrap ((U : Int) + 1) = (U : Int) + 1 := IntWalk.i64_in _ (by omega)
        have wz2 : IntKind.i64.wrap ((U : Int) + 1 + (D : Int)) = (U : Int) + 1 + (D : Int) := IntWalk.i64_in _ (by omega)
        go_region_held3 (fun w' => w'.cell? ⟨E, 0, none⟩ = some (.slice (some ⟨g, 0, none⟩) l.length c) ∧ w'.cell? ⟨E, 1, none⟩ = some (.bool q) ∧ w'.cell? ⟨w.heap.size, 1, none⟩ = some (.int .i64 m) ∧ w'.cell? ⟨w.heap.size, 2, none⟩ = some (.int .i64 t)) (first | exact ⟨s0, s1, e1, e2⟩ | exact ⟨t0, t1, t2, t3⟩)
            (first
              | (go_at_call 100; refine HUP.out.mono ?_; rintro e' w3 ⟨rfl, hb3⟩; have hb30 : Below wc.heap.size wc w3 := ((Below.refl _ wc).drew).trans hb3; have t0 := cell_be s0 hb30; have t1 := cell_be s1 hb30; have t2 := cell_be e1 hb30; have t3 := cell_be e2 hb30)
              | (go_at_call 183; refine (HDP.out w3 (HE2.out.at_.next hb30)).mono ?_; rintro e' w4 ⟨rfl, rfl⟩)
              | fail)
        have HUM := Lib.hid hUm
        have HE3 := Lib.hid (HE2.out.next hb30)
        have HBW2 : Hid (base ≤ wc.heap.size) := Nat.le_trans HE2.out.low (Nat.le_trans HE2.out.le (Nat.le_of_lt HE2.out.lt))
        have HB3 := Lib.hid (HB2.out.trans (hb30.mono HBW2.out))
        have HNX3 := Lib.hid (HNX2.out.next hb30)
        clear hUm s0 s1 t0 t1 t2 t3 e1 e2 hb3 hb30 HUP HDP HBE wz1 wz2 HB2
        by_cases hF : 40 < U + 1 + D
        · have HR := Lib.hid (HR4.out.trans (if_pos (by rw [HDR.out]; exact hF)))
          rw [show decide ((40 : Int) < (U : Int) + 1 + (D : Int)) = true from decide_eq_true (by omega)]
          clear hF
          go_wp2_with fail
          go_ret
          exact ⟨by rw [HR.out]; rfl, HB3.out, by rw [HR.out]; exact fun h => absurd h (by decide)⟩
        have HR := Lib.hid (HR4.out.trans (if_neg (by rw [HDR.out]; exact hF)))
        rw [show decide ((40 : Int) < (U : Int) + 1 + (D : Int)) = false from decide_eq_false (by omega)]
        have HIO : Hid (InsOk l m t x y e.before) := ⟨HM.out, HT.out, by
          cases hb : parentB x.kind with
          | true => rfl
          | false => exact absurd (Or.inl hb) HA.out, fun h => HA.out (Or.inr (Or.inl h)), fun h => HA.out (Or.inr (Or.inr h)), by have := HPN.out; omega, by rw [HII.out]; omega, HBL.out, by rw [HUM.out, HDR.out]; omega⟩
        have hown3 := HNX3.out.parts.kids
        have x5 := HNX3.out.c5
        rw [HP1.out] at hown3 x5
        have e2 := HE3.out.cell 2 HC2.out
        have hbs3 : base ≤ w3.heap.size := Nat.le_trans HE3.out.low (Nat.le_trans HE3.out.le (Nat.le_of_lt HE3.out.lt))
        have htw : (Lit.int .i64 (t : Int)).wf = true := WalkArith.wf_i64 (by have := HTL.out; have := HTR.out.small; omega)
        have HINS := Lib.hid (insertI A1 x.kids.length c1 i x.kids t w3.heap.size (w3.drew.alloc (.cells #[.int .i64 (t : Int)] 3)) base ((OwnF.drew hown3).al _) hil (by omega) (Nat.le_trans hbs3 (by simp)) htw (heap_alloc_new w3.drew _) (fun h => by have := (Own.lt hown3 _ h).2; omega))
        have hgi : g ≠ w.heap.size := by have := HE3.out.lt; have := HE3.out.le; intro h; exact own_ne_block (by decide) HE3.out.at_.ed.row HE3.out.box (by rw [h]; rfl)
        have hgo : (Value.slice A1 x.kids.length c1).ownBlock ≠ some g := fun h => by
          obtain ⟨cur, hcur⟩ := own_block_at HE3.out.at_.ed.row (rfl : (Value.slice (some ⟨g, 0, none⟩) l.length c).ownBlock = some g)
          exact own_ne_block (by decide) hown3 hcur h
        have hbo : (Value.slice A1 x.kids.length c1).ownBlock ≠ some w.heap.size := own_ne_block (by decide) hown3 HE3.out.box
        have HGO := Lib.hid hgo
        have HBO := Lib.hid hbo
        have HBS := Lib.hid hbs3
        have HTW := Lib.hid htw
        have HGL := Lib.hid HNX3.out.lt
        have HOWN3 := Lib.hid hown3
        clear hF hown3 hbs3 htw hgi hgo hbo hU hU2 hD hD41 HR4
        go_upto_region 17 with fail
        refine wp_region_G (S := (fun w' : World => w'.cell? ⟨g, m * 6 + 5, none⟩ = some (.slice A1 x.kids.length c1) ∧ w'.cell? ⟨w.heap.size, 2, none⟩ = some (.int .i64 t))) (T := [12]) (by kernel_rfl) ?_
        have hS : (fun w' : World => w'.cell? ⟨g, m * 6 + 5, none⟩ = some (.slice A1 x.kids.length c1) ∧ w'.cell? ⟨w.heap.size, 2, none⟩ = some (.int .i64 t)) w3.drew := ⟨x5, e2⟩
        refine wpAnyG_take (i := 0) (v := ?_) rfl (by kernel_rfl) (by kernel_rfl) (by kernel_rfl) (by kernel_rfl) (fun _ _ _ h => h) hS rfl ?_ ?_
        rotate_left
        · intro w' hSw
          (try dsimp only at hSw)
          first | (go_simp; done) | (go_simp; with_reducible rfl)
        refine wpAnyG_take (i := 1) (v := ?_) rfl (by kernel_rfl) (by kernel_rfl) (by kernel_rfl) (by kernel_rfl) (fun _ _ _ h => h) hS rfl ?_ ?_
        rotate_left
        · intro w' hSw
          (try dsimp only at hSw)
          first | (go_simp; done) | (go_simp; with_reducible rfl)
        refine wpAnyG_take (i := 2) (v := ?_) rfl (by kernel_rfl) (by kernel_rfl) (by kernel_rfl) (by kernel_rfl) (fun _ _ _ h => h) hS rfl ?_ ?_
        rotate_left
        · intro w' hSw
          (try dsimp only at hSw)
          first | (go_simp; done) | (go_simp; with_reducible rfl)
        refine wpAnyG_take (i := 3) (v := ?_) rfl (by kernel_rfl) (by kernel_rfl) (by kernel_rfl) (by kernel_rfl) (fun _ _ _ h => h) hS rfl ?_ ?_
        rotate_left
        · intro w' hSw
          (try dsimp only at hSw)
          first | (go_simp; done) | (go_simp; with_reducible rfl)
        refine wpAnyG_take (i := 4) (v := ?_) rfl (by kernel_rfl) (by kernel_rfl) (by kernel_rfl) (by kernel_rfl) (fun _ _ _ h => h) hS rfl ?_ ?_
        rotate_left
        · intro w' hSw
          (try dsimp only at hSw)
          first | (go_simp; done) | (go_simp; with_reducible rfl)
        refine wpAnyG_take (i := 5) (v := ?_) rfl (by kernel_rfl) (by kernel_rfl) (by kernel_rfl) (by kernel_rfl) (fun _ _ _ h => h) hS rfl ?_ ?_
        rotate_left
        · intro w' hSw
          (try dsimp only at hSw)
          first | (go_simp; done) | (go_simp; with_reducible rfl)
        refine wpAnyG_take (i := 6) (v := ?_) rfl (by kernel_rfl) (by kernel_rfl) (by kernel_rfl) (by kernel_rfl) (fun _ _ _ h => h) hS rfl ?_ ?_
        rotate_left
        · intro w' hSw
          (try dsimp only at hSw)
          first | (go_simp; done) | (go_simp; with_reducible rfl)
        refine wpAnyG_take (i := 7) (v := ?_) rfl (by kernel_rfl) (by kernel_rfl) (by kernel_rfl) (by kernel_rfl) (fun _ _ _ h => h) hS rfl ?_ ?_
        rotate_left
        · intro w' hSw
          (try dsimp only at hSw)
          first | (go_simp; done) | (go_simp; with_reducible rfl)
        refine wpAnyG_one (i := 8) (by kernel_rfl) rfl rfl (fun K hK => ?_)
        go_simp
        refine hK.out _ _ (fun _ _ => ⟨cell_al (w := w3.drew) x5 _, cell_al (w := w3.drew) e2 _⟩) ?_
        clear hK K hS
        refine wpAnyG_one (i := 9) (by kernel_rfl) rfl rfl (fun K hK => ?_)
        go_simp
        go_at_call 184
        refine HINS.out.mono ?_
        rintro e' w4 ⟨v', rfl, hown4, hg4, hv4⟩
        obtain ⟨A5, c5, rfl⟩ := Own.form hown4
        have hg34 : w3.grownBy w4 (Value.slice A1 x.kids.length c1).ownBlock := grownBy.trans' (grownBy.trans' (grown_drew w3 _) (grown_al _ _ _)) hg4
        have hbg := hg34.block g HGL.out (fun h => HGO.out h.symm)
        have hbe := hg34.block w.heap.size HE3.out.lt (fun h => HBO.out h.symm)
        have x54 := cell_same hbg x5
        have e24 := cell_same hbe e2
        go_wp2_with fail
        refine hK.out _ _ (fun _ _ => ⟨x54, e24⟩) ?_
        clear hK K
        have hS : (fun w' : World => w'.cell? ⟨g, m * 6 + 5, none⟩ = some (.slice A1 x.kids.length c1) ∧ w'.cell? ⟨w.heap.size, 2, none⟩ = some (.int .i64 t)) w4 := ⟨x54, e24⟩
        have HE4 := Lib.hid (HE3.out.at_.kids HM.out HPX.out (w1 := w4) (v := .slice A5 (x.kids.length + 1) c5) (ks := x.kids.take i ++ (t : Int) :: x.kids.drop i) (by rw [HP1.out]; exact hg34) (by
          have hl : (x.kids.take i ++ (t : Int) :: x.kids.drop i).length = x.kids.length + 1 := by
            rw [List.perm_middle.length_eq, List.take_append_drop, List.length_cons]
          rw [hl]; exact hown4) (by
          rw [HP1.out]
          rcases hv4 with h | h
          · exact Or.inl h
          · exact Or.inr ⟨_, h, by simp⟩) (by
          rw [List.perm_middle.length_eq, List.take_append_drop, List.length_cons]
          omega))
        have HB4 := Lib.hid (HB3.out.grown hg34 (by have := HBS.out; have := HB3.out.size; omega) (fun k hk => (Own.lt HOWN3.out k hk).1))
        have f4 : w4.frozen? ⟨g, m * 6 + 5, none⟩ = false := by
          have := HNX3.out.free (m * 6 + 5)
          unfold World.frozen? at this ⊢
          rw [hbg]
          exact this
        clear hg34 hg4 hbg hown4 hv4 HINS x5 e2
        refine wpAnyG_one (i := 10) (by kernel_rfl) rfl rfl (fun K hK => ?_)
        go_simp
        refine hK.out _ _ (fun _ h => h) ?_
        clear hK K
        refine wpAnyG_one (i := 11) (by kernel_rfl) rfl rfl (fun K hK => ?_)
        go_simp
        refine hK.out _ _ (fun _ h => h) ?_
        clear hK K
        refine wpAnyG_one (i := 12) (by kernel_rfl) rfl rfl (fun K hK => ?_)
        go_simp
        refine hK.out _ _ (fun h => absurd (by decide) h) ?_
        clear hK K hS
        refine wpAnyG_done (by kernel_rfl) ?_ _
        obtain ⟨w5, hw5⟩ : ∃ w5, w5 = w4.setCell ⟨g, m * 6 + 5, none⟩ (.slice A5 (x.kids.length + 1) c5) := ⟨_, rfl⟩
        rw [← hw5]
        have HE5 := Lib.hid HE4.out
        rw [← hw5] at HE5
        have HB5 := Lib.hid (HB4.out.setCell (p := ⟨g, m * 6 + 5, none⟩) HNX3.out.low (.slice A5 (x.kids.length + 1) c5))
        rw [← hw5] at HB5
        have hbx5 : w5.heap[w.heap.size]? = some (.cells cells 64 (0, 0)) := by
          rw [hw5]
          refine (Below.heap_setCell _ _ _ _ (fun h => ?_)).trans (hbe.trans HE3.out.box)
          exact own_ne_block (by decide) HE3.out.at_.ed.row HE3.out.box (by rw [h]; rfl)
        have e1 : w5.cell? ⟨w.heap.size, 1, none⟩ = some (.int .i64 m) := cell_blk hbx5 HC1.out
        have hne := HIO.out.ne
        have ht5 : (l.set m { x with kids := x.kids.take i ++ (t : Int) :: x.kids.drop i })[t]? = some y := by rw [List.getElem?_set_ne hne]; exact HT.out
        have hp5 : (ps.set m (px.1, .slice A5 (x.kids.length + 1) c5))[t]? = some py := by rw [List.getElem?_set_ne hne]; exact HPY.out
        obtain ⟨p', hp', hnd5⟩ := HE5.out.node ht5
        have HT5 := Lib.hid ht5
        have HP5 := Lib.hid hp5
        have y4 := hnd5.c4
        have f5 := hnd5.free (t * 6 + 4)
        have HOK5 := Lib.hid hnd5.parts.ok
        have hmw : (Lit.int .i64 (m : Int)).wf = true := WalkArith.wf_i64 (by have := (List.getElem?_eq_some_iff.1 HM.out).1; have := HTR.out.small; omega)
        have HMW := Lib.hid hmw
        clear hw5 hbx5 hne ht5 hp5 hp' hnd5 hmw x54 e24 f4 hbe
        go_wp2_with fail
        go_ret
        have hE6 := HE5.out.plain (y := { y with parent := (m : Int) }) (j := 4) (u := .int .i64 m) HT5.out HP5.out (by decide) rfl rfl rfl ⟨HOK5.out.kind, HOK5.out.name, HOK5.out.text, HMW.out, HOK5.out.attrs, HOK5.out.kids⟩
        refine ⟨by rw [HR.out]; rfl, HB5.out.setCell (p := ⟨g, t * 6 + 4, none⟩) HNX3.out.low _, fun _ => ⟨g, c, ps.set m (px.1, .slice A5 (x.kids.length + 1) c5), ?_⟩⟩
        rw [HME.out, HTE.out, HIO.out.do_, HII.out]
        exact hE6
end Go.Proofs.YtpbngckplbnahaaGreatDoor

/-
The walks of package dom's editor: does, edit.
-/
namespace Go.Proofs.YtpbngckplbnahaaGreatDoor
open Go.RowKit Go.Cl
attribute [local go_sem ↓] Go.wp_at_zero Go.wp_at_succ

/-- A method of an editor's. -/
def methV (E f : Nat) : Value := .func (Fn.func f) #[.pointer (some ⟨E, 0, none⟩)] #[]
/-- What does an edit. -/
def doesV (E : Nat) (d : Int) : Value :=
  if d = 1 then methV E 139 else if d = 2 then methV E 140 else if d = 3 then methV E 141
  else if d = 4 then methV E 142 else if d = 5 then methV E 143 else if d = 6 then methV E 144 else .nilFunc
theorem does_any (w : World) (E : Nat) (d : Int) : Calls Tryz.prog 104 #[.pointer (some ⟨E, 0, none⟩), .int .i64 d] w fun e w' => e = .returned (doesV E d) ∧ w = w' := by
  have hmf : ∀ (fn : Fn) (first cap : Array Value) (w : World), (Instr.makeFunc fn first cap).run Tryz.prog w = .ok (.func fn first cap) w := fun _ _ _ _ => rfl
  by_cases h1 : d = 1
  · subst h1
    go_enter Tryz.func104, Tryz.ntmps104
    go_wp2_with fail
    go_ret
    exact ⟨rfl, rfl⟩
  by_cases h2 : d = 2
  · subst h2
    go_enter Tryz.func104, Tryz.ntmps104
    go_wp2_with fail
    go_ret
    exact ⟨rfl, rfl⟩
  by_cases h3 : d = 3
  · subst h3
    go_enter Tryz.func104, Tryz.ntmps104
    go_wp2_with fail
    go_ret
    exact ⟨rfl, rfl⟩
  by_cases h4 : d = 4
  · subst h4
    go_enter Tryz.func104, Tryz.ntmps104
    go_wp2_with fail
    go_ret
    exact ⟨rfl, rfl⟩
  by_cases h5 : d = 5
  · subst h5
    go_enter Tryz.func104, Tryz.ntmps104
    go_wp2_with fail
    go_ret
    exact ⟨rfl, rfl⟩
  by_cases h6 : d = 6
  · subst h6
    go_enter Tryz.func104, Tryz.ntmps104
    go_wp2_with fail
    go_ret
    exact ⟨rfl, rfl⟩
  have HR := Lib.hid (show doesV E d = .nilFunc from by unfold doesV; rw [if_neg h1, if_neg h2, if_neg h3, if_neg h4, if_neg h5, if_neg h6])
  have b1 : (d == 1) = false := beq_eq_false_iff_ne.2 h1
  have b2 : (d == 2) = false := beq_eq_false_iff_ne.2 h2
  have b3 : (d == 3) = false := beq_eq_false_iff_ne.2 h3
  have b4 : (d == 4) = false := beq_eq_false_iff_ne.2 h4
  have b5 : (d == 5) = false := beq_eq_false_iff_ne.2 h5
  have b6 : (d == 6) = false := beq_eq_false_iff_ne.2 h6
  clear h1 h2 h3 h4 h5 h6
  go_enter Tryz.func104, Tryz.ntmps104
  go_wp2_with fail
  go_ret
  exact ⟨by rw [HR.out]; rfl, rfl⟩

/-- Function values against nil. -/
theorem eql_nil_func {ps rs : Array TypeId} {v : Bool} (ht : Tryz.prog.underlying 118 = some (.func ps rs v)) (w : World) (F : Fn) (a c : Array Value) : (binOp .eql 118 (.func F a c) .nilFunc).run Tryz.prog w = .ok (.bool false) w := by
  have h : ∀ d : Nat, (Op.equalIn (d + 1) 118 (.func F a c) .nilFunc).run Tryz.prog w = .ok false w := fun d => by
    simp [Op.equalIn, run_underlying ht]
  simp only [binOp]
  simp [Op.equal, Op.maxDepth, h 9999]
theorem eql_nil_nil {ps rs : Array TypeId} {v : Bool} (ht : Tryz.prog.underlying 118 = some (.func ps rs v)) (w : World) : (binOp .eql 118 .nilFunc .nilFunc).run Tryz.prog w = .ok (.bool true) w := by
  have h : ∀ d : Nat, (Op.equalIn (d + 1) 118 .nilFunc .nilFunc).run Tryz.prog w = .ok true w := fun d => by
    simp [Op.equalIn, run_underlying ht]
  simp only [binOp]
  simp [Op.equal, Op.maxDepth, h 9999]
set_option maxRecDepth 100000 in
set_option maxHeartbeats 1000000 in
theorem edit_attr (w : World) (E base : Nat) (q : Bool) (err : Int) (l' : List Nd) (made' : Int) (e : Edt) (Aa : Option Addr) (na ca : Nat) (Ak : Option Addr) (nk ck : Nat) (hd : doesV E e.do_ = methV E 139) (hB : base ≤ w.heap.size)
    (h : ∀ w1 : World, w1 = w.alloc (.cells (edtCells e Aa na ca Ak nk ck) 64) → Calls Tryz.prog 139 #[.pointer (some ⟨E, 0, none⟩), .agg (edtCells e Aa na ca Ak nk ck)] w1 (EdPost E base q err l' made' w1)) :
    Calls Tryz.prog 54 #[.pointer (some ⟨E, 0, none⟩), .agg (edtCells e Aa na ca Ak nk ck)] w (EdPost E base q err l' made' w) := by
  obtain ⟨w0, hw0⟩ : ∃ w0, w0 = w.alloc (.cells (edtCells e Aa na ca Ak nk ck) 64) := ⟨_, rfl⟩
  have hbx : w0.heap[w.heap.size]? = some (.cells (edtCells e Aa na ca Ak nk ck) 64 (0, 0)) := by rw [hw0]; exact heap_alloc_new w _
  have hb0 : Below base w w0 := by rw [hw0]; exact (Below.refl _ _).alloc hB _
  have H := Lib.hid (h w0 hw0)
  have HD := Lib.hid (does_any w0 E e.do_)
  rw [hd] at HD
  have HB0 := Lib.hid hb0
  have e0 : w0.cell? ⟨w.heap.size, 0, none⟩ = some (.int .i64 e.do_) := cell_blk hbx rfl
  have e1 : w0.cell? ⟨w.heap.size, 1, none⟩ = some (.int .i64 e.at_) := cell_blk hbx rfl
  have e2 : w0.cell? ⟨w.heap.size, 2, none⟩ = some (.int .i64 e.to_) := cell_blk hbx rfl
  have e3 : w0.cell? ⟨w.heap.size, 3, none⟩ = some (.int .i64 e.before) := cell_blk hbx rfl
  have e4 : w0.cell? ⟨w.heap.size, 4, none⟩ = some (.string e.name) := cell_blk hbx rfl
  have e5 : w0.cell? ⟨w.heap.size, 5, none⟩ = some (.string e.value) := cell_blk hbx rfl
  have e6 : w0.cell? ⟨w.heap.size, 6, none⟩ = some (.int .i64 e.node.kind) := cell_blk hbx rfl
  have e7 : w0.cell? ⟨w.heap.size, 7, none⟩ = some (.string e.node.name) := cell_blk hbx rfl
  have e8 : w0.cell? ⟨w.heap.size, 8, none⟩ = some (.slice Aa na ca) := cell_blk hbx rfl
  have e9 : w0.cell? ⟨w.heap.size, 9, none⟩ = some (.string e.node.text) := cell_blk hbx rfl
  have e10 : w0.cell? ⟨w.heap.size, 10, none⟩ = some (.int .i64 e.node.parent) := cell_blk hbx rfl
  have e11 : w0.cell? ⟨w.heap.size, 11, none⟩ = some (.slice Ak nk ck) := cell_blk hbx rfl
  clear h hb0 hbx hd
  unfold methV at *
  have hnn := eql_nil_func Tryz.underlying118
  go_enter Tryz.func54, Tryz.ntmps54
  unfold edtCells at *
  go_upto_region 1 with fail
  rw [← hw0]
  clear hw0
  go_upto_region 2 with (go_at_call 104; refine HD.out.mono ?_; rintro e' w1 ⟨rfl, rfl⟩)
  go_wp2_with (go_at_call 139; refine H.out.mono ?_; rintro e' w1 ⟨rfl, hb1, hp1⟩)
  go_ret
  exact ⟨rfl, HB0.out.trans hb1, hp1⟩
set_option maxRecDepth 100000 in
set_option maxHeartbeats 1000000 in
theorem edit_drop (w : World) (E base : Nat) (q : Bool) (err : Int) (l' : List Nd) (made' : Int) (e : Edt) (Aa : Option Addr) (na ca : Nat) (Ak : Option Addr) (nk ck : Nat) (hd : doesV E e.do_ = methV E 140) (hB : base ≤ w.heap.size)
    (h : ∀ w1 : World, w1 = w.alloc (.cells (edtCells e Aa na ca Ak nk ck) 64) → Calls Tryz.prog 140 #[.pointer (some ⟨E, 0, none⟩), .agg (edtCells e Aa na ca Ak nk ck)] w1 (EdPost E base q err l' made' w1)) :
    Calls Tryz.prog 54 #[.pointer (some ⟨E, 0, none⟩), .agg (edtCells e Aa na ca Ak nk ck)] w (EdPost E base q err l' made' w) := by
  obtain ⟨w0, hw0⟩ : ∃ w0, w0 = w.alloc (.cells (edtCells e Aa na ca Ak nk ck) 64) := ⟨_, rfl⟩
  have hbx : w0.heap[w.heap.size]? = some (.cells (edtCells e Aa na ca Ak nk ck) 64 (0, 0)) := by rw [hw0]; exact heap_alloc_new w _
  have hb0 : Below base w w0 := by rw [hw0]; exact (Below.refl _ _).alloc hB _
  have H := Lib.hid (h w0 hw0)
  have HD := Lib.hid (does_any w0 E e.do_)
  rw [hd] at HD
  have HB0 := Lib.hid hb0
  have e0 : w0.cell? ⟨w.heap.size, 0, none⟩ = some (.int .i64 e.do_) := cell_blk hbx rfl
  have e1 : w0.cell? ⟨w.heap.size, 1, none⟩ = some (.int .i64 e.at_) := cell_blk hbx rfl
  have e2 : w0.cell? ⟨w.heap.size, 2, none⟩ = some (.int .i64 e.to_) := cell_blk hbx rfl
  have e3 : w0.cell? ⟨w.heap.size, 3, none⟩ = some (.int .i64 e.before) := cell_blk hbx rfl
  have e4 : w0.cell? ⟨w.heap.size, 4, none⟩ = some (.string e.name) := cell_blk hbx rfl
  have e5 : w0.cell? ⟨w.heap.size, 5, none⟩ = some (.string e.value) := cell_blk hbx rfl
  have e6 : w0.cell? ⟨w.heap.size, 6, none⟩ = some (.int .i64 e.node.kind) := cell_blk hbx rfl
  have e7 : w0.cell? ⟨w.heap.size, 7, none⟩ = some (.string e.node.name) := cell_blk hbx rfl
  have e8 : w0.cell? ⟨w.heap.size, 8, none⟩ = some (.slice Aa na ca) := cell_blk hbx rfl
  have e9 : w0.cell? ⟨w.heap.size, 9, none⟩ = some (.string e.node.text) := cell_blk hbx rfl
  have e10 : w0.cell? ⟨w.heap.size, 10, none⟩ = some (.int .i64 e.node.parent) := cell_blk hbx rfl
  have e11 : w0.cell? ⟨w.heap.size, 11, none⟩ = some (.slice Ak nk ck) := cell_blk hbx rfl
  clear h hb0 hbx hd
  unfold methV at *
  have hnn := eql_nil_func Tryz.underlying118
  go_enter Tryz.func54, Tryz.ntmps54
  unfold edtCells at *
  go_upto_region 1 with fail
  rw [← hw0]
  clear hw0
  go_upto_region 2 with (go_at_call 104; refine HD.out.mono ?_; rintro e' w1 ⟨rfl, rfl⟩)
  go_wp2_with (go_at_call 140; refine H.out.mono ?_; rintro e' w1 ⟨rfl, hb1, hp1⟩)
  go_ret
  exact ⟨rfl, HB0.out.trans hb1, hp1⟩
set_option maxRecDepth 100000 in
set_option maxHeartbeats 1000000 in
theorem edit_text (w : World) (E base : Nat) (q : Bool) (err : Int) (l' : List Nd) (made' : Int) (e : Edt) (Aa : Option Addr) (na ca : Nat) (Ak : Option Addr) (nk ck : Nat) (hd : doesV E e.do_ = methV E 141) (hB : base ≤ w.heap.size)
    (h : ∀ w1 : World, w1 = w.alloc (.cells (edtCells e Aa na ca Ak nk ck) 64) → Calls Tryz.prog 141 #[.pointer (some ⟨E, 0, none⟩), .agg (edtCells e Aa na ca Ak nk ck)] w1 (EdPost E base q err l' made' w1)) :
    Calls Tryz.prog 54 #[.pointer (some ⟨E, 0, none⟩), .agg (edtCells e Aa na ca Ak nk ck)] w (EdPost E base q err l' made' w) := by
  obtain ⟨w0, hw0⟩ : ∃ w0, w0 = w.alloc (.cells (edtCells e Aa na ca Ak nk ck) 64) := ⟨_, rfl⟩
  have hbx : w0.heap[w.heap.size]? = some (.cells (edtCells e Aa na ca Ak nk ck) 64 (0, 0)) := by rw [hw0]; exact heap_alloc_new w _
  have hb0 : Below base w w0 := by rw [hw0]; exact (Below.refl _ _).alloc hB _
  have H := Lib.hid (h w0 hw0)
  have HD := Lib.hid (does_any w0 E e.do_)
  rw [hd] at HD
  have HB0 := Lib.hid hb0
  have e0 : w0.cell? ⟨w.heap.size, 0, none⟩ = some (.int .i64 e.do_) := cell_blk hbx rfl
  have e1 : w0.cell? ⟨w.heap.size, 1, none⟩ = some (.int .i64 e.at_) := cell_blk hbx rfl
  have e2 : w0.cell? ⟨w.heap.size, 2, none⟩ = some (.int .i64 e.to_) := cell_blk hbx rfl
  have e3 : w0.cell? ⟨w.heap.size, 3, none⟩ = some (.int .i64 e.before) := cell_blk hbx rfl
  have e4 : w0.cell? ⟨w.heap.size, 4, none⟩ = some (.string e.name) := cell_blk hbx rfl
  have e5 : w0.cell? ⟨w.heap.size, 5, none⟩ = some (.string e.value) := cell_blk hbx rfl
  have e6 : w0.cell? ⟨w.heap.size, 6, none⟩ = some (.int .i64 e.node.kind) := cell_blk hbx rfl
  have e7 : w0.cell? ⟨w.heap.size, 7, none⟩ = some (.string e.node.name) := cell_blk hbx rfl
  have e8 : w0.cell? ⟨w.heap.size, 8, none⟩ = some (.slice Aa na ca) := cell_blk hbx rfl
  have e9 : w0.cell? ⟨w.heap.size, 9, none⟩ = some (.string e.node.text) := cell_blk hbx rfl
  have e10 : w0.cell? ⟨w.heap.size, 10, none⟩ = some (.int .i64 e.node.parent) := cell_blk hbx rfl
  have e11 : w0.cell? ⟨w.heap.size, 11, none⟩ = some (.slice Ak nk ck) := cell_blk hbx rfl
  clear h hb0 hbx hd
  unfold methV at *
  have hnn := eql_nil_func Tryz.underlying118
  go_enter Tryz.func54, Tryz.ntmps54
  unfold edtCells at *
  go_upto_region 1 with fail
  rw [← hw0]
  clear hw0
  go_upto_region 2 with (go_at_call 104; refine HD.out.mono ?_; rintro e' w1 ⟨rfl, rfl⟩)
  go_wp2_with (go_at_call 141; refine H.out.mono ?_; rintro e' w1 ⟨rfl, hb1, hp1⟩)
  go_ret
  exact ⟨rfl, HB0.out.trans hb1, hp1⟩
set_option maxRecDepth 100000 in
set_option maxHeartbeats 1000000 in
theorem edit_make (w : World) (E base : Nat) (q : Bool) (err : Int) (l' : List Nd) (made' : Int) (e : Edt) (Aa : Option Addr) (na ca : Nat) (Ak : Option Addr) (nk ck : Nat) (hd : doesV E e.do_ = methV E 142) (hB : base ≤ w.heap.size)
    (h : ∀ w1 : World, w1 = w.alloc (.cells (edtCells e Aa na ca Ak nk ck) 64) → Calls Tryz.prog 142 #[.pointer (some ⟨E, 0, none⟩), .agg (edtCells e Aa na ca Ak nk ck)] w1 (EdPost E base q err l' made' w1)) :
    Calls Tryz.prog 54 #[.pointer (some ⟨E, 0, none⟩), .agg (edtCells e Aa na ca Ak nk ck)] w (EdPost E base q err l' made' w) := by
  obtain ⟨w0, hw0⟩ : ∃ w0, w0 = w.alloc (.cells (edtCells e Aa na ca Ak nk ck) 64) := ⟨_, rfl⟩
  have hbx : w0.heap[w.heap.size]? = some (.cells (edtCells e Aa na ca Ak nk ck) 64 (0, 0)) := by rw [hw0]; exact heap_alloc_new w _
  have hb0 : Below base w w0 := by rw [hw0]; exact (Below.refl _ _).alloc hB _
  have H := Lib.hid (h w0 hw0)
  have HD := Lib.hid (does_any w0 E e.do_)
  rw [hd] at HD
  have HB0 := Lib.hid hb0
  have e0 : w0.cell? ⟨w.heap.size, 0, none⟩ = some (.int .i64 e.do_) := cell_blk hbx rfl
  have e1 : w0.cell? ⟨w.heap.size, 1, none⟩ = some (.int .i64 e.at_) := cell_blk hbx rfl
  have e2 : w0.cell? ⟨w.heap.size, 2, none⟩ = some (.int .i64 e.to_) := cell_blk hbx rfl
  have e3 : w0.cell? ⟨w.heap.size, 3, none⟩ = some (.int .i64 e.before) := cell_blk hbx rfl
  have e4 : w0.cell? ⟨w.heap.size, 4, none⟩ = some (.string e.name) := cell_blk hbx rfl
  have e5 : w0.cell? ⟨w.heap.size, 5, none⟩ = some (.string e.value) := cell_blk hbx rfl
  have e6 : w0.cell? ⟨w.heap.size, 6, none⟩ = some (.int .i64 e.node.kind) := cell_blk hbx rfl
  have e7 : w0.cell? ⟨w.heap.size, 7, none⟩ = some (.string e.node.name) := cell_blk hbx rfl
  have e8 : w0.cell? ⟨w.heap.size, 8, none⟩ = some (.slice Aa na ca) := cell_blk hbx rfl
  have e9 : w0.cell? ⟨w.heap.size, 9, none⟩ = some (.string e.node.text) := cell_blk hbx rfl
  have e10 : w0.cell? ⟨w.heap.size, 10, none⟩ = some (.int .i64 e.node.parent) := cell_blk hbx rfl
  have e11 : w0.cell? ⟨w.heap.size, 11, none⟩ = some (.slice Ak nk ck) := cell_blk hbx rfl
  clear h hb0 hbx hd
  unfold methV at *
  have hnn := eql_nil_func Tryz.underlying118
  go_enter Tryz.func54, Tryz.ntmps54
  unfold edtCells at *
  go_upto_region 1 with fail
  rw [← hw0]
  clear hw0
  go_upto_region 2 with (go_at_call 104; refine HD.out.mono ?_; rintro e' w1 ⟨rfl, rfl⟩)
  go_wp2_with (go_at_call 142; refine H.out.mono ?_; rintro e' w1 ⟨rfl, hb1, hp1⟩)
  go_ret
  exact ⟨rfl, HB0.out.trans hb1, hp1⟩
set_option maxRecDepth 100000 in
set_option maxHeartbeats 1000000 in
theorem edit_insert (w : World) (E base : Nat) (q : Bool) (err : Int) (l' : List Nd) (made' : Int) (e : Edt) (Aa : Option Addr) (na ca : Nat) (Ak : Option Addr) (nk ck : Nat) (hd : doesV E e.do_ = methV E 143) (hB : base ≤ w.heap.size)
    (h : ∀ w1 : World, w1 = w.alloc (.cells (edtCells e Aa na ca Ak nk ck) 64) → Calls Tryz.prog 143 #[.pointer (some ⟨E, 0, none⟩), .agg (edtCells e Aa na ca Ak nk ck)] w1 (EdPost E base q err l' made' w1)) :
    Calls Tryz.prog 54 #[.pointer (some ⟨E, 0, none⟩), .agg (edtCells e Aa na ca Ak nk ck)] w (EdPost E base q err l' made' w) := by
  obtain ⟨w0, hw0⟩ : ∃ w0, w0 = w.alloc (.cells (edtCells e Aa na ca Ak nk ck) 64) := ⟨_, rfl⟩
  have hbx : w0.heap[w.heap.size]? = some (.cells (edtCells e Aa na ca Ak nk ck) 64 (0, 0)) := by rw [hw0]; exact heap_alloc_new w _
  have hb0 : Below base w w0 := by rw [hw0]; exact (Below.refl _ _).alloc hB _
  have H := Lib.hid (h w0 hw0)
  have HD := Lib.hid (does_any w0 E e.do_)
  rw [hd] at HD
  have HB0 := Lib.hid hb0
  have e0 : w0.cell? ⟨w.heap.size, 0, none⟩ = some (.int .i64 e.do_) := cell_blk hbx rfl
  have e1 : w0.cell? ⟨w.heap.size, 1, none⟩ = some (.int .i64 e.at_) := cell_blk hbx rfl
  have e2 : w0.cell? ⟨w.heap.size, 2, none⟩ = some (.int .i64 e.to_) := cell_blk hbx rfl
  have e3 : w0.cell? ⟨w.heap.size, 3, none⟩ = some (.int .i64 e.before) := cell_blk hbx rfl
  have e4 : w0.cell? ⟨w.heap.size, 4, none⟩ = some (.string e.name) := cell_blk hbx rfl
  have e5 : w0.cell? ⟨w.heap.size, 5, none⟩ = some (.string e.value) := cell_blk hbx rfl
  have e6 : w0.cell? ⟨w.heap.size, 6, none⟩ = some (.int .i64 e.node.kind) := cell_blk hbx rfl
  have e7 : w0.cell? ⟨w.heap.size, 7, none⟩ = some (.string e.node.name) := cell_blk hbx rfl
  have e8 : w0.cell? ⟨w.heap.size, 8, none⟩ = some (.slice Aa na ca) := cell_blk hbx rfl
  have e9 : w0.cell? ⟨w.heap.size, 9, none⟩ = some (.string e.node.text) := cell_blk hbx rfl
  have e10 : w0.cell? ⟨w.heap.size, 10, none⟩ = some (.int .i64 e.node.parent) := cell_blk hbx rfl
  have e11 : w0.cell? ⟨w.heap.size, 11, none⟩ = some (.slice Ak nk ck) := cell_blk hbx rfl
  clear h hb0 hbx hd
  unfold methV at *
  have hnn := eql_nil_func Tryz.underlying118
  go_enter Tryz.func54, Tryz.ntmps54
  unfold edtCells at *
  go_upto_region 1 with fail
  rw [← hw0]
  clear hw0
  go_upto_region 2 with (go_at_call 104; refine HD.out.mono ?_; rintro e' w1 ⟨rfl, rfl⟩)
  go_wp2_with (go_at_call 143; refine H.out.mono ?_; rintro e' w1 ⟨rfl, hb1, hp1⟩)
  go_ret
  exact ⟨rfl, HB0.out.trans hb1, hp1⟩
set_option maxRecDepth 100000 in
set_option maxHeartbeats 1000000 in
theorem edit_remove (w : World) (E base : Nat) (q : Bool) (err : Int) (l' : List Nd) (made' : Int) (e : Edt) (Aa : Option Addr) (na ca : Nat) (Ak : Option Addr) (nk ck : Nat) (hd : doesV E e.do_ = methV E 144) (hB : base ≤ w.heap.size)
    (h : ∀ w1 : World, w1 = w.alloc (.cells (edtCells e Aa na ca Ak nk ck) 64) → Calls Tryz.prog 144 #[.pointer (some ⟨E, 0, none⟩), .agg (edtCells e Aa na ca Ak nk ck)] w1 (EdPost E base q err l' made' w1)) :
    Calls Tryz.prog 54 #[.pointer (some ⟨E, 0, none⟩), .agg (edtCells e Aa na ca Ak nk ck)] w (EdPost E base q err l' made' w) := by
  obtain ⟨w0, hw0⟩ : ∃ w0, w0 = w.alloc (.cells (edtCells e Aa na ca Ak nk ck) 64) := ⟨_, rfl⟩
  have hbx : w0.heap[w.heap.size]? = some (.cells (edtCells e Aa na ca Ak nk ck) 64 (0, 0)) := by rw [hw0]; exact heap_alloc_new w _
  have hb0 : Below base w w0 := by rw [hw0]; exact (Below.refl _ _).alloc hB _
  have H := Lib.hid (h w0 hw0)
  have HD := Lib.hid (does_any w0 E e.do_)
  rw [hd] at HD
  have HB0 := Lib.hid hb0
  have e0 : w0.cell? ⟨w.heap.size, 0, none⟩ = some (.int .i64 e.do_) := cell_blk hbx rfl
  have e1 : w0.cell? ⟨w.heap.size, 1, none⟩ = some (.int .i64 e.at_) := cell_blk hbx rfl
  have e2 : w0.cell? ⟨w.heap.size, 2, none⟩ = some (.int .i64 e.to_) := cell_blk hbx rfl
  have e3 : w0.cell? ⟨w.heap.size, 3, none⟩ = some (.int .i64 e.before) := cell_blk hbx rfl
  have e4 : w0.cell? ⟨w.heap.size, 4, none⟩ = some (.string e.name) := cell_blk hbx rfl
  have e5 : w0.cell? ⟨w.heap.size, 5, none⟩ = some (.string e.value) := cell_blk hbx rfl
  have e6 : w0.cell? ⟨w.heap.size, 6, none⟩ = some (.int .i64 e.node.kind) := cell_blk hbx rfl
  have e7 : w0.cell? ⟨w.heap.size, 7, none⟩ = some (.string e.node.name) := cell_blk hbx rfl
  have e8 : w0.cell? ⟨w.heap.size, 8, none⟩ = some (.slice Aa na ca) := cell_blk hbx rfl
  have e9 : w0.cell? ⟨w.heap.size, 9, none⟩ = some (.string e.node.text) := cell_blk hbx rfl
  have e10 : w0.cell? ⟨w.heap.size, 10, none⟩ = some (.int .i64 e.node.parent) := cell_blk hbx rfl
  have e11 : w0.cell? ⟨w.heap.size, 11, none⟩ = some (.slice Ak nk ck) := cell_blk hbx rfl
  clear h hb0 hbx hd
  unfold methV at *
  have hnn := eql_nil_func Tryz.underlying118
  go_enter Tryz.func54, Tryz.ntmps54
  unfold edtCells at *
  go_upto_region 1 with fail
  rw [← hw0]
  clear hw0
  go_upto_region 2 with (go_at_call 104; refine HD.out.mono ?_; rintro e' w1 ⟨rfl, rfl⟩)
  go_wp2_with (go_at_call 144; refine H.out.mono ?_; rintro e' w1 ⟨rfl, hb1, hp1⟩)
  go_ret
  exact ⟨rfl, HB0.out.trans hb1, hp1⟩
set_option maxRecDepth 100000 in
set_option maxHeartbeats 1000000 in
theorem edit_none (w : World) (E base : Nat) (q : Bool) (l' : List Nd) (made' : Int) (e : Edt) (Aa : Option Addr) (na ca : Nat) (Ak : Option Addr) (nk ck : Nat) (hd : doesV E e.do_ = .nilFunc) (hB : base ≤ w.heap.size) :
    Calls Tryz.prog 54 #[.pointer (some ⟨E, 0, none⟩), .agg (edtCells e Aa na ca Ak nk ck)] w (EdPost E base q 1 l' made' w) := by
  obtain ⟨w0, hw0⟩ : ∃ w0, w0 = w.alloc (.cells (edtCells e Aa na ca Ak nk ck) 64) := ⟨_, rfl⟩
  have hbx : w0.heap[w.heap.size]? = some (.cells (edtCells e Aa na ca Ak nk ck) 64 (0, 0)) := by rw [hw0]; exact heap_alloc_new w _
  have hb0 : Below base w w0 := by rw [hw0]; exact (Below.refl _ _).alloc hB _
  have HD := Lib.hid (does_any w0 E e.do_)
  rw [hd] at HD
  have HB0 := Lib.hid hb0
  have e0 : w0.cell? ⟨w.heap.size, 0, none⟩ = some (.int .i64 e.do_) := cell_blk hbx rfl
  clear hb0 hbx hd
  have hnn := eql_nil_nil Tryz.underlying118
  go_enter Tryz.func54, Tryz.ntmps54
  unfold edtCells at *
  go_upto_region 1 with fail
  rw [← hw0]
  clear hw0
  go_wp2_with (go_at_call 104; refine HD.out.mono ?_; rintro e' w1 ⟨rfl, rfl⟩)
  go_ret
  exact ⟨rfl, HB0.out, fun h => absurd h (by decide)⟩
theorem edErr_at {l : List Nd} {e : Edt} : edErr l e = if e.do_ = 1 then attrErr l e.at_ e.name e.value else if e.do_ = 2 then dropErr l e.at_ e.name else if e.do_ = 3 then textErr l e.at_ e.value
  else if e.do_ = 4 then makeErr l e.node else if e.do_ = 5 then insErr l e.at_ e.to_ e.before else if e.do_ = 6 then remErr l e.at_ else 1 := rfl
theorem EdtOk.below {w w' : World} {B B' : Nat} {e : Edt} {Aa : Option Addr} {na ca : Nat} {Ak : Option Addr} {nk ck : Nat} (h : EdtOk w (lt B) e Aa na ca Ak nk ck) (hb : Below B' w w') (hB : B ≤ B') : EdtOk w' (lt B) e Aa na ca Ak nk ck :=
  ⟨h.node.below hb hB, h.at_, h.to_, h.before, h.name, h.value⟩
theorem NdAt.up {w : World} {B B' : Nat} {x : Nd} {Aa : Option Addr} {na ca : Nat} {Ak : Option Addr} {nk ck : Nat} (h : NdAt w (lt B) x Aa na ca Ak nk ck) (hB : B ≤ B') : NdAt w (lt B') x Aa na ca Ak nk ck :=
  ⟨h.attrs.up hB, h.kids.up hB, h.kind, h.name, h.text, h.parent⟩
/-- An edit of an editor's document. -/
theorem edit_any (w : World) (E g c base : Nat) (l : List Nd) (q : Bool) (made : Int) (ps : List (Value × Value)) (e : Edt) (Aa : Option Addr) (na ca : Nat) (Ak : Option Addr) (nk ck : Nat) (h : EdAt w E g c base l q made ps) (hg : Good l) (he : EdtOk w (lt base) e Aa na ca Ak nk ck) :
    Calls Tryz.prog 54 #[.pointer (some ⟨E, 0, none⟩), .agg (edtCells e Aa na ca Ak nk ck)] w (EdPost E base q (edErr l e) (edDo l e) (edMade l made e) w) := by
  have hB : base ≤ w.heap.size := Nat.le_trans h.le (Nat.le_of_lt h.lt)
  have key : ∀ w1 : World, w1 = w.alloc (.cells (edtCells e Aa na ca Ak nk ck) 64) → EdAt w1 E g c base l q made ps ∧ EdtOk w1 (lt base) e Aa na ca Ak nk ck ∧ base ≤ w1.heap.size := fun w1 hw1 => by
    have hb : Below w.heap.size w w1 := by rw [hw1]; exact (Below.refl _ _).alloc (Nat.le_refl _) _
    exact ⟨h.next hb, he.below hb hB, Nat.le_trans hB hb.size⟩
  unfold edErr edDo edMade
  by_cases h1 : e.do_ = 1
  · rw [if_pos h1, if_pos h1, if_neg (by omega)]
    exact edit_attr w E base q _ _ _ e Aa na ca Ak nk ck (by unfold doesV; rw [if_pos h1]) hB fun w1 hw1 => attr_any w1 E g c base l q made ps e Aa na ca Ak nk ck (key w1 hw1).1 (fun i x hx => ((nodeE_iff x).1 (hg.each x (List.mem_of_getElem? hx))).2.2.1.few) he.name he.value
  rw [if_neg h1, if_neg h1]
  by_cases h2 : e.do_ = 2
  · rw [if_pos h2, if_pos h2, if_neg (by omega)]
    exact edit_drop w E base q _ _ _ e Aa na ca Ak nk ck (by unfold doesV; rw [if_neg h1, if_pos h2]) hB fun w1 hw1 => drop_any w1 E g c base l q made ps e Aa na ca Ak nk ck (key w1 hw1).1
  rw [if_neg h2, if_neg h2]
  by_cases h3 : e.do_ = 3
  · rw [if_pos h3, if_pos h3, if_neg (by omega)]
    exact edit_text w E base q _ _ _ e Aa na ca Ak nk ck (by unfold doesV; rw [if_neg h1, if_neg h2, if_pos h3]) hB fun w1 hw1 => text_any w1 E g c base l q made ps e Aa na ca Ak nk ck (key w1 hw1).1 (by
      have k := (key w1 hw1).2.1
      exact ⟨k.node.up (key w1 hw1).2.2, k.at_, k.to_, k.before, k.name, k.value⟩)
  rw [if_neg h3, if_neg h3]
  by_cases h4 : e.do_ = 4
  · rw [if_pos h4, if_pos h4, if_pos h4]
    exact edit_make w E base q _ _ _ e Aa na ca Ak nk ck (by unfold doesV; rw [if_neg h1, if_neg h2, if_neg h3, if_pos h4]) hB fun w1 hw1 => make_any w1 E g c base l q made ps e Aa na ca Ak nk ck (key w1 hw1).1 hg (key w1 hw1).2.1.node
  rw [if_neg h4, if_neg h4, if_neg h4]
  by_cases h5 : e.do_ = 5
  · rw [if_pos h5, if_pos h5]
    exact edit_insert w E base q _ _ _ e Aa na ca Ak nk ck (by unfold doesV; rw [if_neg h1, if_neg h2, if_neg h3, if_neg h4, if_pos h5]) hB fun w1 hw1 => insert_any w1 E g c base l q made ps e Aa na ca Ak nk ck (key w1 hw1).1 hg
  rw [if_neg h5, if_neg h5]
  by_cases h6 : e.do_ = 6
  · rw [if_pos h6, if_pos h6]
    exact edit_remove w E base q _ _ _ e Aa na ca Ak nk ck (by unfold doesV; rw [if_neg h1, if_neg h2, if_neg h3, if_neg h4, if_neg h5, if_pos h6]) hB fun w1 hw1 => remove_any w1 E g c base l q made ps e Aa na ca Ak nk ck (key w1 hw1).1 hg
  rw [if_neg h6, if_neg h6]
  exact edit_none w E base q _ _ e Aa na ca Ak nk ck (by unfold doesV; rw [if_neg h1, if_neg h2, if_neg h3, if_neg h4, if_neg h5, if_neg h6]) hB
end Go.Proofs.YtpbngckplbnahaaGreatDoor
