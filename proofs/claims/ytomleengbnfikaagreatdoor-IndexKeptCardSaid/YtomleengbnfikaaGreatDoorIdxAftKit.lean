/-
An index kept, when its document is edited: what the walk of After wants.
-/
import Derived.Test.YtomleengbnfikaaGreatDoorIdxTurnD
import Derived.Test.YtomleengbnfikaaGreatDoorIdxTou
import Derived.Test.YtomleengbnfikaaGreatDoorIdxOwn
import Derived.Test.YtomleengbnfikaaGreatDoorIdxRank2
namespace Go.Proofs.YtomleengbnfikaaGreatDoor
open Go.RowKit Go.Cl
attribute [local go_sem ↓] Go.wp_at_zero Go.wp_at_succ

/-- Four lists of an index, read. -/
def IxAt (w : World) (lo : Nat) (L : Nat → List Ref) (V : Nat → Value) : Prop := ∀ i, i < 4 → ∃ A c, V i = .slice A (L i).length c ∧ Sl tRef w (rg lo w.heap.size) A (L i).length c (L i)
def AfPost (w : World) (l : List Nd) (q : Bool) (e : Edt) (e' : Ending) (w' : World) : Prop :=
  Below w.heap.size w w' ∧ ((edErr l e ≠ 0 ∧ e' = .returned (.tuple #[.agg #[.slice none 0 0, .bool false], .agg #[.slice none 0 0, .slice none 0 0, .slice none 0 0, .slice none 0 0], .int .i64 (edErr l e)])) ∨
    (edErr l e = 0 ∧ ∃ A' c' V, e' = .returned (.tuple #[.agg #[.slice A' (edDo l e).length c', .bool q], .agg #[V 0, V 1, V 2, V 3], .int .i64 0]) ∧ Sl tNd w' (rg w.heap.size w'.heap.size) A' (edDo l e).length c' (edDo l e) ∧ IxAt w' w.heap.size (anD (edDo l e)) V))
section
variable {w w1 w2 : World} {base K M : Nat} {rk rk' : Int → Int} {L L' : Nat → List Ref} {V V' : Nat → Value} {P P' : Nat → List Value}
theorem rf_rowsr {D : Nat → Prop} : ∀ (l : List Ref) (ps : List Value) (cells : List Value), ps.length = l.length → (∀ (i : Nat) r p, l[i]? = some r → ps[i]? = some p → OwnF (tInt .i64) w base 3 p r.2.length r.2) → (∀ r ∈ l, r.1.size ≤ 1152921504606846976 ∧ r.2.length ≤ 100000) → Row tR2 w D (List.zipWith rfRow l ps) cells → Row tRef w (rg base w.heap.size) l cells
  | [], [], cells, _, _, _, h => h
  | [], p :: ps, cells, h, _, _, _ => by simp at h
  | r :: l, [], cells, h, _, _, _ => by simp at h
  | r :: l, p :: ps, cells, h, hp, hw, hr => by
    rw [List.zipWith_cons_cons] at hr
    obtain ⟨c1, c2, rfl, ⟨rfl, _⟩, h2⟩ := hr
    have hpo := hp 0 r p rfl rfl
    obtain ⟨hw1, hw2⟩ := hw r (List.mem_cons_self ..)
    obtain ⟨A', c', rfl, hs⟩ := OwnF.slr hpo (by decide) (by show r.2.length * 8 ≤ _; omega)
    refine ⟨rfRow r _, c2, rfl, ⟨[.string r.1], _, rfl, ⟨rfl, hw1⟩, A', r.2.length, c', rfl, hs⟩, ?_⟩
    exact rf_rowsr l ps c2 (by simpa using h) (fun i z q hz hq => hp (i + 1) z q (by simpa using hz) (by simpa using hq)) (fun z hz => hw z (List.mem_cons_of_mem _ hz)) h2
theorem Rf.slr {A0 : Option Addr} {c : Nat} {l : List Ref} {ps : List Value} (h : Rf w base (.slice A0 l.length c) l ps) : Sl tRef w (rg base w.heap.size) A0 l.length c l := by
  have hs := Own.sl h.row (by decide) (by have := h.few; show l.length * 40 ≤ _; omega)
  refine ⟨rfl, hs.hc, by have := h.few; show l.length * 40 ≤ _; omega, hs.hm, hs.nil_, fun h0 => ?_⟩
  obtain ⟨b, o, cells, e, hD, hr, hc⟩ := hs.at_ h0
  exact ⟨b, o, cells, e, hD.elim False.elim id, rf_rowsr l ps cells h.len h.parts h.words hr, hc⟩
theorem KpAt.ix (h : KpAt w base K M rk L V P) : IxAt w base L V := fun i hi => by
  obtain ⟨A, c, e⟩ := Own.form (h.lists i hi).row
  have h1 := h.lists i hi
  rw [e] at h1
  exact ⟨A, c, e, h1.slr⟩
theorem IxAt.down {lo lo' : Nat} (h : IxAt w lo L V) (hl : lo' ≤ lo) : IxAt w lo' L V := fun i hi => by
  obtain ⟨A, c, e, hs⟩ := h i hi
  exact ⟨A, c, e, Sl.rgd hs hl (Nat.le_refl _)⟩
theorem Rf.down {A : Value} {l : List Ref} {ps : List Value} {b0 : Nat} (h : Rf w base A l ps) (hb : b0 ≤ base) : Rf w b0 A l ps := ⟨h.len, h.few, h.row.down hb, fun i r p hr hp => (h.parts i r p hr hp).down hb, h.words, h.apart⟩
/-- A list is set, that is new. -/
theorem KStep.own {i : Nat} {l' : List Ref} {v : Value} {ps : List Value} (h : KpAt w base K M rk L V P) (hi : i < 4) (hb : Below w.heap.size w w1) (hr : Rf w1 w.heap.size v l' ps) (hok : ROk rk l') (hne : ∀ r ∈ l', 0 < r.2.length) :
    ∃ V' P', KStep w base K M rk V P (upd L i l') (w1.setCell ⟨K, i, none⟩ v) V' P' := by
  have hbox1 : w1.heap[K]? = some (.cells (kpCells V M) 58 (0, 0)) := (hb.block K h.lt).trans h.box
  have hbw : base ≤ w.heap.size := Nat.le_trans h.low (Nat.le_of_lt h.lt)
  refine (KStep.of_list (e := .returned undef) h hi hok hne ⟨rfl, v, ps, set_blk (i := i) hbox1 _, ?_, ?_, fun b hb2 => .inr (hr.mine hb2).1⟩).2
  · exact (hr.set_box hbox1 (by decide) (by decide) v).down hbw
  · exact (Tou.of_below hb).trans (tou_set _ _ _ _) fun k _ e => .inl e
/-- Other ranks. -/
theorem KpAt.ranked {M' : Nat} (h : KpAt w base K M rk L V P) (hr : RkAt w M' rk') (hok : ∀ i, i < 4 → ROk rk' (L i)) : KpAt (w.setCell ⟨K, 4, none⟩ (.map (some M'))) base K M' rk' L V P := by
  have hk : (kpCells V M).setIfInBounds 4 (.map (some M')) = kpCells V M' := rfl
  refine ⟨?_, by exact h.low, fun i hi => (h.lists i hi).set_box h.box (by decide) (by decide) _, hok, h.ne, h.apart, hr.block (Below.heap_setCell _ _ _ _ fun e => hr.box h.box e)⟩
  rw [← hk]
  exact set_blk (i := 4) h.box _
end
theorem kept_mid {l : List Nd} (G : Good l) {e : Edt} (he : edErr l e = 0) (i : Nat) : ROk (rkA (preR (edDo l e) 0)) (dnTo l (touP l e) (anD l) (touP l e).length i) := by
  have T := tree_of (check_of G)
  have T' := tree_of (check_of (good_ed G he))
  have K := ed_kept G he
  have hx := T.pre_once T.pos
  have hy := T'.pre_once T'.pos
  rw [show ((0 : Nat) : Int) = 0 from rfl] at hx hy
  generalize edDo l e = l' at *
  generalize touP l e = Z at *
  have c0 : Can (rkA (preR l 0)) (fun w n => n ∈ preR l 0 ∧ w ∈ wN l i n) (anD l i) := (an_can hx i _ (Nat.le_refl _)).congr fun w n => by rw [List.take_length]
  have c1 : Can (rkA (preR l 0)) (fun w n => n ∈ preR l 0 ∧ n ∉ Z ∧ w ∈ wN l i n) (dnTo l Z (anD l) Z.length i) := (dn_can (T := Z) (l := l) (L := anD l) c0 _ (Nat.le_refl _)).congr fun w n => by
    rw [List.take_length]
    exact ⟨fun ⟨⟨h1, h2⟩, h3⟩ => ⟨h1, fun h => h3 ⟨h, h2⟩, h2⟩, fun ⟨h1, h2, h3⟩ => ⟨⟨h1, h3⟩, fun h => h2 h.1⟩⟩
  exact (c1.turn fun w w' a b h1 h2 h3 => rk_keep (p := fun x => decide (x ∉ Z)) hx hy K.ord h1.1 h2.1 (by simpa using h1.2.1) (by simpa using h2.2.1) h3).ok
theorem dn_few {l : List Nd} {T : List Int} {L : Nat → List Ref} (i : Nat) : ∀ k, allN (dnTo l T L k i) ≤ allN (L i)
  | 0 => Nat.le_refl _
  | k + 1 => by
    cases h : T[k]? with
    | none => rw [show dnTo l T L (k + 1) = dnTo l T L k from by rw [dnTo, h]]; exact dn_few i k
    | some n => rw [dn_next h]; exact Nat.le_trans (drop_all n _ _) (dn_few i k)
theorem up_few {rk : Int → Int} {l : List Nd} {T xs : List Int} {L : Nat → List Ref} (h : ∀ x ∈ l, ∀ a ∈ x.attrs, a.2.size ≤ 400) (i : Nat) : ∀ k, allN (upTo rk l T xs L k i) ≤ allN (L i) + 402 * k
  | 0 => Nat.le_refl _
  | k + 1 => by
    have ih := up_few (rk := rk) (T := T) (xs := xs) (L := L) h i k
    cases hk : T[k]? with
    | none => rw [show upTo rk l T xs L (k + 1) = upTo rk l T xs L k from by rw [upTo, hk]]; omega
    | some n =>
      rw [up_next hk]
      split
      · unfold turnL
        rw [step_all]
        have hw : ((wordsP (ndG l n))[i]?.getD []).length ≤ 402 := by
          refine words_few (fun a ha => ?_) i
          unfold ndG at ha
          cases hn : l[n.toNat]? with
          | none => rw [hn] at ha; simp [noNd] at ha
          | some x => rw [hn] at ha; exact h x (List.mem_of_getElem? hn) a ha
        omega
      · omega
/-- The results are set. -/
structure FinW (w W : World) (RD RI : Nat) (vd vb v0 v1 v2 v3 : Value) : Prop where
  doc : W.heap[RD]? = some (.cells #[vd, vb] 24 (0, 0))
  ix : W.heap[RI]? = some (.cells #[v0, v1, v2, v3] 29 (0, 0))
  tou : Tou (fun b => b = RD ∨ b = RI) w W
section
variable {w : World} {RD RI : Nat} {vd vb v0 v1 v2 v3 a b a0 a1 a2 a3 : Value}
theorem fin_di (hd : w.heap[RD]? = some (.cells #[a, b] 24 (0, 0))) (hi : w.heap[RI]? = some (.cells #[a0, a1, a2, a3] 29 (0, 0))) (hne : RI ≠ RD) :
    FinW w ((((((w.setCell ⟨RD, 0, none⟩ vd).setCell ⟨RD, 1, none⟩ vb).setCell ⟨RI, 0, none⟩ v0).setCell ⟨RI, 1, none⟩ v1).setCell ⟨RI, 2, none⟩ v2).setCell ⟨RI, 3, none⟩ v3) RD RI vd vb v0 v1 v2 v3 := by
  have other : ∀ (u : World) (i : Nat) (v : Value), (u.setCell ⟨RI, i, none⟩ v).heap[RD]? = u.heap[RD]? := fun u i v => Below.heap_setCell _ _ _ _ (Ne.symm hne)
  have other2 : ∀ (u : World) (i : Nat) (v : Value), (u.setCell ⟨RD, i, none⟩ v).heap[RI]? = u.heap[RI]? := fun u i v => Below.heap_setCell _ _ _ _ hne
  refine ⟨?_, ?_, ?_⟩
  · rw [other, other, other, other]
    exact set_blk (i := 1) (set_blk (i := 0) hd _) _
  · have h2 : ((w.setCell ⟨RD, 0, none⟩ vd).setCell ⟨RD, 1, none⟩ vb).heap[RI]? = some (.cells #[a0, a1, a2, a3] 29 (0, 0)) := by rw [other2, other2]; exact hi
    exact set_blk (i := 3) (set_blk (i := 2) (set_blk (i := 1) (set_blk (i := 0) h2 _) _) _) _
  · have s1 : ∀ (u : World) (i : Nat) (v : Value), Tou (fun b => b = RD ∨ b = RI) u (u.setCell ⟨RD, i, none⟩ v) := fun u i v => (tou_set u RD i v).mono fun _ _ e => .inl e
    have s2 : ∀ (u : World) (i : Nat) (v : Value), Tou (fun b => b = RD ∨ b = RI) u (u.setCell ⟨RI, i, none⟩ v) := fun u i v => (tou_set u RI i v).mono fun _ _ e => .inr e
    exact (((((s1 _ _ _).trans (s1 _ _ _) fun _ _ h => h).trans (s2 _ _ _) fun _ _ h => h).trans (s2 _ _ _) fun _ _ h => h).trans (s2 _ _ _) fun _ _ h => h).trans (s2 _ _ _) fun _ _ h => h
theorem fin_id (hd : w.heap[RD]? = some (.cells #[a, b] 24 (0, 0))) (hi : w.heap[RI]? = some (.cells #[a0, a1, a2, a3] 29 (0, 0))) (hne : RI ≠ RD) :
    FinW w ((((((w.setCell ⟨RI, 0, none⟩ v0).setCell ⟨RI, 1, none⟩ v1).setCell ⟨RI, 2, none⟩ v2).setCell ⟨RI, 3, none⟩ v3).setCell ⟨RD, 0, none⟩ vd).setCell ⟨RD, 1, none⟩ vb) RD RI vd vb v0 v1 v2 v3 := by
  have other : ∀ (u : World) (i : Nat) (v : Value), (u.setCell ⟨RI, i, none⟩ v).heap[RD]? = u.heap[RD]? := fun u i v => Below.heap_setCell _ _ _ _ (Ne.symm hne)
  have other2 : ∀ (u : World) (i : Nat) (v : Value), (u.setCell ⟨RD, i, none⟩ v).heap[RI]? = u.heap[RI]? := fun u i v => Below.heap_setCell _ _ _ _ hne
  refine ⟨?_, ?_, ?_⟩
  · have h2 : ((((w.setCell ⟨RI, 0, none⟩ v0).setCell ⟨RI, 1, none⟩ v1).setCell ⟨RI, 2, none⟩ v2).setCell ⟨RI, 3, none⟩ v3).heap[RD]? = some (.cells #[a, b] 24 (0, 0)) := by rw [other, other, other, other]; exact hd
    exact set_blk (i := 1) (set_blk (i := 0) h2 _) _
  · rw [other2, other2]
    exact set_blk (i := 3) (set_blk (i := 2) (set_blk (i := 1) (set_blk (i := 0) hi _) _) _) _
  · have s1 : ∀ (u : World) (i : Nat) (v : Value), Tou (fun b => b = RD ∨ b = RI) u (u.setCell ⟨RD, i, none⟩ v) := fun u i v => (tou_set u RD i v).mono fun _ _ e => .inl e
    have s2 : ∀ (u : World) (i : Nat) (v : Value), Tou (fun b => b = RD ∨ b = RI) u (u.setCell ⟨RI, i, none⟩ v) := fun u i v => (tou_set u RI i v).mono fun _ _ e => .inr e
    exact (((((s2 _ _ _).trans (s2 _ _ _) fun _ _ h => h).trans (s2 _ _ _) fun _ _ h => h).trans (s2 _ _ _) fun _ _ h => h).trans (s1 _ _ _) fun _ _ h => h).trans (s1 _ _ _) fun _ _ h => h
end
/-- Six cells, far from what is set. -/
abbrev S6 (TB K : Nat) (a b c d e f : Value) (w : World) : Prop := w.cell? ⟨TB, 0, none⟩ = some a ∧ w.cell? ⟨TB, 1, none⟩ = some b ∧ w.cell? ⟨K, 0, none⟩ = some c ∧ w.cell? ⟨K, 1, none⟩ = some d ∧ w.cell? ⟨K, 2, none⟩ = some e ∧ w.cell? ⟨K, 3, none⟩ = some f
theorem S6.set {TB K R i : Nat} {a b c d e f u : Value} {w : World} (h1 : R ≠ TB) (h2 : R ≠ K) (h : S6 TB K a b c d e f w) : S6 TB K a b c d e f (w.setCell ⟨R, i, none⟩ u) :=
  ⟨cell_far h1 h.1 _, cell_far h1 h.2.1 _, cell_far h2 h.2.2.1 _, cell_far h2 h.2.2.2.1 _, cell_far h2 h.2.2.2.2.1 _, cell_far h2 h.2.2.2.2.2 _⟩
theorem S6.drew {TB K : Nat} {a b c d e f : Value} {w : World} (h : S6 TB K a b c d e f w) : S6 TB K a b c d e f w.drew := h
theorem FinW.drew {w W : World} {RD RI : Nat} {vd vb v0 v1 v2 v3 : Value} (h : FinW w W RD RI vd vb v0 v1 v2 v3) : FinW w.drew W.drew RD RI vd vb v0 v1 v2 v3 := ⟨h.doc, h.ix, h.tou.os, h.tou.tape, h.tou.output, h.tou.size, h.tou.block⟩
end Go.Proofs.YtomleengbnfikaaGreatDoor
