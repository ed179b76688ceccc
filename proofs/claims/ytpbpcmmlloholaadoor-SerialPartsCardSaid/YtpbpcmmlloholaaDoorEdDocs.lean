/-
A document that is made the call's own node by node: what is own up to a number, and what is still another's.
-/
import Derived.Test.YtpbpcmmlloholaaDoorEdWalksA
import Derived.Test.YtpbpcmmlloholaaDoorEdBase
import Derived.Test.YtpbpcmmlloholaaDoorRegionG
import Derived.Test.YtpbpcmmlloholaaDoorEdWalksB
import Derived.Deep.DeepCutAuto
namespace Go.Proofs.YtpbpcmmlloholaaDoor
open Go.RowKit Go.Cl

/-- A slice pair that is another's. -/
def Others (w : World) (B : Nat) (x : Nd) (p : Value × Value) : Prop := ∃ Aa na ca Ak nk ck, p = (.slice Aa na ca, .slice Ak nk ck) ∧ NdAt w (lt B) x Aa na ca Ak nk ck
/-- A node of moderate size. -/
structure Mod (x : Nd) : Prop where
  attrs : x.attrs.length ≤ 12
  kids : x.kids.length ≤ 1000
structure Half (w : World) (base B : Nat) (A : Value) (l : List Nd) (ps : List (Value × Value)) (k : Nat) : Prop where
  len : ps.length = l.length
  few : l.length ≤ 100000
  row : OwnF tN6 w base 33 A l.length (List.zipWith ndRow l ps)
  done : ∀ (i : Nat) x p, i < k → l[i]? = some x → ps[i]? = some p → Parts w base x p
  todo : ∀ (i : Nat) x p, k ≤ i → l[i]? = some x → ps[i]? = some p → Others w B x p
  apart : ∀ (i j : Nat) p q, i < k → j < k → ps[i]? = some p → ps[j]? = some q → i ≠ j → (p.1.ownBlock = none ∨ p.1.ownBlock ≠ q.1.ownBlock) ∧ (p.2.ownBlock = none ∨ p.2.ownBlock ≠ q.2.ownBlock)
theorem Others.form {w : World} {B : Nat} {x : Nd} {p : Value × Value} (h : Others w B x p) : (∃ A n c, p.1 = .slice A n c) ∧ ∃ A n c, p.2 = .slice A n c := by
  obtain ⟨Aa, na, ca, Ak, nk, ck, rfl, _⟩ := h
  exact ⟨⟨_, _, _, rfl⟩, ⟨_, _, _, rfl⟩⟩
/-- A row of nodes, as cells over their slices. -/
theorem nd_split {w : World} {B : Nat} {D' : Nat → Prop} : ∀ (l : List Nd) (cells : List Value), Row tNd w (lt B) l cells → ∃ ps : List (Value × Value), ps.length = l.length ∧ Row tN6 w D' (List.zipWith ndRow l ps) cells ∧ ∀ (i : Nat) x p, l[i]? = some x → ps[i]? = some p → Others w B x p := by
  intro l
  induction l with
  | nil => intro cells h; exact ⟨[], rfl, h, fun i x p hx => by simp at hx⟩
  | cons x l ih =>
    intro cells h
    obtain ⟨c1, c2, rfl, h1, h2⟩ := h
    obtain ⟨Aa, na, ca, Ak, nk, ck, rfl, hn⟩ := nd_cells h1
    obtain ⟨ps, e1, e2, e3⟩ := ih c2 h2
    refine ⟨(.slice Aa na ca, .slice Ak nk ck) :: ps, by simp [e1], ⟨ndCells x Aa na ca Ak nk ck, c2, rfl, ⟨rfl, ndRow_ok (x := x) (p := (.slice Aa na ca, .slice Ak nk ck)) ⟨_, _, _, rfl⟩ ⟨_, _, _, rfl⟩⟩, e2⟩, fun i y p hy hp => ?_⟩
    cases i with
    | zero =>
      obtain rfl : x = y := by simpa using hy
      obtain rfl : (Value.slice Aa na ca, Value.slice Ak nk ck) = p := by simpa using hp
      exact ⟨_, _, _, _, _, _, rfl, hn⟩
    | succ i => exact e3 i y p (by simpa using hy) (by simpa using hp)
theorem half_of {w : World} {base B : Nat} {A : Value} {l : List Nd} (h : Own tNd w base 33 (lt B) A l.length l) (hl : l.length ≤ 100000) : ∃ ps, Half w base B A l ps 0 := by
  obtain ⟨cells, h1, h2⟩ := h
  obtain ⟨ps, e1, e2, e3⟩ := nd_split (D' := fun _ => False) l cells h2
  exact ⟨ps, e1, hl, ⟨cells, h1, e2⟩, fun i x p hi => absurd hi (by omega), fun i x p _ hx hp => e3 i x p hx hp, fun i j p q hi => absurd hi (by omega)⟩
section
variable {w w' w2 : World} {base B g n c : Nat} {A : Value} {l : List Nd} {ps : List (Value × Value)} {k : Nat}
theorem Half.ed (h : Half w base B A l ps k) (hk : l.length ≤ k) : Ed w base A l ps := by
  have hlen := h.len
  refine ⟨h.len, h.few, h.row, fun i x p hx hp => h.done i x p (by have := (List.getElem?_eq_some_iff.1 hx).1; omega) hx hp, fun i j p q hp hq hij => ?_⟩
  have h1 := (List.getElem?_eq_some_iff.1 hp).1
  have h2 := (List.getElem?_eq_some_iff.1 hq).1
  exact h.apart i j p q (by omega) (by omega) hp hq hij
theorem Others.below {x : Nd} {p : Value × Value} {B' : Nat} (h : Others w B x p) (hb : Below B' w w') (hB : B ≤ B') : Others w' B x p := by
  obtain ⟨Aa, na, ca, Ak, nk, ck, e, hn⟩ := h
  exact ⟨Aa, na, ca, Ak, nk, ck, e, hn.below hb hB⟩
theorem Half.next (h : Half w base B A l ps k) (hb : Below w.heap.size w w') (hB : B ≤ w.heap.size) : Half w' base B A l ps k :=
  ⟨h.len, h.few, h.row.below hb (Nat.le_refl _), fun i x p hi hx hp => (h.done i x p hi hx hp).below hb, fun i x p hi hx hp => (h.todo i x p hi hx hp).below hb hB, h.apart⟩
/-- Where the nodes lie. -/
theorem Half.where_ (h : Half w base B A l ps k) (h0 : 0 < l.length) : ∃ g c, A = .slice (some ⟨g, 0, none⟩) l.length c ∧ base ≤ g ∧ g < w.heap.size ∧ l.length ≤ c ∧ (∀ k, w.frozen? ⟨g, k, none⟩ = false) ∧
    ∀ (i : Nat) x p, l[i]? = some x → ps[i]? = some p → ∀ j u, (ndRow x p)[j]? = some u → w.cell? ⟨g, i * 6 + j, none⟩ = some u := by
  obtain ⟨A0, c, e⟩ := Own.form h.row
  have hrow := h.row
  rw [e] at hrow
  obtain ⟨g, cells, rfl, hb, hl, hr, hc, hf⟩ := Own.block hrow h0
  refine ⟨g, c, e, hb, hl, ?_, hf, fun i x p hx hp j u hu => ?_⟩
  · obtain ⟨_, h1, _⟩ := hrow
    rcases h1.2 with ⟨hv, h2⟩ | ⟨g', cap, cur, hv, _, _, hnc, _⟩
    · omega
    · injection hv with _ _ hv
      omega
  · obtain ⟨cs, ⟨rfl, _⟩, hj⟩ := hr.at_ (zip_at hx hp)
    exact hc _ _ (hj j u hu)
/-- One node more is the call's own. -/
theorem Half.step (h : Half w base B (.slice (some ⟨g, 0, none⟩) n c) l ps k) {x : Nd} {p : Value × Value} {v1 v2 : Value} (hx : l[k]? = some x) (hp : ps[k]? = some p) (hb : Below w.heap.size w w2) (hbase : base ≤ w.heap.size) (hB : B ≤ base)
    (h1 : OwnF tDA w2 w.heap.size 78 v1 x.attrs.length x.attrs) (h2 : OwnF (tInt .i64) w2 w.heap.size 3 v2 x.kids.length x.kids) (hm : Mod x) :
    Half ((w2.setCell ⟨g, k * 6 + 2, none⟩ v1).setCell ⟨g, k * 6 + 5, none⟩ v2) base B (.slice (some ⟨g, 0, none⟩) n c) l (ps.set k (v1, v2)) (k + 1) := by
  have hn : n = l.length := by
    obtain ⟨_, h3, _⟩ := h.row
    rcases h3.2 with ⟨hv, _⟩ | ⟨g', cap, cur, hv, _⟩
    · cases hv
    · injection hv
  subst hn
  have hgb : base ≤ g := (Own.lt h.row g rfl).1
  obtain ⟨w3, hw3⟩ : ∃ w3, w3 = w2.setCell ⟨g, k * 6 + 2, none⟩ v1 := ⟨_, rfl⟩
  obtain ⟨w4, hw4⟩ : ∃ w4, w4 = w3.setCell ⟨g, k * 6 + 5, none⟩ v2 := ⟨_, rfl⟩
  rw [← hw3, ← hw4]
  have hpf := (h.todo k x p (Nat.le_refl _) hx hp)
  have hv1 : ∃ A n c, v1 = .slice A n c := by obtain ⟨A, c, e⟩ := Own.form h1; exact ⟨_, _, _, e⟩
  have hv2 : ∃ A n c, v2 = .slice A n c := by obtain ⟨A, c, e⟩ := Own.form h2; exact ⟨_, _, _, e⟩
  have hg3 : w2.grownBy w3 (some g) := by rw [hw3]; exact grown_set _ _ _ _
  have hg4 : w3.grownBy w4 (some g) := by rw [hw4]; exact grown_set _ _ _ _
  have row2 : OwnF tN6 w2 base 33 (.slice (some ⟨g, 0, none⟩) l.length c) l.length (List.zipWith ndRow l ps) := h.row.below hb (Nat.le_refl _)
  have row3 : OwnF tN6 w3 base 33 (.slice (some ⟨g, 0, none⟩) l.length c) l.length ((List.zipWith ndRow l ps).set k (ndRow x (v1, p.2))) := by
    rw [hw3]
    exact Own.stored (T := tN6) row2 (fun _ h => h.elim) (zip_at hx hp) (j := 2) (by decide) (fun cs hcs => by
      obtain ⟨rfl, _⟩ := hcs
      exact ⟨rfl, ndRow_ok (x := x) (p := (v1, p.2)) hv1 hpf.form.2⟩)
  have hkl : k < (List.zipWith ndRow l ps).length := by
    have := (List.getElem?_eq_some_iff.1 hx).1
    have := (List.getElem?_eq_some_iff.1 hp).1
    rw [List.length_zipWith]
    omega
  have row4 : OwnF tN6 w4 base 33 (.slice (some ⟨g, 0, none⟩) l.length c) l.length (List.zipWith ndRow l (ps.set k (v1, v2))) := by
    have h4 := Own.stored (T := tN6) (u := v2) (y := ndRow x (v1, v2)) row3 (fun _ h => h.elim) (i := k) (List.getElem?_set_self hkl) (j := 5) (by decide) (fun cs hcs => by
      obtain ⟨rfl, _⟩ := hcs
      exact ⟨rfl, ndRow_ok (x := x) (p := (v1, v2)) hv1 hv2⟩)
    rw [List.set_set, zip_set, set_same hx] at h4
    rw [hw4]
    exact h4
  have keepP : ∀ {x : Nd} {p : Value × Value}, Parts w2 base x p → Parts w4 base x p := fun hP => by
    have a3 := ownF_kept hP.attrs hg3 (own_ne (by decide) hP.attrs row2)
    have k3 := ownF_kept hP.kids hg3 (own_ne (by decide) hP.kids row2)
    exact ⟨ownF_kept a3 hg4 (own_ne (by decide) a3 row3), ownF_kept k3 hg4 (own_ne (by decide) k3 row3), hP.ok⟩
  have hbB : Below B w w4 := by
    rw [hw4, hw3]
    exact ((hb.mono (Nat.le_trans hB hbase)).setCell (p := ⟨g, k * 6 + 2, none⟩) (Nat.le_trans hB hgb) _).setCell (p := ⟨g, k * 6 + 5, none⟩) (Nat.le_trans hB hgb) _
  have hpk := (List.getElem?_eq_some_iff.1 hp).1
  obtain ⟨Aa, na, ca, Ak, nk, ck, _, hna⟩ := hpf
  refine ⟨by rw [List.length_set]; exact h.len, h.few, row4, fun i y q hi hy hq => ?_, fun i y q hi hy hq => ?_, fun i j q1 q2 hi hj hq1 hq2 hij => ?_⟩
  · by_cases e : k = i
    · subst e
      rw [List.getElem?_set_self hpk] at hq
      obtain rfl := Option.some.inj hq
      rw [hx] at hy
      obtain rfl := Option.some.inj hy
      exact keepP ⟨Own.down h1 hbase, Own.down h2 hbase, ⟨hna.kind, hna.name, hna.text, hna.parent, Nat.le_trans hm.attrs (by decide), hm.kids⟩⟩
    · rw [List.getElem?_set_ne e] at hq
      exact keepP ((h.done i y q (by omega) hy hq).below hb)
  · rw [List.getElem?_set_ne (by omega)] at hq
    exact (h.todo i y q (by omega) hy hq).below hbB (Nat.le_refl _)
  · have old : ∀ (i : Nat) (q : Value × Value), i < k → ps[i]? = some q → (∀ b, q.1.ownBlock = some b → b < w.heap.size) ∧ ∀ b, q.2.ownBlock = some b → b < w.heap.size := fun i q hi hq => by
      obtain ⟨z, hz⟩ := get_some (l := l) (k := i) (by have := h.len; have := (List.getElem?_eq_some_iff.1 hq).1; omega)
      have hP := h.done i z q hi hz hq
      exact ⟨fun b hb => (Own.lt hP.attrs b hb).2, fun b hb => (Own.lt hP.kids b hb).2⟩
    by_cases e1 : k = i
    · subst e1
      rw [List.getElem?_set_self hpk] at hq1
      obtain rfl := Option.some.inj hq1
      rw [List.getElem?_set_ne hij] at hq2
      have ho := old j q2 (by omega) hq2
      refine ⟨?_, ?_⟩
      · cases hv : v1.ownBlock with
        | none => exact Or.inl rfl
        | some b =>
          refine Or.inr fun e => ?_
          have h3 : some b = q2.1.ownBlock := e
          have := (Own.lt h1 b hv).1
          have := ho.1 b h3.symm
          omega
      · cases hv : v2.ownBlock with
        | none => exact Or.inl rfl
        | some b =>
          refine Or.inr fun e => ?_
          have h3 : some b = q2.2.ownBlock := e
          have := (Own.lt h2 b hv).1
          have := ho.2 b h3.symm
          omega
    · rw [List.getElem?_set_ne e1] at hq1
      by_cases e2 : k = j
      · subst e2
        rw [List.getElem?_set_self hpk] at hq2
        obtain rfl := Option.some.inj hq2
        have ho := old i q1 (by omega) hq1
        refine ⟨?_, ?_⟩
        · cases hv : q1.1.ownBlock with
          | none => exact Or.inl rfl
          | some b =>
            refine Or.inr fun e => ?_
            have h3 : some b = v1.ownBlock := e
            have := (Own.lt h1 b h3.symm).1
            have := ho.1 b hv
            omega
        · cases hv : q1.2.ownBlock with
          | none => exact Or.inl rfl
          | some b =>
            refine Or.inr fun e => ?_
            have h3 : some b = v2.ownBlock := e
            have := (Own.lt h2 b h3.symm).1
            have := ho.2 b hv
            omega
      · rw [List.getElem?_set_ne e2] at hq2
        exact h.apart i j q1 q2 (by omega) (by omega) hq1 hq2 hij
end
end Go.Proofs.YtpbpcmmlloholaaDoor

/-
The walk of dom.own: a document is made the call's own.
-/
namespace Go.Proofs.YtpbpcmmlloholaaDoor
open Go.RowKit Go.Cl
attribute [local go_sem ↓] Go.wp_at_zero Go.wp_at_succ

/-- Behind the first clone: the new document's box, where its nodes lie. -/
def OwnSt (w : World) (B n : Nat) (q : Bool) (l : List Nd) (v : Value) (wx : World) : Prop :=
  ∃ O g c' ps, v = .pointer (some ⟨O, 0, none⟩) ∧ w.heap.size + 1 < O ∧ Below w.heap.size w wx ∧ wx.heap[O]? = some (.cells #[.slice (some ⟨g, 0, none⟩) n c', .bool q] 24 (0, 0)) ∧ wx.heap[w.heap.size + 1]? = some (.cells #[.slice none 0 0, .bool false] 24 (0, 0)) ∧
    Half wx w.heap.size B (.slice (some ⟨g, 0, none⟩) n c') l ps 0 ∧ n ≤ c'
theorem ownSt_mk {w wx : World} {B n O c' : Nat} {q : Bool} {l : List Nd} {A' : Option Addr} (hO : w.heap.size + 1 < O) (hb : Below w.heap.size w wx) (hbox : wx.heap[O]? = some (.cells #[.slice A' n c', .bool q] 24 (0, 0)))
    (hres : wx.heap[w.heap.size + 1]? = some (.cells #[.slice none 0 0, .bool false] 24 (0, 0))) (ho : Own tNd wx w.heap.size 33 (lt B) (.slice A' n c') n l) (h0 : 0 < n) (hn : n = l.length) (hf : n ≤ 100000) : OwnSt w B n q l (.pointer (some ⟨O, 0, none⟩)) wx := by
  subst hn
  obtain ⟨ps, hh⟩ := half_of ho hf
  obtain ⟨g, c2, e, _, _, hc, _⟩ := hh.where_ h0
  simp only [Value.slice.injEq, true_and] at e
  obtain ⟨rfl, rfl⟩ := e
  exact ⟨O, g, c', ps, rfl, hO, hb, hbox, hres, hh, hc⟩
/-- At the head of a round. -/
def OwnR (w : World) (B n : Nat) (q : Bool) (l : List Nd) (O g c' k : Nat) (wr : World) : Prop :=
  ∃ ps, Below w.heap.size w wr ∧ wr.heap[O]? = some (.cells #[.slice (some ⟨g, 0, none⟩) n c', .bool q] 24 (0, 0)) ∧ wr.heap[w.heap.size + 1]? = some (.cells #[.slice none 0 0, .bool false] 24 (0, 0)) ∧
    Half wr w.heap.size B (.slice (some ⟨g, 0, none⟩) n c') l ps k
end Go.Proofs.YtpbpcmmlloholaaDoor

/-
The walk of dom.Apply: one edit of a document.
-/
namespace Go.Proofs.YtpbpcmmlloholaaDoor
open Go.RowKit Go.Cl
attribute [local go_sem ↓] Go.wp_at_zero Go.wp_at_succ

/-- Between two blocks' numbers. -/
def rg (a b : Nat) : Nat → Prop := fun k => a ≤ k ∧ k < b
theorem OwnF.slr {α : Type} {T : Ty α} {w : World} {base : Nat} {e : TypeId} {v : Value} {n : Nat} {xs : List α} (h : OwnF T w base e v n xs) (hpos : 0 < T.size) (hn : n * T.bytes ≤ 140737488355328) : ∃ A c, v = .slice A n c ∧ Sl T w (rg base w.heap.size) A n c xs := by
  obtain ⟨A, c, rfl⟩ := Own.form h
  exact ⟨A, c, rfl, (Own.sl h hpos hn).more fun b hb => hb.elim False.elim id⟩
theorem ed_rows2 {w : World} {base : Nat} {D : Nat → Prop} : ∀ (l : List Nd) (ps : List (Value × Value)) (cells : List Value), ps.length = l.length → (∀ (i : Nat) x p, l[i]? = some x → ps[i]? = some p → Parts w base x p) → Row tN6 w D (List.zipWith ndRow l ps) cells → Row tNd w (rg base w.heap.size) l cells := by
  intro l
  induction l with
  | nil =>
    intro ps cells _ _ h
    exact h
  | cons x l ih =>
    intro ps cells hl hp h
    cases ps with
    | nil => simp at hl
    | cons p ps =>
      obtain ⟨c1, c2, rfl, ⟨rfl, _⟩, h2⟩ := h
      have hP := hp 0 x p rfl rfl
      obtain ⟨Aa, ca, ea, sa⟩ := OwnF.slr hP.attrs (by decide) (by have := hP.ok.attrs; show x.attrs.length * 32 ≤ _; omega)
      obtain ⟨Ak, ck, ek, sk⟩ := OwnF.slr hP.kids (by decide) (by have := hP.ok.kids; show x.kids.length * 8 ≤ _; omega)
      refine ⟨ndRow x p, c2, rfl, ?_, ih ps c2 (by simpa using hl) (fun i y q hy hq => hp (i + 1) y q (by simpa using hy) (by simpa using hq)) h2⟩
      unfold ndRow
      rw [ea, ek]
      exact nd_rep ⟨sa, sk, hP.ok.kind, hP.ok.name, hP.ok.text, hP.ok.parent⟩
theorem Ed.slr {w : World} {base : Nat} {l : List Nd} {ps : List (Value × Value)} {A0 : Option Addr} {n c : Nat} (h : Ed w base (.slice A0 n c) l ps) : Sl tNd w (rg base w.heap.size) A0 n c l := by
  have hrow := h.row
  have hn : n = l.length := by
    obtain ⟨_, h3, _⟩ := hrow
    rcases h3.2 with ⟨hv, h4⟩ | ⟨g', cap, cur, hv, _⟩
    · injection hv with _ hv _
      omega
    · injection hv
  subst hn
  have hs := Own.sl hrow (by decide) (by have := h.few; show l.length * 96 ≤ _; omega)
  refine ⟨rfl, hs.hc, by have := h.few; show l.length * 96 ≤ _; omega, hs.hm, hs.nil_, fun h0 => ?_⟩
  obtain ⟨b, o, cells, e, hD, hr, hc⟩ := hs.at_ h0
  refine ⟨b, o, cells, e, ?_, ed_rows2 l ps cells h.len h.parts hr, hc⟩
  rcases hD with hD | hD
  · exact hD.elim
  · exact hD
/-- What lies elsewhere turns. -/
theorem sl_far {α : Type} {T : Ty α} {w : World} {a b O : Nat} {A : Option Addr} {n c : Nat} {xs : List α} (h : Sl T w (rg a b) A n c xs) (hO : O < a) (i : Nat) (v : Value) : Sl T (w.setCell ⟨O, i, none⟩ v) (rg a b) A n c xs :=
  h.keep fun p hp => World.cell?_setCell_other w _ p v (fun e => by
    have h1 := hp.1
    rw [← e] at h1
    have h2 : a ≤ O := h1
    omega)
theorem Sl.ltr {α : Type} {T : Ty α} {w : World} {a b : Nat} {A : Option Addr} {n c : Nat} {xs : List α} (h : Sl T w (rg a b) A n c xs) : Sl T w (lt b) A n c xs := h.more fun _ hb => hb.2
theorem Sl.rgd {α : Type} {T : Ty α} {w : World} {a a' b b' : Nat} {A : Option Addr} {n c : Nat} {xs : List α} (h : Sl T w (rg a b) A n c xs) (ha : a' ≤ a) (hb : b ≤ b') : Sl T w (rg a' b') A n c xs := h.more fun _ hk => ⟨Nat.le_trans ha hk.1, Nat.lt_of_lt_of_le hk.2 hb⟩
def apErr (l : List Nd) (e : Edt) : Int := if checkD l ≠ 0 then checkD l else edErr l e
/-- What Apply leaves behind. -/
def ApPost (w : World) (l : List Nd) (q : Bool) (e : Edt) (e' : Ending) (w' : World) : Prop :=
  Below w.heap.size w w' ∧ ((apErr l e ≠ 0 ∧ e' = .returned (.tuple #[.agg #[.slice none 0 0, .bool false], .int .i64 0, .int .i64 (apErr l e)])) ∨
    (apErr l e = 0 ∧ ∃ A' c', e' = .returned (.tuple #[.agg #[.slice A' (edDo l e).length c', .bool q], .int .i64 (edMade l 0 e), .int .i64 0]) ∧ Sl tNd w' (rg w.heap.size w'.heap.size) A' (edDo l e).length c' (edDo l e)))
theorem Good.mods {l : List Nd} (h : Good l) : ∀ x ∈ l, Mod x := fun x hx => by
  obtain ⟨m, hm⟩ := List.mem_iff_getElem?.1 hx
  have h1 := h.kids_few hm
  exact ⟨((nodeE_iff x).1 (h.each x hx)).2.2.1.few, by omega⟩
/-- A document in its box, a place for a result, in a later world. -/
structure RB (w : World) (B : Nat) (A : Option Addr) (k c : Nat) (q : Bool) (l : List Nd) (hd hr : Nat) (u : World) : Prop where
  below : Below w.heap.size w u
  box : u.heap[hd]? = some (.cells #[.slice A k c, .bool q] 24 (0, 0))
  res : u.heap[hr]? = some (.cells #[.slice none 0 0, .bool false] 24 (0, 0))
  doc : Sl tNd u (lt B) A k c l
  le : B ≤ u.heap.size
section
variable {w : World} {B : Nat} {A : Option Addr} {k c : Nat} {q : Bool} {l : List Nd} {hd hr : Nat} {u u' : World}
theorem RB.next (h : RB w B A k c q l hd hr u) {b : Nat} (hb : Below b u u') (hw : w.heap.size ≤ b) (h1 : hd < b) (h2 : hr < b) (hB : B ≤ b) : RB w B A k c q l hd hr u' :=
  ⟨h.below.trans (hb.mono hw), (hb.block _ h1).trans h.box, (hb.block _ h2).trans h.res, h.doc.below hb hB, Nat.le_trans h.le hb.size⟩
end
end Go.Proofs.YtpbpcmmlloholaaDoor

/-
The walk of dom.All: edits of a document, one behind the other.
-/
namespace Go.Proofs.YtpbpcmmlloholaaDoor
open Go.RowKit Go.Cl
attribute [local go_sem ↓] Go.wp_at_zero Go.wp_at_succ

def tEdt : Ty Edt := tMap (tPair (tInt .i64) (tPair (tInt .i64) (tPair (tInt .i64) (tPair (tInt .i64) (tPair tStr (tPair tStr tNd)))))) (fun e => (e.do_, e.at_, e.to_, e.before, e.name, e.value, e.node)) 160
theorem edt_cells {w : World} {D : Nat → Prop} {e : Edt} {cs : List Value} (h : tEdt.rep w D e cs) : ∃ Aa na ca Ak nk ck, cs = (edtCells e Aa na ca Ak nk ck).toList ∧ EdtOk w D e Aa na ca Ak nk ck := by
  obtain ⟨c1, c2, rfl, ⟨rfl, h1⟩, c3, c4, rfl, ⟨rfl, h2⟩, c5, c6, rfl, ⟨rfl, h3⟩, c7, c8, rfl, ⟨rfl, h4⟩, c9, c10, rfl, ⟨rfl, h5⟩, c11, c12, rfl, ⟨rfl, h6⟩, h7⟩ := h
  obtain ⟨Aa, na, ca, Ak, nk, ck, rfl, hn⟩ := nd_cells h7
  exact ⟨Aa, na, ca, Ak, nk, ck, rfl, hn, h2, h3, h4, h5, h6⟩
theorem edt_rep {w : World} {D : Nat → Prop} {e : Edt} {Aa : Option Addr} {na ca : Nat} {Ak : Option Addr} {nk ck : Nat} (h : EdtOk w D e Aa na ca Ak nk ck) (hd : (Lit.int .i64 e.do_).wf = true) : tEdt.rep w D e (edtCells e Aa na ca Ak nk ck).toList :=
  ⟨[_], _, rfl, ⟨rfl, hd⟩, [_], _, rfl, ⟨rfl, h.at_⟩, [_], _, rfl, ⟨rfl, h.to_⟩, [_], _, rfl, ⟨rfl, h.before⟩, [_], _, rfl, ⟨rfl, h.name⟩, [_], _, rfl, ⟨rfl, h.value⟩, nd_rep h.node⟩
/-- One edit of a slice of them. -/
theorem edt_get {w : World} {D : Nat → Prop} {A : Option Addr} {n c : Nat} {es : List Edt} (h : Sl tEdt w D A n c es) {i : Nat} {e : Edt} (he : es[i]? = some e) :
    ∃ b o Aa na ca Ak nk ck, A = some ⟨b, o, none⟩ ∧ D b ∧ EdtOk w D e Aa na ca Ak nk ck ∧ ∀ (j : Nat) u, (edtCells e Aa na ca Ak nk ck)[j]? = some u → w.cell? ⟨b, o + (i * 12 + j), none⟩ = some u := by
  obtain ⟨b, o, cs, e', hD, hr, hc⟩ := h.get he
  obtain ⟨Aa, na, ca, Ak, nk, ck, rfl, hn⟩ := edt_cells hr
  exact ⟨b, o, Aa, na, ca, Ak, nk, ck, e', hD, hn, fun j u hu => hc j u (by simpa using hu)⟩
/-- What All says ahead of its edits. -/
def alErr (l : List Nd) (es : List Edt) : Int := if checkD l ≠ 0 then checkD l else if 40 < es.length then 2 else 0
/-- What All tells: the document, which edit is wrong, and why. -/
def alR (l : List Nd) (es : List Edt) : List Nd × Int × Int := if alErr l es ≠ 0 then ([], 0, alErr l es) else edAll 0 l es
/-- What All leaves behind. -/
def AlPost (w : World) (l : List Nd) (q : Bool) (es : List Edt) (e' : Ending) (w' : World) : Prop :=
  Below w.heap.size w w' ∧ (((alR l es).2.2 ≠ 0 ∧ e' = .returned (.tuple #[.agg #[.slice none 0 0, .bool false], .int .i64 (alR l es).2.1, .int .i64 (alR l es).2.2])) ∨
    ((alR l es).2.2 = 0 ∧ ∃ A' c', e' = .returned (.tuple #[.agg #[.slice A' (alR l es).1.length c', .bool q], .int .i64 0, .int .i64 0]) ∧ Sl tNd w' (rg w.heap.size w'.heap.size) A' (alR l es).1.length c' (alR l es).1))
/-- What All leaves behind: a document of the call's own. -/
def AlOwn (w : World) (l : List Nd) (q : Bool) (es : List Edt) (e' : Ending) (w' : World) : Prop :=
  Below w.heap.size w w' ∧ (((alR l es).2.2 ≠ 0 ∧ e' = .returned (.tuple #[.agg #[.slice none 0 0, .bool false], .int .i64 (alR l es).2.1, .int .i64 (alR l es).2.2])) ∨
    ((alR l es).2.2 = 0 ∧ ∃ g c' base ps, e' = .returned (.tuple #[.agg #[.slice (some ⟨g, 0, none⟩) (alR l es).1.length c', .bool q], .int .i64 0, .int .i64 0]) ∧ w.heap.size ≤ base ∧ Ed w' base (.slice (some ⟨g, 0, none⟩) (alR l es).1.length c') (alR l es).1 ps ∧ 0 < (alR l es).1.length ∧ (alR l es).1.length ≤ c'))
theorem al_own {w w' : World} {l : List Nd} {q : Bool} {es : List Edt} {e' : Ending} (h : AlOwn w l q es e' w') : AlPost w l q es e' w' := by
  obtain ⟨hb, h | ⟨h1, g, c', base, ps, h2, h3, h4, _⟩⟩ := h
  · exact ⟨hb, Or.inl h⟩
  · exact ⟨hb, Or.inr ⟨h1, _, c', h2, Sl.rgd h4.slr h3 (Nat.le_refl _)⟩⟩
theorem edAll_bad {l : List Nd} {es : List Edt} {k : Nat} {e : Edt} (he : es[k]? = some e) (h : edErr l e ≠ 0) : edAll k l (es.drop k) = ([], (k : Int), edErr l e) := by
  rw [List.drop_eq_getElem_cons (List.getElem?_eq_some_iff.1 he).1, (List.getElem?_eq_some_iff.1 he).2, edAll, if_pos h]
theorem edAll_go {l : List Nd} {es : List Edt} {k : Nat} {e : Edt} (he : es[k]? = some e) (h : edErr l e = 0) : edAll k l (es.drop k) = edAll (k + 1) (edDo l e) (es.drop (k + 1)) := by
  rw [List.drop_eq_getElem_cons (List.getElem?_eq_some_iff.1 he).1, (List.getElem?_eq_some_iff.1 he).2, edAll, if_neg (by simpa using h)]
theorem edAll_end {l : List Nd} {es : List Edt} : edAll es.length l (es.drop es.length) = (l, 0, 0) := by
  rw [List.drop_length]
  rfl
end Go.Proofs.YtpbpcmmlloholaaDoor
