/-
A document that is made the call's own node by node: what is own up to a number, and what is still another's.
-/
import Derived.Test.YtmemadajjmmlpaaDoorEdWalk
namespace Go.Proofs.YtmemadajjmmlpaaDoor
open Go.RowKit Go.Cl

/-- A slice pair that is another's. -/
def Others (w : World) (B : Nat) (x : Nd) (p : Value × Value) : Prop := ∃ Aa na ca Ak nk ck, p = (.slice Aa na ca, .slice Ak nk ck) ∧ NdAt w (lt B) x Aa na ca Ak nk ck
/-- A node of moderate size. -/
structure Mod (x : Nd) : Prop where
  attrs : x.attrs.length ≤ 12
  kids : x.kids.length ≤ 1000
structure Half (w : World) (base B : Nat) (A : Value) (l : List Nd) (ps : List (Value × Value)) (k : Nat) : Prop where
  len : ps.length = l.length
  few : l.length ≤ 100000
  row : OwnF tN6 w base 35 A l.length (List.zipWith ndRow l ps)
  done : ∀ (i : Nat) x p, i < k → l[i]? = some x → ps[i]? = some p → Parts w base x p
  todo : ∀ (i : Nat) x p, k ≤ i → l[i]? = some x → ps[i]? = some p → Others w B x p
  apart : ∀ (i j : Nat) p q, i < k → j < k → ps[i]? = some p → ps[j]? = some q → i ≠ j → (p.1.ownBlock = none ∨ p.1.ownBlock ≠ q.1.ownBlock) ∧ (p.2.ownBlock = none ∨ p.2.ownBlock ≠ q.2.ownBlock)
theorem Others.form {w : World} {B : Nat} {x : Nd} {p : Value × Value} (h : Others w B x p) : (∃ A n c, p.1 = .slice A n c) ∧ ∃ A n c, p.2 = .slice A n c := by
  obtain ⟨Aa, na, ca, Ak, nk, ck, rfl, _⟩ := h
  exact ⟨⟨_, _, _, rfl⟩, ⟨_, _, _, rfl⟩⟩
/-- A row of nodes, as cells over their slices. -/
theorem nd_split {w : World} {B : Nat} {D' : Nat → Prop} : ∀ (l : List Nd) (cells : List Value), Row tNd w (lt B) l cells → ∃ ps : List (Value × Value), ps.length = l.length ∧ Row tN6 w D' (List.zipWith ndRow l ps) cells ∧ ∀ (i : Nat) x p, l[i]? = some x → ps[i]? = some p → Others w B x p := by
  intro l
  induction l with
  | nil => intro cells h; exact ⟨[], rfl, h, fun i x p hx => by simp at hx⟩
  | cons x l ih =>
    intro cells h
    obtain ⟨c1, c2, rfl, h1, h2⟩ := h
    obtain ⟨Aa, na, ca, Ak, nk, ck, rfl, hn⟩ := nd_cells h1
    obtain ⟨ps, e1, e2, e3⟩ := ih c2 h2
    refine ⟨(.slice Aa na ca, .slice Ak nk ck) :: ps, by simp [e1], ⟨ndCells x Aa na ca Ak nk ck, c2, rfl, ⟨rfl, ndRow_ok (x := x) (p := (.slice Aa na ca, .slice Ak nk ck)) ⟨_, _, _, rfl⟩ ⟨_, _, _, rfl⟩⟩, e2⟩, fun i y p hy hp => ?_⟩
    cases i with
    | zero =>
      obtain rfl : x = y := by simpa using hy
      obtain rfl : (Value.slice Aa na ca, Value.slice Ak nk ck) = p := by simpa using hp
      exact ⟨_, _, _, _, _, _, rfl, hn⟩
    | succ i => exact e3 i y p (by simpa using hy) (by simpa using hp)
theorem half_of {w : World} {base B : Nat} {A : Value} {l : List Nd} (h : Own tNd w base 35 (lt B) A l.length l) (hl : l.length ≤ 100000) : ∃ ps, Half w base B A l ps 0 := by
  obtain ⟨cells, h1, h2⟩ := h
  obtain ⟨ps, e1, e2, e3⟩ := nd_split (D' := fun _ => False) l cells h2
  exact ⟨ps, e1, hl, ⟨cells, h1, e2⟩, fun i x p hi => absurd hi (by omega), fun i x p _ hx hp => e3 i x p hx hp, fun i j p q hi => absurd hi (by omega)⟩
section
variable {w w' w2 : World} {base B g n c : Nat} {A : Value} {l : List Nd} {ps : List (Value × Value)} {k : Nat}
theorem Half.ed (h : Half w base B A l ps k) (hk : l.length ≤ k) : Ed w base A l ps := by
  have hlen := h.len
  refine ⟨h.len, h.few, h.row, fun i x p hx hp => h.done i x p (by have := (List.getElem?_eq_some_iff.1 hx).1; omega) hx hp, fun i j p q hp hq hij => ?_⟩
  have h1 := (List.getElem?_eq_some_iff.1 hp).1
  have h2 := (List.getElem?_eq_some_iff.1 hq).1
  exact h.apart i j p q (by omega) (by omega) hp hq hij
theorem Others.below {x : Nd} {p : Value × Value} {B' : Nat} (h : Others w B x p) (hb : Below B' w w') (hB : B ≤ B') : Others w' B x p := by
  obtain ⟨Aa, na, ca, Ak, nk, ck, e, hn⟩ := h
  exact ⟨Aa, na, ca, Ak, nk, ck, e, hn.below hb hB⟩
theorem Half.next (h : Half w base B A l ps k) (hb : Below w.heap.size w w') (hB : B ≤ w.heap.size) : Half w' base B A l ps k :=
  ⟨h.len, h.few, h.row.below hb (Nat.le_refl _), fun i x p hi hx hp => (h.done i x p hi hx hp).below hb, fun i x p hi hx hp => (h.todo i x p hi hx hp).below hb hB, h.apart⟩
/-- Where the nodes lie. -/
theorem Half.where_ (h : Half w base B A l ps k) (h0 : 0 < l.length) : ∃ g c, A = .slice (some ⟨g, 0, none⟩) l.length c ∧ base ≤ g ∧ g < w.heap.size ∧ l.length ≤ c ∧ (∀ k, w.frozen? ⟨g, k, none⟩ = false) ∧
    ∀ (i : Nat) x p, l[i]? = some x → ps[i]? = some p → ∀ j u, (ndRow x p)[j]? = some u → w.cell? ⟨g, i * 6 + j, none⟩ = some u := by
  obtain ⟨A0, c, e⟩ := Own.form h.row
  have hrow := h.row
  rw [e] at hrow
  obtain ⟨g, cells, rfl, hb, hl, hr, hc, hf⟩ := Own.block hrow h0
  refine ⟨g, c, e, hb, hl, ?_, hf, fun i x p hx hp j u hu => ?_⟩
  · obtain ⟨_, h1, _⟩ := hrow
    rcases h1.2 with ⟨hv, h2⟩ | ⟨g', cap, cur, hv, _, _, hnc, _⟩
    · omega
    · injection hv with _ _ hv
      omega
  · obtain ⟨cs, ⟨rfl, _⟩, hj⟩ := hr.at_ (zip_at hx hp)
    exact hc _ _ (hj j u hu)
/-- One node more is the call's own. -/
theorem Half.step (h : Half w base B (.slice (some ⟨g, 0, none⟩) n c) l ps k) {x : Nd} {p : Value × Value} {v1 v2 : Value} (hx : l[k]? = some x) (hp : ps[k]? = some p) (hb : Below w.heap.size w w2) (hbase : base ≤ w.heap.size) (hB : B ≤ base)
    (h1 : OwnF tDA w2 w.heap.size 91 v1 x.attrs.length x.attrs) (h2 : OwnF (tInt .i64) w2 w.heap.size 3 v2 x.kids.length x.kids) (hm : Mod x) :
    Half ((w2.setCell ⟨g, k * 6 + 2, none⟩ v1).setCell ⟨g, k * 6 + 5, none⟩ v2) base B (.slice (some ⟨g, 0, none⟩) n c) l (ps.set k (v1, v2)) (k + 1) := by
  have hn : n = l.length := by
    obtain ⟨_, h3, _⟩ := h.row
    rcases h3.2 with ⟨hv, _⟩ | ⟨g', cap, cur, hv, _⟩
    · cases hv
    · injection hv
  subst hn
  have hgb : base ≤ g := (Own.lt h.row g rfl).1
  obtain ⟨w3, hw3⟩ : ∃ w3, w3 = w2.setCell ⟨g, k * 6 + 2, none⟩ v1 := ⟨_, rfl⟩
  obtain ⟨w4, hw4⟩ : ∃ w4, w4 = w3.setCell ⟨g, k * 6 + 5, none⟩ v2 := ⟨_, rfl⟩
  rw [← hw3, ← hw4]
  have hpf := (h.todo k x p (Nat.le_refl _) hx hp)
  have hv1 : ∃ A n c, v1 = .slice A n c := by obtain ⟨A, c, e⟩ := Own.form h1; exact ⟨_, _, _, e⟩
  have hv2 : ∃ A n c, v2 = .slice A n c := by obtain ⟨A, c, e⟩ := Own.form h2; exact ⟨_, _, _, e⟩
  have hg3 : w2.grownBy w3 (some g) := by rw [hw3]; exact grown_set _ _ _ _
  have hg4 : w3.grownBy w4 (some g) := by rw [hw4]; exact grown_set _ _ _ _
  have row2 : OwnF tN6 w2 base 35 (.slice (some ⟨g, 0, none⟩) l.length c) l.length (List.zipWith ndRow l ps) := h.row.below hb (Nat.le_refl _)
  have row3 : OwnF tN6 w3 base 35 (.slice (some ⟨g, 0, none⟩) l.length c) l.length ((List.zipWith ndRow l ps).set k (ndRow x (v1, p.2))) := by
    rw [hw3]
    exact Own.stored (T := tN6) row2 (fun _ h => h.elim) (zip_at hx hp) (j := 2) (by decide) (fun cs hcs => by
      obtain ⟨rfl, _⟩ := hcs
      exact ⟨rfl, ndRow_ok (x := x) (p := (v1, p.2)) hv1 hpf.form.2⟩)
  have hkl : k < (List.zipWith ndRow l ps).length := by
    have := (List.getElem?_eq_some_iff.1 hx).1
    have := (List.getElem?_eq_some_iff.1 hp).1
    rw [List.length_zipWith]
    omega
  have row4 : OwnF tN6 w4 base 35 (.slice (some ⟨g, 0, none⟩) l.length c) l.length (List.zipWith ndRow l (ps.set k (v1, v2))) := by
    have h4 := Own.stored (T := tN6) (u := v2) (y := ndRow x (v1, v2)) row3 (fun _ h => h.elim) (i := k) (List.getElem?_set_self hkl) (j := 5) (by decide) (fun cs hcs => by
      obtain ⟨rfl, _⟩ := hcs
      exact ⟨rfl, ndRow_ok (x := x) (p := (v1, v2)) hv1 hv2⟩)
    rw [List.set_set, zip_set, set_same hx] at h4
    rw [hw4]
    exact h4
  have keepP : ∀ {x : Nd} {p : Value × Value}, Parts w2 base x p → Parts w4 base x p := fun hP => by
    have a3 := ownF_kept hP.attrs hg3 (own_ne (by decide) hP.attrs row2)
    have k3 := ownF_kept hP.kids hg3 (own_ne (by decide) hP.kids row2)
    exact ⟨ownF_kept a3 hg4 (own_ne (by decide) a3 row3), ownF_kept k3 hg4 (own_ne (by decide) k3 row3), hP.ok⟩
  have hbB : Below B w w4 := by
    rw [hw4, hw3]
    exact ((hb.mono (Nat.le_trans hB hbase)).setCell (p := ⟨g, k * 6 + 2, none⟩) (Nat.le_trans hB hgb) _).setCell (p := ⟨g, k * 6 + 5, none⟩) (Nat.le_trans hB hgb) _
  have hpk := (List.getElem?_eq_some_iff.1 hp).1
  obtain ⟨Aa, na, ca, Ak, nk, ck, _, hna⟩ := hpf
  refine ⟨by rw [List.length_set]; exact h.len, h.few, row4, fun i y q hi hy hq => ?_, fun i y q hi hy hq => ?_, fun i j q1 q2 hi hj hq1 hq2 hij => ?_⟩
  · by_cases e : k = i
    · subst e
      rw [List.getElem?_set_self hpk] at hq
      obtain rfl := Option.some.inj hq
      rw [hx] at hy
      obtain rfl := Option.some.inj hy
      exact keepP ⟨Own.down h1 hbase, Own.down h2 hbase, ⟨hna.kind, hna.name, hna.text, hna.parent, hm.attrs, hm.kids⟩⟩
    · rw [List.getElem?_set_ne e] at hq
      exact keepP ((h.done i y q (by omega) hy hq).below hb)
  · rw [List.getElem?_set_ne (by omega)] at hq
    exact (h.todo i y q (by omega) hy hq).below hbB (Nat.le_refl _)
  · have old : ∀ (i : Nat) (q : Value × Value), i < k → ps[i]? = some q → (∀ b, q.1.ownBlock = some b → b < w.heap.size) ∧ ∀ b, q.2.ownBlock = some b → b < w.heap.size := fun i q hi hq => by
      obtain ⟨z, hz⟩ := get_some (l := l) (k := i) (by have := h.len; have := (List.getElem?_eq_some_iff.1 hq).1; omega)
      have hP := h.done i z q hi hz hq
      exact ⟨fun b hb => (Own.lt hP.attrs b hb).2, fun b hb => (Own.lt hP.kids b hb).2⟩
    by_cases e1 : k = i
    · subst e1
      rw [List.getElem?_set_self hpk] at hq1
      obtain rfl := Option.some.inj hq1
      rw [List.getElem?_set_ne hij] at hq2
      have ho := old j q2 (by omega) hq2
      refine ⟨?_, ?_⟩
      · cases hv : v1.ownBlock with
        | none => exact Or.inl rfl
        | some b =>
          refine Or.inr fun e => ?_
          have h3 : some b = q2.1.ownBlock := e
          have := (Own.lt h1 b hv).1
          have := ho.1 b h3.symm
          omega
      · cases hv : v2.ownBlock with
        | none => exact Or.inl rfl
        | some b =>
          refine Or.inr fun e => ?_
          have h3 : some b = q2.2.ownBlock := e
          have := (Own.lt h2 b hv).1
          have := ho.2 b h3.symm
          omega
    · rw [List.getElem?_set_ne e1] at hq1
      by_cases e2 : k = j
      · subst e2
        rw [List.getElem?_set_self hpk] at hq2
        obtain rfl := Option.some.inj hq2
        have ho := old i q1 (by omega) hq1
        refine ⟨?_, ?_⟩
        · cases hv : q1.1.ownBlock with
          | none => exact Or.inl rfl
          | some b =>
            refine Or.inr fun e => ?_
            have h3 : some b = v1.ownBlock := e
            have := (Own.lt h1 b h3.symm).1
            have := ho.1 b hv
            omega
        · cases hv : q1.2.ownBlock with
          | none => exact Or.inl rfl
          | some b =>
            refine Or.inr fun e => ?_
            have h3 : some b = v2.ownBlock := e
            have := (Own.lt h2 b h3.symm).1
            have := ho.2 b hv
            omega
      · rw [List.getElem?_set_ne e2] at hq2
        exact h.apart i j q1 q2 (by omega) (by omega) hq1 hq2 hij
end
end Go.Proofs.YtmemadajjmmlpaaDoor
