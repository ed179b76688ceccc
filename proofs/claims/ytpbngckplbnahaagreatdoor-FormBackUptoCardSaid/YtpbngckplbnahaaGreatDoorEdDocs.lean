/-
A document that is made the call's own node by node: what is own up to a number, and what is still another's.
-/
import Derived.Test.YtpbngckplbnahaaGreatDoorEdWalksA
import Derived.Test.YtpbngckplbnahaaGreatDoorEdBase
import Derived.Test.YtpbngckplbnahaaGreatDoorRegionG
import Derived.Test.YtpbngckplbnahaaGreatDoorEdWalksB
import Derived.Deep.DeepCutAuto
namespace Go.Proofs.YtpbngckplbnahaaGreatDoor
open Go.RowKit Go.Cl

/-- A slice pair that is another's. -/
def Others (w : World) (B : Nat) (x : Nd) (p : Value × Value) : Prop := ∃ Aa na ca Ak nk ck, p = (.slice Aa na ca, .slice Ak nk ck) ∧ NdAt w (lt B) x Aa na ca Ak nk ck
/-- A node of moderate size. -/
structure Mod (x : Nd) : Prop where
  attrs : x.attrs.length ≤ 12
  kids : x.kids.length ≤ 1000
structure Half (w : World) (base B : Nat) (A : Value) (l : List Nd) (ps : List (Value × Value)) (k : Nat) : Prop where
  len : ps.length = l.length
  few : l.length ≤ 100000
  row : OwnF tN6 w base 26 A l.length (List.zipWith ndRow l ps)
  done : ∀ (i : Nat) x p, i < k → l[i]? = some x → ps[i]? = some p → Parts w base x p
  todo : ∀ (i : Nat) x p, k ≤ i → l[i]? = some x → ps[i]? = some p → Others w B x p
  apart : ∀ (i j : Nat) p q, i < k → j < k → ps[i]? = some p → ps[j]? = some q → i ≠ j → (p.1.ownBlock = none ∨ p.1.ownBlock ≠ q.1.ownBlock) ∧ (p.2.ownBlock = none ∨ p.2.ownBlock ≠ q.2.ownBlock)
theorem Others.form {w : World} {B : Nat} {x : Nd} {p : Value × Value} (h : Others w B x p) : (∃ A n c, p.1 = .slice A n c) ∧ ∃ A n c, p.2 = .slice A n c := by
  obtain ⟨Aa, na, ca, Ak, nk, ck, rfl, _⟩ := h
  exact ⟨⟨_, _, _, rfl⟩, ⟨_, _, _, rfl⟩⟩
/-- A row of nodes, as cells over their slices. -/
theorem nd_split {w : World} {B : Nat} {D' : Nat → Prop} : ∀ (l : List Nd) (cells : List Value), Row tNd w (lt B) l cells → ∃ ps : List (Value × Value), ps.length = l.length ∧ Row tN6 w D' (List.zipWith ndRow l ps) cells ∧ ∀ (i : Nat) x p, l[i]? = some x → ps[i]? = some p → Others w B x p := by
  intro l
  induction l with
  | nil => intro cells h; exact ⟨[], rfl, h, fun i x p hx => by simp at hx⟩
  | cons x l ih =>
    intro cells h
    obtain ⟨c1, c2, rfl, h1, h2⟩ := h
    obtain ⟨Aa, na, ca, Ak, nk, ck, rfl, hn⟩ := nd_cells h1
    obtain ⟨ps, e1, e2, e3⟩ := ih c2 h2
    refine ⟨(.slice Aa na ca, .slice Ak nk ck) :: ps, by simp [e1], ⟨ndCells x Aa na ca Ak nk ck, c2, rfl, ⟨rfl, ndRow_ok (x := x) (p := (.slice Aa na ca, .slice Ak nk ck)) ⟨_, _, _, rfl⟩ ⟨_, _, _, rfl⟩⟩, e2⟩, fun i y p hy hp => ?_⟩
    cases i with
    | zero =>
      obtain rfl : x = y := by simpa using hy
      obtain rfl : (Value.slice Aa na ca, Value.slice Ak nk ck) = p := by simpa using hp
      exact ⟨_, _, _, _, _, _, rfl, hn⟩
    | succ i => exact e3 i y p (by simpa using hy) (by simpa using hp)
theorem half_of {w : World} {base B : Nat} {A : Value} {l : List Nd} (h : Own tNd w base 26 (lt B) A l.length l) (hl : l.length ≤ 100000) : ∃ ps, Half w base B A l ps 0 := by
  obtain ⟨cells, h1, h2⟩ := h
  obtain ⟨ps, e1, e2, e3⟩ := nd_split (D' := fun _ => False) l cells h2
  exact ⟨ps, e1, hl, ⟨cells, h1, e2⟩, fun i x p hi => absurd hi (by omega), fun i x p _ hx hp => e3 i x p hx hp, fun i j p q hi => absurd hi (by omega)⟩
section
variable {w w' w2 : World} {base B g n c : Nat} {A : Value} {l : List Nd} {ps : List (Value × Value)} {k : Nat}
theorem Half.ed (h : Half w base B A l ps k) (hk : l.length ≤ k) : Ed w base A l ps := by
  have hlen := h.len
  refine ⟨h.len, h.few, h.row, fun i x p hx hp => h.done i x p (by have := (List.getElem?_eq_some_iff.1 hx).1; omega) hx hp, fun i j p q hp hq hij => ?_⟩
  have h1 := (List.getElem?_eq_some_iff.1 hp).1
  have h2 := (List.getElem?_eq_some_iff.1 hq).1
  exact h.apart i j p q (by omega) (by omega) hp hq hij
theorem Others.below {x : Nd} {p : Value × Value} {B' : Nat} (h : Others w B x p) (hb : Below B' w w') (hB : B ≤ B') : Others w' B x p := by
  obtain ⟨Aa, na, ca, Ak, nk, ck, e, hn⟩ := h
  exact ⟨Aa, na, ca, Ak, nk, ck, e, hn.below hb hB⟩
theorem Half.next (h : Half w base B A l ps k) (hb : Below w.heap.size w w') (hB : B ≤ w.heap.size) : Half w' base B A l ps k :=
  ⟨h.len, h.few, h.row.below hb (Nat.le_refl _), fun i x p hi hx hp => (h.done i x p hi hx hp).below hb, fun i x p hi hx hp => (h.todo i x p hi hx hp).below hb hB, h.apart⟩
/-- Where the nodes lie. -/
theorem Half.where_ (h : Half w base B A l ps k) (h0 : 0 < l.length) : ∃ g c, A = .slice (some ⟨g, 0, none⟩) l.length c ∧ base ≤ g ∧ g < w.heap.size ∧ l.length ≤ c ∧ (∀ k, w.frozen? ⟨g, k, none⟩ = false) ∧
    ∀ (i : Nat) x p, l[i]? = some x → ps[i]? = some p → ∀ j u, (ndRow x p)[j]? = some u → w.cell? ⟨g, i * 6 + j, none⟩ = some u := by
  obtain ⟨A0, c, e⟩ := Own.form h.row
  have hrow := h.row
  rw [e] at hrow
  obtain ⟨g, cells, rfl, hb, hl, hr, hc, hf⟩ := Own.block hrow h0
  refine ⟨g, c, e, hb, hl, ?_, hf, fun i x p hx hp j u hu => ?_⟩
  · obtain ⟨_, h1, _⟩ := hrow
    rcases h1.2 with ⟨hv, h2⟩ | ⟨g', cap, cur, hv, _, _, hnc, _⟩
    · omega
    · injection hv with _ _ hv
      omega
  · obtain ⟨cs, ⟨rfl, _⟩, hj⟩ := hr.at_ (zip_at hx hp)
    exact hc _ _ (hj j u hu)
/-- One node more is the call's own. -/
theorem Half.step (h : Half w base B (.slice (some ⟨g, 0, none⟩) n c) l ps k) {x : Nd} {p : Value × Value} {v1 v2 : Value} (hx : l[k]? = some x) (hp : ps[k]? = some p) (hb : Below w.heap.size w w2) (hbase : base ≤ w.heap.size) (hB : B ≤ base)
    (h1 : OwnF tDA w2 w.heap.size 31 v1 x.attrs.length x.attrs) (h2 : OwnF (tInt .i64) w2 w.heap.size 3 v2 x.kids.length x.kids) (hm : Mod x) :
    Half ((w2.setCell ⟨g, k * 6 + 2, none⟩ v1).setCell ⟨g, k * 6 + 5, none⟩ v2) base B (.slice (some ⟨g, 0, none⟩) n c) l (ps.set k (v1, v2)) (k + 1) := by
  have hn : n = l.length := by
    obtain ⟨_, h3, _⟩ := h.row
    rcases h3.2 with ⟨hv, _⟩ | ⟨g', cap, cur, hv, _⟩
    · cases hv
    · injection hv
  subst hn
  have hgb : base ≤ g := (Own.lt h.row g rfl).1
  obtain ⟨w3, hw3⟩ : ∃ w3, w3 = w2.setCell ⟨g, k * 6 + 2, none⟩ v1 := ⟨_, rfl⟩
  obtain ⟨w4, hw4⟩ : ∃ w4, w4 = w3.setCell ⟨g, k * 6 + 5, none⟩ v2 := ⟨_, rfl⟩
  rw [← hw3, ← hw4]
  have hpf := (h.todo k x p (Nat.le_refl _) hx hp)
  have hv1 : ∃ A n c, v1 = .slice A n c := by obtain ⟨A, c, e⟩ := Own.form h1; exact ⟨_, _, _, e⟩
  have hv2 : ∃ A n c, v2 = .slice A n c := by obtain ⟨A, c, e⟩ := Own.form h2; exact ⟨_, _, _, e⟩
  have hg3 : w2.grownBy w3 (some g) := by rw [hw3]; exact grown_set _ _ _ _
  have hg4 : w3.grownBy w4 (some g) := by rw [hw4]; exact grown_set _ _ _ _
  have row2 : OwnF tN6 w2 base 26 (.slice (some ⟨g, 0, none⟩) l.length c) l.length (List.zipWith ndRow l ps) := h.row.below hb (Nat.le_refl _)
  have row3 : OwnF tN6 w3 base 26 (.slice (some ⟨g, 0, none⟩) l.length c) l.length ((List.zipWith ndRow l ps).set k (ndRow x (v1, p.2))) := by
    rw [hw3]
    exact Own.stored (T := tN6) row2 (fun _ h => h.elim) (zip_at hx hp) (j := 2) (by decide) (fun cs hcs => by
      obtain ⟨rfl, _⟩ := hcs
      exact ⟨rfl, ndRow_ok (x := x) (p := (v1, p.2)) hv1 hpf.form.2⟩)
  have hkl : k < (List.zipWith ndRow l ps).length := by
    have := (List.getElem?_eq_some_iff.1 hx).1
    have := (List.getElem?_eq_some_iff.1 hp).1
    rw [List.length_zipWith]
    omega
  have row4 : OwnF tN6 w4 base 26 (.slice (some ⟨g, 0, none⟩) l.length c) l.length (List.zipWith ndRow l (ps.set k (v1, v2))) := by
    have h4 := Own.stored (T := tN6) (u := v2) (y := ndRow x (v1, v2)) row3 (fun _ h => h.elim) (i := k) (List.getElem?_set_self hkl) (j := 5) (by decide) (fun cs hcs => by
      obtain ⟨rfl, _⟩ := hcs
      exact ⟨rfl, ndRow_ok (x := x) (p := (v1, v2)) hv1 hv2⟩)
    rw [List.set_set, zip_set, set_same hx] at h4
    rw [hw4]
    exact h4
  have keepP : ∀ {x : Nd} {p : Value × Value}, Parts w2 base x p → Parts w4 base x p := fun hP => by
    have a3 := ownF_kept hP.attrs hg3 (own_ne (by decide) hP.attrs row2)
    have k3 := ownF_kept hP.kids hg3 (own_ne (by decide) hP.kids row2)
    exact ⟨ownF_kept a3 hg4 (own_ne (by decide) a3 row3), ownF_kept k3 hg4 (own_ne (by decide) k3 row3), hP.ok⟩
  have hbB : Below B w w4 := by
    rw [hw4, hw3]
    exact ((hb.mono (Nat.le_trans hB hbase)).setCell (p := ⟨g, k * 6 + 2, none⟩) (Nat.le_trans hB hgb) _).setCell (p := ⟨g, k * 6 + 5, none⟩) (Nat.le_trans hB hgb) _
  have hpk := (List.getElem?_eq_some_iff.1 hp).1
  obtain ⟨Aa, na, ca, Ak, nk, ck, _, hna⟩ := hpf
  refine ⟨by rw [List.length_set]; exact h.len, h.few, row4, fun i y q hi hy hq => ?_, fun i y q hi hy hq => ?_, fun i j q1 q2 hi hj hq1 hq2 hij => ?_⟩
  · by_cases e : k = i
    · subst e
      rw [List.getElem?_set_self hpk] at hq
      obtain rfl := Option.some.inj hq
      rw [hx] at hy
      obtain rfl := Option.some.inj hy
      exact keepP ⟨Own.down h1 hbase, Own.down h2 hbase, ⟨hna.kind, hna.name, hna.text, hna.parent, Nat.le_trans hm.attrs (by decide), hm.kids⟩⟩
    · rw [List.getElem?_set_ne e] at hq
      exact keepP ((h.done i y q (by omega) hy hq).below hb)
  · rw [List.getElem?_set_ne (by omega)] at hq
    exact (h.todo i y q (by omega) hy hq).below hbB (Nat.le_refl _)
  · have old : ∀ (i : Nat) (q : Value × Value), i < k → ps[i]? = some q → (∀ b, q.1.ownBlock = some b → b < w.heap.size) ∧ ∀ b, q.2.ownBlock = some b → b < w.heap.size := fun i q hi hq => by
      obtain ⟨z, hz⟩ := get_some (l := l) (k := i) (by have := h.len; have := (List.getElem?_eq_some_iff.1 hq).1; omega)
      have hP := h.done i z q hi hz hq
      exact ⟨fun b hb => (Own.lt hP.attrs b hb).2, fun b hb => (Own.lt hP.kids b hb).2⟩
    by_cases e1 : k = i
    · subst e1
      rw [List.getElem?_set_self hpk] at hq1
      obtain rfl := Option.some.inj hq1
      rw [List.getElem?_set_ne hij] at hq2
      have ho := old j q2 (by omega) hq2
      refine ⟨?_, ?_⟩
      · cases hv : v1.ownBlock with
        | none => exact Or.inl rfl
        | some b =>
          refine Or.inr fun e => ?_
          have h3 : some b = q2.1.ownBlock := e
          have := (Own.lt h1 b hv).1
          have := ho.1 b h3.symm
          omega
      · cases hv : v2.ownBlock with
        | none => exact Or.inl rfl
        | some b =>
          refine Or.inr fun e => ?_
          have h3 : some b = q2.2.ownBlock := e
          have := (Own.lt h2 b hv).1
          have := ho.2 b h3.symm
          omega
    · rw [List.getElem?_set_ne e1] at hq1
      by_cases e2 : k = j
      · subst e2
        rw [List.getElem?_set_self hpk] at hq2
        obtain rfl := Option.some.inj hq2
        have ho := old i q1 (by omega) hq1
        refine ⟨?_, ?_⟩
        · cases hv : q1.1.ownBlock with
          | none => exact Or.inl rfl
          | some b =>
            refine Or.inr fun e => ?_
            have h3 : some b = v1.ownBlock := e
            have := (Own.lt h1 b h3.symm).1
            have := ho.1 b hv
            omega
        · cases hv : q1.2.ownBlock with
          | none => exact Or.inl rfl
          | some b =>
            refine Or.inr fun e => ?_
            have h3 : some b = v2.ownBlock := e
            have := (Own.lt h2 b h3.symm).1
            have := ho.2 b hv
            omega
      · rw [List.getElem?_set_ne e2] at hq2
        exact h.apart i j q1 q2 (by omega) (by omega) hq1 hq2 hij
end
end Go.Proofs.YtpbngckplbnahaaGreatDoor

/-
The walk of dom.own: a document is made the call's own.
-/
namespace Go.Proofs.YtpbngckplbnahaaGreatDoor
open Go.RowKit Go.Cl
attribute [local go_sem ↓] Go.wp_at_zero Go.wp_at_succ

/-- Behind the first clone: the new document's box, where its nodes lie. -/
def OwnSt (w : World) (B n : Nat) (q : Bool) (l : List Nd) (v : Value) (wx : World) : Prop :=
  ∃ O g c' ps, v = .pointer (some ⟨O, 0, none⟩) ∧ w.heap.size + 1 < O ∧ Below w.heap.size w wx ∧ wx.heap[O]? = some (.cells #[.slice (some ⟨g, 0, none⟩) n c', .bool q] 29 (0, 0)) ∧ wx.heap[w.heap.size + 1]? = some (.cells #[.slice none 0 0, .bool false] 29 (0, 0)) ∧
    Half wx w.heap.size B (.slice (some ⟨g, 0, none⟩) n c') l ps 0 ∧ n ≤ c'
theorem ownSt_mk {w wx : World} {B n O c' : Nat} {q : Bool} {l : List Nd} {A' : Option Addr} (hO : w.heap.size + 1 < O) (hb : Below w.heap.size w wx) (hbox : wx.heap[O]? = some (.cells #[.slice A' n c', .bool q] 29 (0, 0)))
    (hres : wx.heap[w.heap.size + 1]? = some (.cells #[.slice none 0 0, .bool false] 29 (0, 0))) (ho : Own tNd wx w.heap.size 26 (lt B) (.slice A' n c') n l) (h0 : 0 < n) (hn : n = l.length) (hf : n ≤ 100000) : OwnSt w B n q l (.pointer (some ⟨O, 0, none⟩)) wx := by
  subst hn
  obtain ⟨ps, hh⟩ := half_of ho hf
  obtain ⟨g, c2, e, _, _, hc, _⟩ := hh.where_ h0
  simp only [Value.slice.injEq, true_and] at e
  obtain ⟨rfl, rfl⟩ := e
  exact ⟨O, g, c', ps, rfl, hO, hb, hbox, hres, hh, hc⟩
/-- At the head of a round. -/
def OwnR (w : World) (B n : Nat) (q : Bool) (l : List Nd) (O g c' k : Nat) (wr : World) : Prop :=
  ∃ ps, Below w.heap.size w wr ∧ wr.heap[O]? = some (.cells #[.slice (some ⟨g, 0, none⟩) n c', .bool q] 29 (0, 0)) ∧ wr.heap[w.heap.size + 1]? = some (.cells #[.slice none 0 0, .bool false] 29 (0, 0)) ∧
    Half wr w.heap.size B (.slice (some ⟨g, 0, none⟩) n c') l ps k
set_option maxRecDepth 100000 in
set_option maxHeartbeats 2000000 in
theorem own_any (A : Option Addr) (n c : Nat) (l : List Nd) (q : Bool) (w : World) (B : Nat) (hl : Sl tNd w (lt B) A n c l) (hB : B ≤ w.heap.size) (h0 : 0 < n) (hfew : n ≤ 100000) (hm : ∀ x ∈ l, Mod x) :
    Calls Tryz.prog 53 #[.agg #[.slice A n c, .bool q]] w fun e w' => ∃ g c' ps, e = .returned (.agg #[.slice (some ⟨g, 0, none⟩) n c', .bool q]) ∧ Below w.heap.size w w' ∧ Ed w' w.heap.size (.slice (some ⟨g, 0, none⟩) n c') l ps ∧ n ≤ c' := by
  obtain ⟨w0, hw0⟩ : ∃ w0, w0 = (w.alloc (.cells #[.slice A n c, .bool q] 29)).alloc (.cells #[.slice none 0 0, .bool false] 29) := ⟨_, rfl⟩
  have hz1 : (w.alloc (.cells #[.slice A n c, .bool q] 29)).heap.size = w.heap.size + 1 := World.size_alloc w _
  have hbx : w0.heap[w.heap.size]? = some (.cells #[.slice A n c, .bool q] 29 (0, 0)) := by rw [hw0]; exact (Lib.alloc_old _ _ _ (by omega)).trans (heap_alloc_new w _)
  have hrs : w0.heap[w.heap.size + 1]? = some (.cells #[.slice none 0 0, .bool false] 29 (0, 0)) := by rw [hw0, ← hz1]; exact heap_alloc_new _ _
  have hb0 : Below w.heap.size w w0 := by rw [hw0]; exact ((Below.refl _ _).alloc (Nat.le_refl _) _).alloc (by omega) _
  have hsz : w0.heap.size = w.heap.size + 2 := by rw [hw0, World.size_alloc, hz1]
  have b0 : w0.cell? ⟨w.heap.size, 0, none⟩ = some (.slice A n c) := cell_blk hbx rfl
  have b1 : w0.cell? ⟨w.heap.size, 1, none⟩ = some (.bool q) := cell_blk hbx rfl
  have HL := Lib.hid (hl.below hb0 hB)
  have HB0 := Lib.hid hb0
  have HRS := Lib.hid hrs
  have HSZ := Lib.hid hsz
  have HM := Lib.hid hm
  have HNE : Hid (w0.heap.size ≠ w.heap.size) := by show w0.heap.size ≠ w.heap.size; omega
  have HNL := Lib.hid hl.hn
  have HCL := Lib.hid (fun W (hs : Sl tNd W (lt B) A n c l) (hz : B ≤ W.heap.size) => cloneNd A n c l W B hs hz)
  clear hz1 hbx hrs hb0 hsz hl hm
  go_enter Tryz.func53, Tryz.ntmps53
  go_upto_region 1 with fail
  rw [← hw0]
  clear hw0
  go_cut [3] (fun v wx => OwnSt w B n q l v wx)
  case first =>
    go_region_held3 (fun w' => w'.cell? ⟨w.heap.size, 0, none⟩ = some (.slice A n c) ∧ w'.cell? ⟨w.heap.size, 1, none⟩ = some (.bool q)) (first | exact ⟨b0, b1⟩ | exact ⟨d0, d1⟩ | exact ⟨cell_far HNE.out (cell_far HNE.out d0 _) _, cell_far HNE.out (cell_far HNE.out d1 _) _⟩ | exact ⟨cell_al (w := w0.drew) b0 _, cell_al (w := w0.drew) b1 _⟩ | exact ⟨cell_al d0 _, cell_al d1 _⟩ | go_keep)
      (first
        | (go_at_call 101; refine (HCL.out _ (HL.out.drew) (by have := HSZ.out; show B ≤ w0.heap.size; omega)).mono ?_; rintro e' w4 ⟨A', c', rfl, hb4, ho4⟩; have d0 := cell_be (w := w0.drew) b0 hb4; have d1 := cell_be (w := w0.drew) b1 hb4)
        | (go_at_call 101; refine (HCL.out _ (HL.out.drew.al (by have := HSZ.out; show B ≤ w0.heap.size; omega) _) (by have := HSZ.out; simp; omega)).mono ?_; rintro e' w4 ⟨A', c', rfl, hb4, ho4⟩; have d0 := cell_be (cell_al (w := w0.drew) b0 _) hb4; have d1 := cell_be (cell_al (w := w0.drew) b1 _) hb4; have g0 : w4.heap[w0.heap.size]? = some (.cells #[.slice none 0 0, .bool false] 29 (0, 0)) := (hb4.block _ (by simp)).trans (heap_alloc_new w0.drew _); have g1 := cell_blk (i := 0) g0 rfl; have g2 := cell_blk (i := 1) g0 rfl; have g3 := free_blk (i := 0) g0; have g4 := free_blk (i := 1) g0; have G0 := Lib.hid g0; clear g0)
        | fail)
    · have hb : Below w.heap.size w (w4.alloc (.cells #[.slice A' n c', .bool q] 29)) := (HB0.out.trans (((Below.refl _ w0).drew.trans (hb4.mono (Nat.le_refl _))).mono HB0.out.size)).alloc (Nat.le_trans HB0.out.size hb4.size) _
      have hres := (hb4.block (w.heap.size + 1) (by have := HSZ.out; show _ < w0.heap.size; omega)).trans HRS.out
      have hlt := (Array.getElem?_eq_some_iff.1 hres).1
      have HST := Lib.hid (ownSt_mk (q := q) (O := w4.heap.size) (by have := hb4.size; have := HSZ.out; have h : w0.drew.heap.size = w0.heap.size := rfl; omega) hb (heap_alloc_new w4 _) ((Lib.alloc_old _ _ _ hlt).trans hres) ((Own.alloc ho4 _ (fun b hb' => Nat.lt_of_lt_of_le hb' (Nat.le_trans hB (Nat.le_trans HB0.out.size hb4.size)))).down HB0.out.size) h0 HNL.out hfew)
      clear hb hres hlt hb4 ho4 d0 d1 b0 b1
      go_wp2_with fail
      go_meet
      case rel => exact HST.out
    · have hbs : w0.drew.heap.size = w0.heap.size := rfl
      have hb04 : Below w0.heap.size w0 w4 := ((Below.refl _ w0).drew.alloc (Nat.le_refl _) _).trans (hb4.mono (by simp))
      have hb : Below w.heap.size w ((w4.setCell ⟨w0.heap.size, 0, none⟩ (.slice A' n c')).setCell ⟨w0.heap.size, 1, none⟩ (.bool q)) := ((HB0.out.trans (hb04.mono HB0.out.size)).setCell (p := ⟨w0.heap.size, 0, none⟩) HB0.out.size _).setCell (p := ⟨w0.heap.size, 1, none⟩) HB0.out.size _
      have hres := (hb04.block (w.heap.size + 1) (by have := HSZ.out; omega)).trans HRS.out
      have hne : w.heap.size + 1 ≠ w0.heap.size := by have := HSZ.out; omega
      have hob : ∀ k, (Value.slice A' n c').ownBlock = some k → w0.heap.size < k := fun k hk => by have := (Own.lt ho4 k hk).1; simp at this; omega
      have ho5 := Own.kept ho4 (grown_set w4 w0.heap.size 0 (.slice A' n c')) (by
        cases hv : (Value.slice A' n c').ownBlock with
        | none => exact Or.inl rfl
        | some k =>
          refine Or.inr fun e => ?_
          have := hob k hv
          simp at e
          omega) (fun b hb' => ⟨Nat.lt_of_lt_of_le hb' (Nat.le_trans hB (Nat.le_trans HB0.out.size hb04.size)), fun e => by
          have h1 : b < B := hb'
          have := HB0.out.size
          simp at e
          omega⟩)
      have ho6 := Own.kept ho5 (grown_set _ w0.heap.size 1 (.bool q)) (by
        cases hv : (Value.slice A' n c').ownBlock with
        | none => exact Or.inl rfl
        | some k =>
          refine Or.inr fun e => ?_
          have := hob k hv
          simp at e
          omega) (fun b hb' => ⟨by simp only [World.size_setCell]; exact Nat.lt_of_lt_of_le hb' (Nat.le_trans hB (Nat.le_trans HB0.out.size hb04.size)), fun e => by
          have h1 : b < B := hb'
          have := HB0.out.size
          simp at e
          omega⟩)
      have HST := Lib.hid (ownSt_mk (q := q) (O := w0.heap.size) (by have := HSZ.out; omega) hb (set_blk (set_blk G0.out _) _) ((Below.heap_setCell _ _ _ _ hne).trans ((Below.heap_setCell _ _ _ _ hne).trans hres)) (ho6.down (by simp; have := HB0.out.size; omega)) h0 HNL.out hfew)
      clear hb hres hne hob ho5 ho6 hb04 hb4 ho4 d0 d1 b0 b1 g1 g2 g3 g4 hbs
      go_wp2_with fail
      go_meet
      case rel => exact HST.out
  case rest =>
    obtain ⟨O, g, c', ps0, rfl, hO, hb, hbox, hres, hh, hnc⟩ := hcut
    have H0 : Hid (OwnR w B n q l O g c' 0 wc) := ⟨ps0, hb, hbox, hres, hh⟩
    have o0 : wc.cell? ⟨O, 0, none⟩ = some (.slice (some ⟨g, 0, none⟩) n c') := cell_blk hbox rfl
    clear hb hbox hres hh b0 b1 HL HCL HRS HB0 HSZ
    go_upto_region 3 with fail
    go_loopw [15] (fun s wr => ∃ k : Nat, k ≤ n ∧ s = .int .i64 (k : Int) ∧ Hid (OwnR w B n q l O g c' k wr)) (fun s _ => n - (intOf s).toNat)
    case atStart => exact ⟨0, Nat.zero_le _, rfl, H0⟩
    case round =>
      obtain ⟨k, hk, rfl, HR⟩ := hrel
      obtain ⟨ps, hb, hbox, hres, hh⟩ := HR.out
      by_cases hlt : k < n
      · obtain ⟨x, hx⟩ : ∃ x, l[k]? = some x := get_some (by have := HNL.out; omega)
        obtain ⟨p, hp⟩ : ∃ p, ps[k]? = some p := get_some (by have := HNL.out; have := hh.len; omega)
        obtain ⟨Aa, na, ca, Ak, nk, ck, rfl, hnd⟩ := hh.todo k x p (Nat.le_refl _) hx hp
        obtain rfl : na = x.attrs.length := hnd.attrs.hn
        obtain rfl : nk = x.kids.length := hnd.kids.hn
        obtain ⟨g2, c2, e2, hgb, hgl, _, hfz, hcell⟩ := hh.where_ (by have := HNL.out; omega)
        simp only [Value.slice.injEq, Option.some.injEq, Addr.mk.injEq, and_true] at e2
        obtain ⟨rfl, hn2, rfl⟩ := e2
        clear hn2
        have k2 := hcell k x _ hx hp 2 _ rfl
        have k5 := hcell k x _ hx hp 5 _ rfl
        have o0 : wr.cell? ⟨O, 0, none⟩ = some (.slice (some ⟨g, 0, none⟩) n c') := cell_blk hbox rfl
        have i1 : (0 : Int) ≤ (k : Int) := by omega
        have i2 : (k : Int) < (n : Int) := by omega
        have HX := Lib.hid hx
        have HP := Lib.hid hp
        have HND := Lib.hid hnd
        have HH := Lib.hid hh
        have HB := Lib.hid hb
        have HBX := Lib.hid hbox
        have HRS := Lib.hid hres
        have HFZ := Lib.hid hfz
        have HGL := Lib.hid hgl
        have HGB := Lib.hid hgb
        have hBr : B ≤ wr.heap.size := Nat.le_trans hB hb.size
        have HC1 := Lib.hid (cloneDA Aa x.attrs.length ca x.attrs wr.drew B hnd.attrs.drew hBr)
        have HC2 := Lib.hid (fun W (hs : Sl (tInt .i64) W (lt B) Ak x.kids.length ck x.kids) (hz : B ≤ W.heap.size) => cloneI Ak x.kids.length ck x.kids W B hs hz)
        clear hb hbox hres hh hnd hx hp hcell hfz hgl hgb HR
        go_upto_region 6 with fail
        refine wp_region_G (S := (fun w' : World => w'.cell? ⟨g, k * 6 + 2, none⟩ = some (.slice Aa x.attrs.length ca) ∧ w'.cell? ⟨g, k * 6 + 5, none⟩ = some (.slice Ak x.kids.length ck))) (T := [14, 15, 16, 17]) (by kernel_rfl) ?_
        have hS : (fun w' : World => w'.cell? ⟨g, k * 6 + 2, none⟩ = some (.slice Aa x.attrs.length ca) ∧ w'.cell? ⟨g, k * 6 + 5, none⟩ = some (.slice Ak x.kids.length ck)) wr.drew := ⟨k2, k5⟩
        refine wpAnyG_pure (i := 0) (v := ?_) rfl (by kernel_rfl) (by kernel_rfl) (by kernel_rfl) (fun _ _ _ h => h) rfl ?_ ?_
        rotate_left
        · intro w'
          first | (go_simp; done) | (go_simp; with_reducible rfl)
        refine wpAnyG_pure (i := 1) (v := ?_) rfl (by kernel_rfl) (by kernel_rfl) (by kernel_rfl) (fun _ _ _ h => h) rfl ?_ ?_
        rotate_left
        · intro w'
          first | (go_simp; done) | (go_simp; with_reducible rfl)
        refine wpAnyG_pure (i := 2) (v := ?_) rfl (by kernel_rfl) (by kernel_rfl) (by kernel_rfl) (fun _ _ _ h => h) rfl ?_ ?_
        rotate_left
        · intro w'
          first | (go_simp; done) | (go_simp; with_reducible rfl)
        refine wpAnyG_pure (i := 3) (v := ?_) rfl (by kernel_rfl) (by kernel_rfl) (by kernel_rfl) (fun _ _ _ h => h) rfl ?_ ?_
        rotate_left
        · intro w'
          first | (go_simp; done) | (go_simp; with_reducible rfl)
        refine wpAnyG_pure (i := 4) (v := ?_) rfl (by kernel_rfl) (by kernel_rfl) (by kernel_rfl) (fun _ _ _ h => h) rfl ?_ ?_
        rotate_left
        · intro w'
          first | (go_simp; done) | (go_simp; with_reducible rfl)
        refine wpAnyG_take (i := 5) (v := ?_) rfl (by kernel_rfl) (by kernel_rfl) (by kernel_rfl) (by kernel_rfl) (fun _ _ _ h => h) hS rfl ?_ ?_
        rotate_left
        · intro w' hSw
          (try dsimp only at hSw)
          first | (go_simp; done) | (go_simp; with_reducible rfl)
        refine wpAnyG_pure (i := 7) (v := ?_) rfl (by kernel_rfl) (by kernel_rfl) (by kernel_rfl) (fun _ _ _ h => h) rfl ?_ ?_
        rotate_left
        · intro w'
          first | (go_simp; done) | (go_simp; with_reducible rfl)
        refine wpAnyG_pure (i := 8) (v := ?_) rfl (by kernel_rfl) (by kernel_rfl) (by kernel_rfl) (fun _ _ _ h => h) rfl ?_ ?_
        rotate_left
        · intro w'
          first | (go_simp; done) | (go_simp; with_reducible rfl)
        refine wpAnyG_pure (i := 9) (v := ?_) rfl (by kernel_rfl) (by kernel_rfl) (by kernel_rfl) (fun _ _ _ h => h) rfl ?_ ?_
        rotate_left
        · intro w'
          first | (go_simp; done) | (go_simp; with_reducible rfl)
        refine wpAnyG_take (i := 10) (v := ?_) rfl (by kernel_rfl) (by kernel_rfl) (by kernel_rfl) (by kernel_rfl) (fun _ _ _ h => h) hS rfl ?_ ?_
        rotate_left
        · intro w' hSw
          (try dsimp only at hSw)
          first | (go_simp; done) | (go_simp; with_reducible rfl)
        refine wpAnyG_one (i := 6) (by kernel_rfl) rfl rfl (fun K hK => ?_)
        go_simp
        go_at_call 102
        refine HC1.out.mono ?_
        rintro e' w5 ⟨A1, c1, rfl, hb5, ho5⟩
        have m2 := cell_be (w := wr.drew) k2 hb5
        have m5 := cell_be (w := wr.drew) k5 hb5
        go_wp2_with fail
        refine hK.out _ _ (fun _ _ => ⟨m2, m5⟩) ?_
        clear hK K hS
        refine wpAnyG_one (i := 11) (by kernel_rfl) rfl rfl (fun K hK => ?_)
        go_simp
        go_at_call 103
        refine (HC2.out _ ((HND.out.kids.drew).below hb5 hBr) (Nat.le_trans hBr hb5.size)).mono ?_
        rintro e' w6 ⟨A2, c2, rfl, hb6, ho6⟩
        have n2 := cell_be m2 hb6
        have n5 := cell_be m5 hb6
        go_wp2_with fail
        refine hK.out _ _ (fun _ _ => ⟨n2, n5⟩) ?_
        clear hK K
        have hb56 : Below wr.heap.size wr w6 := ((Below.refl _ wr).drew.trans (hb5.mono (Nat.le_refl _))).trans (hb6.mono hb5.size)
        have hv1 : OwnF tDA w6 wr.heap.size 31 (.slice A1 x.attrs.length c1) x.attrs.length x.attrs := OwnF.below (ho5.flat (flatPair flatStr flatStr)) hb6 (Nat.le_refl _)
        have hv2 : OwnF (tInt .i64) w6 wr.heap.size 3 (.slice A2 x.kids.length c2) x.kids.length x.kids := (ho6.flat (flatInt _)).down hb5.size
        have HST := Lib.hid (HH.out.step HX.out HP.out hb56 HB.out.size hB hv1 hv2 (HM.out x (List.mem_of_getElem? HX.out)))
        have HB6 := Lib.hid ((HB.out.trans (hb56.mono HB.out.size)))
        have HBX6 := Lib.hid ((hb56.block _ (Array.getElem?_eq_some_iff.1 HBX.out).1).trans HBX.out)
        have HRS6 := Lib.hid ((hb56.block _ (Array.getElem?_eq_some_iff.1 HRS.out).1).trans HRS.out)
        have f2 : w6.frozen? ⟨g, k * 6 + 2, none⟩ = false := (hb56.frozen (p := ⟨g, k * 6 + 2, none⟩) HGL.out).trans (HFZ.out _)
        have f5 : w6.frozen? ⟨g, k * 6 + 5, none⟩ = false := (hb56.frozen (p := ⟨g, k * 6 + 5, none⟩) HGL.out).trans (HFZ.out _)
        have HROW6 := Lib.hid (HH.out.row.below hb56 (Nat.le_refl _))
        clear hb56 hv1 hv2 hb5 hb6 ho5 ho6 m2 m5 k2 k5 HC1 HC2
        refine wpAnyG_one (i := 12) (by kernel_rfl) rfl rfl (fun K hK => ?_)
        go_simp
        refine hK.out _ _ (fun _ h => h) ?_
        clear hK K
        refine wpAnyG_one (i := 13) (by kernel_rfl) rfl rfl (fun K hK => ?_)
        go_simp
        refine hK.out _ _ (fun _ h => h) ?_
        clear hK K
        refine wpAnyG_one (i := 14) (by kernel_rfl) rfl rfl (fun K hK => ?_)
        go_simp
        refine hK.out _ _ (fun h => absurd (by decide) h) ?_
        clear hK K
        refine wpAnyG_one (i := 15) (by kernel_rfl) rfl rfl (fun K hK => ?_)
        go_simp
        refine hK.out _ _ (fun _ h => h) ?_
        clear hK K
        refine wpAnyG_one (i := 16) (by kernel_rfl) rfl rfl (fun K hK => ?_)
        go_simp
        refine hK.out _ _ (fun _ h => h) ?_
        clear hK K
        refine wpAnyG_one (i := 17) (by kernel_rfl) rfl rfl (fun K hK => ?_)
        go_simp
        refine hK.out _ _ (fun h => absurd (by decide) h) ?_
        clear hK K
        refine wpAnyG_done (by kernel_rfl) ?_ _
        have hOg : O ≠ g := fun e => own_ne_block (by decide) HROW6.out HBX6.out (by rw [e]; rfl)
        have hRg : w.heap.size + 1 ≠ g := fun e => own_ne_block (by decide) HROW6.out HRS6.out (by rw [e]; rfl)
        have HEND : Hid (OwnR w B n q l O g c' (k + 1) ((w6.setCell ⟨g, k * 6 + 2, none⟩ (.slice A1 x.attrs.length c1)).setCell ⟨g, k * 6 + 5, none⟩ (.slice A2 x.kids.length c2))) :=
          ⟨_, (HB6.out.setCell (p := ⟨g, k * 6 + 2, none⟩) HGB.out _).setCell (p := ⟨g, k * 6 + 5, none⟩) HGB.out _, (Below.heap_setCell _ _ _ _ hOg).trans ((Below.heap_setCell _ _ _ _ hOg).trans HBX6.out), (Below.heap_setCell _ _ _ _ hRg).trans ((Below.heap_setCell _ _ _ _ hRg).trans HRS6.out), HST.out⟩
        clear hOg hRg n2 n5 f2 f5 o0
        go_wp2_with fail
        go_roundw
        case rel => exact ⟨k + 1, by omega, by go_num, HEND⟩
        case measure => simp [intOf]; omega
      · obtain rfl : k = n := by omega
        have hed := hh.ed (by have := HNL.out; omega)
        have o0 : wr.cell? ⟨O, 0, none⟩ = some (.slice (some ⟨g, 0, none⟩) k c') := cell_blk hbox rfl
        have o1 : wr.cell? ⟨O, 1, none⟩ = some (.bool q) := cell_blk hbox rfl
        have r0 : wr.cell? ⟨w.heap.size + 1, 0, none⟩ = some (.slice none 0 0) := cell_blk hres rfl
        have r1 : wr.cell? ⟨w.heap.size + 1, 1, none⟩ = some (.bool false) := cell_blk hres rfl
        have q0 : wr.frozen? ⟨w.heap.size + 1, 0, none⟩ = false := free_blk hres
        have q1 : wr.frozen? ⟨w.heap.size + 1, 1, none⟩ = false := free_blk hres
        have hres1 := set_blk (i := 0) hres (.slice (some ⟨g, 0, none⟩) k c')
        have hres2 := set_blk (i := 1) hres1 (.bool q)
        have s0 := cell_blk (i := 0) (v := .slice (some ⟨g, 0, none⟩) k c') hres2 rfl
        have s1 := cell_blk (i := 1) (v := .bool q) hres2 rfl
        have HED := Lib.hid ((hed.other hres (by decide) (by decide) (by decide) (grown_set wr _ 0 (.slice (some ⟨g, 0, none⟩) k c'))).other hres1 (by decide) (by decide) (by decide) (grown_set _ _ 1 (.bool q)))
        have HB := Lib.hid ((hb.setCell (p := ⟨w.heap.size + 1, 0, none⟩) (by show w.heap.size ≤ w.heap.size + 1; omega) (.slice (some ⟨g, 0, none⟩) k c')).setCell (p := ⟨w.heap.size + 1, 1, none⟩) (by show w.heap.size ≤ w.heap.size + 1; omega) (.bool q))
        clear hed hbox hres hres1 hres2 hb hh HR
        go_wp2_with fail
        refine bodyPost_ret (v := .agg #[.slice (some ⟨g, 0, none⟩) k c', .bool q]) (by simp [results, Tryz.results53, go_sem, s0, s1]) rfl ⟨g, c', ps, rfl, ?_, ?_, hnc⟩
        · exact HB.out
        · exact HED.out
end Go.Proofs.YtpbngckplbnahaaGreatDoor

/-
The walk of dom.Apply: one edit of a document.
-/
namespace Go.Proofs.YtpbngckplbnahaaGreatDoor
open Go.RowKit Go.Cl
attribute [local go_sem ↓] Go.wp_at_zero Go.wp_at_succ

/-- Between two blocks' numbers. -/
def rg (a b : Nat) : Nat → Prop := fun k => a ≤ k ∧ k < b
theorem OwnF.slr {α : Type} {T : Ty α} {w : World} {base : Nat} {e : TypeId} {v : Value} {n : Nat} {xs : List α} (h : OwnF T w base e v n xs) (hpos : 0 < T.size) (hn : n * T.bytes ≤ 140737488355328) : ∃ A c, v = .slice A n c ∧ Sl T w (rg base w.heap.size) A n c xs := by
  obtain ⟨A, c, rfl⟩ := Own.form h
  exact ⟨A, c, rfl, (Own.sl h hpos hn).more fun b hb => hb.elim False.elim id⟩
theorem ed_rows2 {w : World} {base : Nat} {D : Nat → Prop} : ∀ (l : List Nd) (ps : List (Value × Value)) (cells : List Value), ps.length = l.length → (∀ (i : Nat) x p, l[i]? = some x → ps[i]? = some p → Parts w base x p) → Row tN6 w D (List.zipWith ndRow l ps) cells → Row tNd w (rg base w.heap.size) l cells := by
  intro l
  induction l with
  | nil =>
    intro ps cells _ _ h
    exact h
  | cons x l ih =>
    intro ps cells hl hp h
    cases ps with
    | nil => simp at hl
    | cons p ps =>
      obtain ⟨c1, c2, rfl, ⟨rfl, _⟩, h2⟩ := h
      have hP := hp 0 x p rfl rfl
      obtain ⟨Aa, ca, ea, sa⟩ := OwnF.slr hP.attrs (by decide) (by have := hP.ok.attrs; show x.attrs.length * 32 ≤ _; omega)
      obtain ⟨Ak, ck, ek, sk⟩ := OwnF.slr hP.kids (by decide) (by have := hP.ok.kids; show x.kids.length * 8 ≤ _; omega)
      refine ⟨ndRow x p, c2, rfl, ?_, ih ps c2 (by simpa using hl) (fun i y q hy hq => hp (i + 1) y q (by simpa using hy) (by simpa using hq)) h2⟩
      unfold ndRow
      rw [ea, ek]
      exact nd_rep ⟨sa, sk, hP.ok.kind, hP.ok.name, hP.ok.text, hP.ok.parent⟩
theorem Ed.slr {w : World} {base : Nat} {l : List Nd} {ps : List (Value × Value)} {A0 : Option Addr} {n c : Nat} (h : Ed w base (.slice A0 n c) l ps) : Sl tNd w (rg base w.heap.size) A0 n c l := by
  have hrow := h.row
  have hn : n = l.length := by
    obtain ⟨_, h3, _⟩ := hrow
    rcases h3.2 with ⟨hv, h4⟩ | ⟨g', cap, cur, hv, _⟩
    · injection hv with _ hv _
      omega
    · injection hv
  subst hn
  have hs := Own.sl hrow (by decide) (by have := h.few; show l.length * 96 ≤ _; omega)
  refine ⟨rfl, hs.hc, by have := h.few; show l.length * 96 ≤ _; omega, hs.hm, hs.nil_, fun h0 => ?_⟩
  obtain ⟨b, o, cells, e, hD, hr, hc⟩ := hs.at_ h0
  refine ⟨b, o, cells, e, ?_, ed_rows2 l ps cells h.len h.parts hr, hc⟩
  rcases hD with hD | hD
  · exact hD.elim
  · exact hD
/-- What lies elsewhere turns. -/
theorem sl_far {α : Type} {T : Ty α} {w : World} {a b O : Nat} {A : Option Addr} {n c : Nat} {xs : List α} (h : Sl T w (rg a b) A n c xs) (hO : O < a) (i : Nat) (v : Value) : Sl T (w.setCell ⟨O, i, none⟩ v) (rg a b) A n c xs :=
  h.keep fun p hp => World.cell?_setCell_other w _ p v (fun e => by
    have h1 := hp.1
    rw [← e] at h1
    have h2 : a ≤ O := h1
    omega)
theorem Sl.ltr {α : Type} {T : Ty α} {w : World} {a b : Nat} {A : Option Addr} {n c : Nat} {xs : List α} (h : Sl T w (rg a b) A n c xs) : Sl T w (lt b) A n c xs := h.more fun _ hb => hb.2
theorem Sl.rgd {α : Type} {T : Ty α} {w : World} {a a' b b' : Nat} {A : Option Addr} {n c : Nat} {xs : List α} (h : Sl T w (rg a b) A n c xs) (ha : a' ≤ a) (hb : b ≤ b') : Sl T w (rg a' b') A n c xs := h.more fun _ hk => ⟨Nat.le_trans ha hk.1, Nat.lt_of_lt_of_le hk.2 hb⟩
def apErr (l : List Nd) (e : Edt) : Int := if checkD l ≠ 0 then checkD l else edErr l e
/-- What Apply leaves behind. -/
def ApPost (w : World) (l : List Nd) (q : Bool) (e : Edt) (e' : Ending) (w' : World) : Prop :=
  Below w.heap.size w w' ∧ ((apErr l e ≠ 0 ∧ e' = .returned (.tuple #[.agg #[.slice none 0 0, .bool false], .int .i64 0, .int .i64 (apErr l e)])) ∨
    (apErr l e = 0 ∧ ∃ A' c', e' = .returned (.tuple #[.agg #[.slice A' (edDo l e).length c', .bool q], .int .i64 (edMade l 0 e), .int .i64 0]) ∧ Sl tNd w' (rg w.heap.size w'.heap.size) A' (edDo l e).length c' (edDo l e)))
theorem Good.mods {l : List Nd} (h : Good l) : ∀ x ∈ l, Mod x := fun x hx => by
  obtain ⟨m, hm⟩ := List.mem_iff_getElem?.1 hx
  have h1 := h.kids_few hm
  exact ⟨((nodeE_iff x).1 (h.each x hx)).2.2.1.few, by omega⟩
/-- A document in its box, a place for a result, in a later world. -/
structure RB (w : World) (B : Nat) (A : Option Addr) (k c : Nat) (q : Bool) (l : List Nd) (hd hr : Nat) (u : World) : Prop where
  below : Below w.heap.size w u
  box : u.heap[hd]? = some (.cells #[.slice A k c, .bool q] 29 (0, 0))
  res : u.heap[hr]? = some (.cells #[.slice none 0 0, .bool false] 29 (0, 0))
  doc : Sl tNd u (lt B) A k c l
  le : B ≤ u.heap.size
section
variable {w : World} {B : Nat} {A : Option Addr} {k c : Nat} {q : Bool} {l : List Nd} {hd hr : Nat} {u u' : World}
theorem RB.next (h : RB w B A k c q l hd hr u) {b : Nat} (hb : Below b u u') (hw : w.heap.size ≤ b) (h1 : hd < b) (h2 : hr < b) (hB : B ≤ b) : RB w B A k c q l hd hr u' :=
  ⟨h.below.trans (hb.mono hw), (hb.block _ h1).trans h.box, (hb.block _ h2).trans h.res, h.doc.below hb hB, Nat.le_trans h.le hb.size⟩
end
set_option maxRecDepth 100000 in
set_option maxHeartbeats 4000000 in
theorem apply_any (A : Option Addr) (n c : Nat) (l : List Nd) (q : Bool) (e : Edt) (Aa : Option Addr) (na ca : Nat) (Ak : Option Addr) (nk ck : Nat) (w : World) (B : Nat) (hl : Sl tNd w (lt B) A n c l) (hB : B ≤ w.heap.size) (he : EdtOk w (lt B) e Aa na ca Ak nk ck) :
    Calls Tryz.prog 23 #[.agg #[.slice A n c, .bool q], .agg (edtCells e Aa na ca Ak nk ck)] w (ApPost w l q e) := by
  obtain ⟨wa, hwa⟩ : ∃ wa, wa = w.alloc (.cells #[.slice A n c, .bool q] 29) := ⟨_, rfl⟩
  obtain ⟨wb, hwb⟩ : ∃ wb, wb = wa.alloc (.cells (edtCells e Aa na ca Ak nk ck) 64) := ⟨_, rfl⟩
  obtain ⟨w0, hw0⟩ : ∃ w0, w0 = wb.alloc (.cells #[.slice none 0 0, .bool false] 29) := ⟨_, rfl⟩
  have za : wa.heap.size = w.heap.size + 1 := by rw [hwa]; exact World.size_alloc w _
  have zb : wb.heap.size = w.heap.size + 2 := by rw [hwb, World.size_alloc, za]
  have z0 : w0.heap.size = w.heap.size + 3 := by rw [hw0, World.size_alloc, zb]
  have hxa : wa.heap[w.heap.size]? = some (.cells #[.slice A n c, .bool q] 29 (0, 0)) := by rw [hwa]; exact heap_alloc_new w _
  have hxb : wb.heap[w.heap.size + 1]? = some (.cells (edtCells e Aa na ca Ak nk ck) 64 (0, 0)) := by rw [hwb, ← za]; exact heap_alloc_new wa _
  have hx0 : w0.heap[w.heap.size + 2]? = some (.cells #[.slice none 0 0, .bool false] 29 (0, 0)) := by rw [hw0, ← zb]; exact heap_alloc_new wb _
  have hbd : w0.heap[w.heap.size]? = some (.cells #[.slice A n c, .bool q] 29 (0, 0)) := by rw [hw0, Lib.alloc_old _ _ _ (by omega), hwb, Lib.alloc_old _ _ _ (by omega)]; exact hxa
  have hbe : w0.heap[w.heap.size + 1]? = some (.cells (edtCells e Aa na ca Ak nk ck) 64 (0, 0)) := by rw [hw0, Lib.alloc_old _ _ _ (by omega)]; exact hxb
  have hb0 : Below w.heap.size w w0 := by rw [hw0, hwb, hwa]; exact (((Below.refl _ _).alloc (Nat.le_refl _) _).alloc (by simp) _).alloc (by simp; omega) _
  have H0 : Hid (RB w B A n c q l w.heap.size (w.heap.size + 1 + 1) w0) := ⟨hb0, hbd, hx0, hl.below hb0 hB, Nat.le_trans hB hb0.size⟩
  have HBE := Lib.hid hbe
  have HE := Lib.hid he
  have HZ := Lib.hid z0
  have HN := Lib.hid hl.hn
  have HBW : Hid (B ≤ w.heap.size) := hB
  clear za zb z0 hxa hxb hx0 hbd hbe hb0 hl he hB
  go_enter Tryz.func23, Tryz.ntmps23
  unfold edtCells at *
  go_upto_region 1 with fail
  rw [← hwa, ← hwb, ← hw0]
  clear hwa hwb hw0
  have x0 := cell_blk (i := 0) H0.out.box rfl
  have x1 := cell_blk (i := 1) H0.out.box rfl
  have HCK := Lib.hid (check_dom A n c l q w0 B H0.out.doc H0.out.le)
  by_cases hck : checkD l = 0
  · have hgood := good_of hck
    have HG := Lib.hid hgood
    have HAE := Lib.hid (show apErr l e = edErr l e from by unfold apErr; rw [if_neg (by simpa using hck)])
    rw [hck] at HCK
    have hpos := hgood.pos
    have hsm := hgood.small
    have HMD := Lib.hid hgood.mods
    clear hck hgood
    go_upto_region 4 with (go_at_call 52; refine HCK.out.mono ?_; rintro e' w1 ⟨rfl, hb1⟩)
    have hz := HZ.out
    have H1 := Lib.hid (H0.out.next hb1 (by omega) (by omega) (by omega) H0.out.le)
    have HE1 := Lib.hid ((hb1.block _ (by omega)).trans HBE.out)
    have HEO1 := Lib.hid ((HE.out.below H0.out.below HBW.out).below hb1 H0.out.le)
    have y0 := cell_blk (i := 0) H1.out.box rfl
    have y1 := cell_blk (i := 1) H1.out.box rfl
    have HOW := Lib.hid (own_any A n c l q w1 B H1.out.doc H1.out.le (by have := HN.out; omega) (by have := HN.out; omega) HMD.out)
    have HZ1 : Hid (w.heap.size + 3 ≤ w1.heap.size) := by have := hb1.size; show _ ≤ _; omega
    clear hz hb1 x0 x1 HCK HMD
    go_upto_region 5 with (go_at_call 53; refine HOW.out.mono ?_; rintro e' w2 ⟨g, c', ps, rfl, hb2, hed, hnc⟩)
    obtain ⟨w3, hw3⟩ : ∃ w3, w3 = w2.alloc (.cells #[.slice (some ⟨g, 0, none⟩) n c', .bool q, .int .i64 0] 117) := ⟨_, rfl⟩
    rw [← hw3]
    have hb3 : Below w1.heap.size w1 w3 := by rw [hw3]; exact hb2.alloc hb2.size _
    have hx3 : w3.heap[w2.heap.size]? = some (.cells #[.slice (some ⟨g, 0, none⟩) n c', .bool q, .int .i64 0] 117 (0, 0)) := by rw [hw3]; exact heap_alloc_new w2 _
    have hne3 : Ed w3 w1.heap.size (.slice (some ⟨g, 0, none⟩) n c') l ps := by rw [hw3]; exact hed.next ((Below.refl _ _).alloc (Nat.le_refl _) _)
    have HN' := HN.out
    have HAT : Hid (EdAt w3 w2.heap.size g c' w1.heap.size l q 0 ps) := ⟨by rw [← HN']; exact hx3, by rw [← HN']; exact hne3, hb2.size, hpos, by omega⟩
    have hz1 := HZ1.out
    have H3 := Lib.hid (H1.out.next hb3 (by omega) (by omega) (by omega) H1.out.le)
    have HE3 := Lib.hid ((hb3.block _ (by omega)).trans HE1.out)
    have HEO3 := Lib.hid (HEO1.out.below hb3 H1.out.le)
    have HED := Lib.hid (edit_any w3 w2.heap.size g c' w1.heap.size l q 0 ps e Aa na ca Ak nk ck HAT.out HG.out ⟨HEO3.out.node.up H1.out.le, HEO3.out.at_, HEO3.out.to_, HEO3.out.before, HEO3.out.name, HEO3.out.value⟩)
    have HB3 := Lib.hid hb3
    have HSZ3 : Hid (w1.heap.size ≤ w3.heap.size) := hb3.size
    have e0 : w3.cell? ⟨w.heap.size + 1, 0, none⟩ = some (.int .i64 e.do_) := cell_blk HE3.out rfl
    have e1 : w3.cell? ⟨w.heap.size + 1, 1, none⟩ = some (.int .i64 e.at_) := cell_blk HE3.out rfl
    have e2 : w3.cell? ⟨w.heap.size + 1, 2, none⟩ = some (.int .i64 e.to_) := cell_blk HE3.out rfl
    have e3 : w3.cell? ⟨w.heap.size + 1, 3, none⟩ = some (.int .i64 e.before) := cell_blk HE3.out rfl
    have e4 : w3.cell? ⟨w.heap.size + 1, 4, none⟩ = some (.string e.name) := cell_blk HE3.out rfl
    have e5 : w3.cell? ⟨w.heap.size + 1, 5, none⟩ = some (.string e.value) := cell_blk HE3.out rfl
    have e6 : w3.cell? ⟨w.heap.size + 1, 6, none⟩ = some (.int .i64 e.node.kind) := cell_blk HE3.out rfl
    have e7 : w3.cell? ⟨w.heap.size + 1, 7, none⟩ = some (.string e.node.name) := cell_blk HE3.out rfl
    have e8 : w3.cell? ⟨w.heap.size + 1, 8, none⟩ = some (.slice Aa na ca) := cell_blk HE3.out rfl
    have e9 : w3.cell? ⟨w.heap.size + 1, 9, none⟩ = some (.string e.node.text) := cell_blk HE3.out rfl
    have e10 : w3.cell? ⟨w.heap.size + 1, 10, none⟩ = some (.int .i64 e.node.parent) := cell_blk HE3.out rfl
    have e11 : w3.cell? ⟨w.heap.size + 1, 11, none⟩ = some (.slice Ak nk ck) := cell_blk HE3.out rfl
    clear hb2 hed hw3 hb3 hx3 hne3 HN' hz1 y0 y1 hnc hpos hsm HOW
    unfold edtCells at HED
    by_cases hee : edErr l e = 0
    · have HR := Lib.hid (HAE.out.trans hee)
      rw [hee] at HED
      clear hee
      go_upto_region 8 with (go_at_call 54; refine HED.out.mono ?_; rintro e' w4 ⟨rfl, hb4, hp4⟩)
      obtain ⟨g4, c4, ps4, hat4⟩ := hp4 trivial
      have hz1 := HZ1.out
      have H4 := Lib.hid (H3.out.next hb4 (by omega) (by omega) (by omega) H1.out.le)
      have s0 := hat4.c0
      have s1 := hat4.c1
      have s2 := hat4.c2
      have r0 := cell_blk (i := 0) H4.out.res rfl
      have r1 := cell_blk (i := 1) H4.out.res rfl
      have q0 := free_blk (i := 0) H4.out.res
      have q1 := free_blk (i := 1) H4.out.res
      have hEr : w.heap.size + 1 + 1 ≠ w2.heap.size := by have := hat4.le; omega
      have HEr := Lib.hid hEr
      have HAT4 := Lib.hid hat4
      have HB4 := Lib.hid hb4
      clear hat4 hb4 hp4 hz1 hEr e0 e1 e2 e3 e4 e5 e6 e7 e8 e9 e10 e11 HED
      obtain ⟨l', hl'⟩ : ∃ l', edDo l e = l' := ⟨_, rfl⟩
      obtain ⟨md, hmd⟩ : ∃ md, edMade l 0 e = md := ⟨_, rfl⟩
      rw [hl', hmd] at HAT4
      rw [hl'] at s0
      rw [hmd] at s2
      have HL' := Lib.hid hl'
      have HMD' := Lib.hid hmd
      clear hl' hmd
      go_region_held3 (fun w' => w'.cell? ⟨w2.heap.size, 0, none⟩ = some (.slice (some ⟨g4, 0, none⟩) l'.length c4) ∧ w'.cell? ⟨w2.heap.size, 1, none⟩ = some (.bool q) ∧ w'.cell? ⟨w2.heap.size, 2, none⟩ = some (.int .i64 md)) (first | exact ⟨s0, s1, s2⟩ | exact ⟨cell_far HEr.out (cell_far HEr.out s0 _) _, cell_far HEr.out (cell_far HEr.out s1 _) _, cell_far HEr.out (cell_far HEr.out s2 _) _⟩ | go_keep) (fail)
      have hres1 := set_blk (i := 0) H4.out.res (.slice (some ⟨g4, 0, none⟩) l'.length c4)
      have hres2 := set_blk (i := 1) hres1 (.bool q)
      have t0 := cell_blk (i := 0) (v := .slice (some ⟨g4, 0, none⟩) l'.length c4) hres2 rfl
      have t1 := cell_blk (i := 1) (v := .bool q) hres2 rfl
      have hed5 := ((HAT4.out.ed.other H4.out.res (by decide) (by decide) (by decide) (grown_set w4 _ 0 (.slice (some ⟨g4, 0, none⟩) l'.length c4))).other hres1 (by decide) (by decide) (by decide) (grown_set _ _ 1 (.bool q))).next ((Below.refl _ _).drew)
      have HSL5 := Lib.hid (Sl.rgd hed5.slr (by have := HZ1.out; omega : w.heap.size ≤ w1.heap.size) (Nat.le_refl _))
      have HB5 := Lib.hid ((H4.out.below.setCell (p := ⟨w.heap.size + 1 + 1, 0, none⟩) (by show w.heap.size ≤ w.heap.size + 1 + 1; omega) (.slice (some ⟨g4, 0, none⟩) l'.length c4)).setCell (p := ⟨w.heap.size + 1 + 1, 1, none⟩) (by show w.heap.size ≤ w.heap.size + 1 + 1; omega) (.bool q)).drew
      clear hres1 hres2 hed5
      go_wp2_with fail
      refine bodyPost_ret (v := .tuple #[.agg #[.slice (some ⟨g4, 0, none⟩) l'.length c4, .bool q], .int .i64 md, .int .i64 0]) (by simp [results, Tryz.results23, go_sem, t0, t1]) rfl ⟨HB5.out, Or.inr ⟨HR.out, some ⟨g4, 0, none⟩, c4, ?_, ?_⟩⟩
      · rw [HL'.out, HMD'.out]
      · rw [HL'.out]
        exact HSL5.out
    · have HR := Lib.hid (show apErr l e ≠ 0 from by rw [HAE.out]; exact hee)
      have hee1 : (edErr l e != 0) = true := by simpa using hee
      clear hee
      generalize edErr l e = er at *
      go_upto_region 7 with (go_at_call 54; refine HED.out.mono ?_; rintro e' w4 ⟨rfl, hb4, hp4⟩)
      have hz1 := HZ1.out
      have H4 := Lib.hid (H3.out.next hb4 (by omega) (by omega) (by omega) H1.out.le)
      have r0 := cell_blk (i := 0) H4.out.res rfl
      have r1 := cell_blk (i := 1) H4.out.res rfl
      have q0 := free_blk (i := 0) H4.out.res
      have q1 := free_blk (i := 1) H4.out.res
      have hres1 := set_blk (i := 0) H4.out.res (.slice none 0 0)
      have hres2 := set_blk (i := 1) hres1 (.bool false)
      have t0 := cell_blk (i := 0) (v := .slice none 0 0) hres2 rfl
      have t1 := cell_blk (i := 1) (v := .bool false) hres2 rfl
      have HB5 := Lib.hid ((H4.out.below.setCell (p := ⟨w.heap.size + 1 + 1, 0, none⟩) (by show w.heap.size ≤ w.heap.size + 1 + 1; omega) (.slice none 0 0)).setCell (p := ⟨w.heap.size + 1 + 1, 1, none⟩) (by show w.heap.size ≤ w.heap.size + 1 + 1; omega) (.bool false))
      clear hz1 hb4 hp4 hres1 hres2 e0 e1 e2 e3 e4 e5 e6 e7 e8 e9 e10 e11 HED
      go_wp2_with fail
      refine bodyPost_ret (v := .tuple #[.agg #[.slice none 0 0, .bool false], .int .i64 0, .int .i64 er]) (by simp [results, Tryz.results23, go_sem, t0, t1]) rfl ⟨HB5.out, Or.inl ⟨HR.out, ?_⟩⟩
      rw [HAE.out]
  · have hcc : apErr l e = checkD l := by unfold apErr; rw [if_pos hck]
    have HCC := Lib.hid hcc
    have HR := Lib.hid (show apErr l e ≠ 0 from by rw [hcc]; exact hck)
    have hck1 : (checkD l != 0) = true := by simpa using hck
    clear hck hcc
    generalize checkD l = er at *
    go_upto_region 3 with (go_at_call 52; refine HCK.out.mono ?_; rintro e' w1 ⟨rfl, hb1⟩)
    have hz := HZ.out
    have H4 := Lib.hid (H0.out.next hb1 (by omega) (by omega) (by omega) H0.out.le)
    have r0 := cell_blk (i := 0) H4.out.res rfl
    have r1 := cell_blk (i := 1) H4.out.res rfl
    have q0 := free_blk (i := 0) H4.out.res
    have q1 := free_blk (i := 1) H4.out.res
    have hres1 := set_blk (i := 0) H4.out.res (.slice none 0 0)
    have hres2 := set_blk (i := 1) hres1 (.bool false)
    have t0 := cell_blk (i := 0) (v := .slice none 0 0) hres2 rfl
    have t1 := cell_blk (i := 1) (v := .bool false) hres2 rfl
    have HB5 := Lib.hid ((H4.out.below.setCell (p := ⟨w.heap.size + 1 + 1, 0, none⟩) (by show w.heap.size ≤ w.heap.size + 1 + 1; omega) (.slice none 0 0)).setCell (p := ⟨w.heap.size + 1 + 1, 1, none⟩) (by show w.heap.size ≤ w.heap.size + 1 + 1; omega) (.bool false))
    clear hz hb1 hres1 hres2 x0 x1 HCK
    go_wp2_with fail
    refine bodyPost_ret (v := .tuple #[.agg #[.slice none 0 0, .bool false], .int .i64 0, .int .i64 er]) (by simp [results, Tryz.results23, go_sem, t0, t1]) rfl ⟨HB5.out, Or.inl ⟨HR.out, ?_⟩⟩
    rw [HCC.out]
end Go.Proofs.YtpbngckplbnahaaGreatDoor

/-
The walk of dom.All: edits of a document, one behind the other.
-/
namespace Go.Proofs.YtpbngckplbnahaaGreatDoor
open Go.RowKit Go.Cl
attribute [local go_sem ↓] Go.wp_at_zero Go.wp_at_succ

def tEdt : Ty Edt := tMap (tPair (tInt .i64) (tPair (tInt .i64) (tPair (tInt .i64) (tPair (tInt .i64) (tPair tStr (tPair tStr tNd)))))) (fun e => (e.do_, e.at_, e.to_, e.before, e.name, e.value, e.node)) 160
theorem edt_cells {w : World} {D : Nat → Prop} {e : Edt} {cs : List Value} (h : tEdt.rep w D e cs) : ∃ Aa na ca Ak nk ck, cs = (edtCells e Aa na ca Ak nk ck).toList ∧ EdtOk w D e Aa na ca Ak nk ck := by
  obtain ⟨c1, c2, rfl, ⟨rfl, h1⟩, c3, c4, rfl, ⟨rfl, h2⟩, c5, c6, rfl, ⟨rfl, h3⟩, c7, c8, rfl, ⟨rfl, h4⟩, c9, c10, rfl, ⟨rfl, h5⟩, c11, c12, rfl, ⟨rfl, h6⟩, h7⟩ := h
  obtain ⟨Aa, na, ca, Ak, nk, ck, rfl, hn⟩ := nd_cells h7
  exact ⟨Aa, na, ca, Ak, nk, ck, rfl, hn, h2, h3, h4, h5, h6⟩
theorem edt_rep {w : World} {D : Nat → Prop} {e : Edt} {Aa : Option Addr} {na ca : Nat} {Ak : Option Addr} {nk ck : Nat} (h : EdtOk w D e Aa na ca Ak nk ck) (hd : (Lit.int .i64 e.do_).wf = true) : tEdt.rep w D e (edtCells e Aa na ca Ak nk ck).toList :=
  ⟨[_], _, rfl, ⟨rfl, hd⟩, [_], _, rfl, ⟨rfl, h.at_⟩, [_], _, rfl, ⟨rfl, h.to_⟩, [_], _, rfl, ⟨rfl, h.before⟩, [_], _, rfl, ⟨rfl, h.name⟩, [_], _, rfl, ⟨rfl, h.value⟩, nd_rep h.node⟩
/-- One edit of a slice of them. -/
theorem edt_get {w : World} {D : Nat → Prop} {A : Option Addr} {n c : Nat} {es : List Edt} (h : Sl tEdt w D A n c es) {i : Nat} {e : Edt} (he : es[i]? = some e) :
    ∃ b o Aa na ca Ak nk ck, A = some ⟨b, o, none⟩ ∧ D b ∧ EdtOk w D e Aa na ca Ak nk ck ∧ ∀ (j : Nat) u, (edtCells e Aa na ca Ak nk ck)[j]? = some u → w.cell? ⟨b, o + (i * 12 + j), none⟩ = some u := by
  obtain ⟨b, o, cs, e', hD, hr, hc⟩ := h.get he
  obtain ⟨Aa, na, ca, Ak, nk, ck, rfl, hn⟩ := edt_cells hr
  exact ⟨b, o, Aa, na, ca, Ak, nk, ck, e', hD, hn, fun j u hu => hc j u (by simpa using hu)⟩
/-- What All says ahead of its edits. -/
def alErr (l : List Nd) (es : List Edt) : Int := if checkD l ≠ 0 then checkD l else if 40 < es.length then 2 else 0
/-- What All tells: the document, which edit is wrong, and why. -/
def alR (l : List Nd) (es : List Edt) : List Nd × Int × Int := if alErr l es ≠ 0 then ([], 0, alErr l es) else edAll 0 l es
/-- What All leaves behind. -/
def AlPost (w : World) (l : List Nd) (q : Bool) (es : List Edt) (e' : Ending) (w' : World) : Prop :=
  Below w.heap.size w w' ∧ (((alR l es).2.2 ≠ 0 ∧ e' = .returned (.tuple #[.agg #[.slice none 0 0, .bool false], .int .i64 (alR l es).2.1, .int .i64 (alR l es).2.2])) ∨
    ((alR l es).2.2 = 0 ∧ ∃ A' c', e' = .returned (.tuple #[.agg #[.slice A' (alR l es).1.length c', .bool q], .int .i64 0, .int .i64 0]) ∧ Sl tNd w' (rg w.heap.size w'.heap.size) A' (alR l es).1.length c' (alR l es).1))
/-- What All leaves behind: a document of the call's own. -/
def AlOwn (w : World) (l : List Nd) (q : Bool) (es : List Edt) (e' : Ending) (w' : World) : Prop :=
  Below w.heap.size w w' ∧ (((alR l es).2.2 ≠ 0 ∧ e' = .returned (.tuple #[.agg #[.slice none 0 0, .bool false], .int .i64 (alR l es).2.1, .int .i64 (alR l es).2.2])) ∨
    ((alR l es).2.2 = 0 ∧ ∃ g c' base ps, e' = .returned (.tuple #[.agg #[.slice (some ⟨g, 0, none⟩) (alR l es).1.length c', .bool q], .int .i64 0, .int .i64 0]) ∧ w.heap.size ≤ base ∧ Ed w' base (.slice (some ⟨g, 0, none⟩) (alR l es).1.length c') (alR l es).1 ps ∧ 0 < (alR l es).1.length ∧ (alR l es).1.length ≤ c'))
theorem al_own {w w' : World} {l : List Nd} {q : Bool} {es : List Edt} {e' : Ending} (h : AlOwn w l q es e' w') : AlPost w l q es e' w' := by
  obtain ⟨hb, h | ⟨h1, g, c', base, ps, h2, h3, h4, _⟩⟩ := h
  · exact ⟨hb, Or.inl h⟩
  · exact ⟨hb, Or.inr ⟨h1, _, c', h2, Sl.rgd h4.slr h3 (Nat.le_refl _)⟩⟩
theorem edAll_bad {l : List Nd} {es : List Edt} {k : Nat} {e : Edt} (he : es[k]? = some e) (h : edErr l e ≠ 0) : edAll k l (es.drop k) = ([], (k : Int), edErr l e) := by
  rw [List.drop_eq_getElem_cons (List.getElem?_eq_some_iff.1 he).1, (List.getElem?_eq_some_iff.1 he).2, edAll, if_pos h]
theorem edAll_go {l : List Nd} {es : List Edt} {k : Nat} {e : Edt} (he : es[k]? = some e) (h : edErr l e = 0) : edAll k l (es.drop k) = edAll (k + 1) (edDo l e) (es.drop (k + 1)) := by
  rw [List.drop_eq_getElem_cons (List.getElem?_eq_some_iff.1 he).1, (List.getElem?_eq_some_iff.1 he).2, edAll, if_neg (by simpa using h)]
theorem edAll_end {l : List Nd} {es : List Edt} : edAll es.length l (es.drop es.length) = (l, 0, 0) := by
  rw [List.drop_length]
  rfl
/-- At the head of a round. -/
def AlRel (w : World) (B : Nat) (A : Option Addr) (n c : Nat) (q : Bool) (l : List Nd) (hd hr E b1 : Nat) (R : List Nd × Int × Int) (es : List Edt) (k : Nat) (wr : World) : Prop :=
  ∃ g cg lk made ps, RB w B A n c q l hd hr wr ∧ EdAt wr E g cg b1 lk q made ps ∧ Good lk ∧ R = edAll k lk (es.drop k)
end Go.Proofs.YtpbngckplbnahaaGreatDoor
