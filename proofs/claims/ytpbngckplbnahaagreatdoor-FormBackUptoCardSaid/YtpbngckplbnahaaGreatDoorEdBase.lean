/-
A document of the call's own, each of its rows in a block of its own: what keeps it, what a store makes of it.
-/
import Derived.Test.YtpbngckplbnahaaGreatDoorEdLaws
namespace Go.Proofs.YtpbngckplbnahaaGreatDoor
open Go.RowKit Go.Cl

/-- Cells as they stand. -/
def tRaw (k b : Nat) (hb : 1 ≤ b := by decide) : Ty (List Value) where
  size := k
  bytes := b
  pos := hb
  rep _ _ x cs := cs = x ∧ x.length = k ∧ ∀ u ∈ x, u.oneCell' = true
  len := by rintro w D x cs ⟨rfl, h, _⟩; exact h
  one := by rintro w D x cs ⟨rfl, _, h⟩; exact h
  keep := by rintro w w' D x cs h _; exact h
  more := by rintro w D D' x cs h _; exact h
abbrev tN6 : Ty (List Value) := tRaw 6 96
/-- The cells of a node, over its two slices. -/
def ndRow (x : Nd) (p : Value × Value) : List Value := [.int .i64 x.kind, .string x.name, p.1, .string x.text, .int .i64 x.parent, p.2]
/-- What is known of a node. -/
structure EdOk (x : Nd) : Prop where
  kind : (Lit.int .i64 x.kind).wf = true
  name : x.name.size ≤ 1152921504606846976
  text : x.text.size ≤ 1152921504606846976
  parent : (Lit.int .i64 x.parent).wf = true
  attrs : x.attrs.length ≤ 2000000000
  kids : x.kids.length ≤ 1000
/-- A node's two slices, in blocks of their own. -/
structure Parts (w : World) (base : Nat) (x : Nd) (p : Value × Value) : Prop where
  attrs : OwnF tDA w base 31 p.1 x.attrs.length x.attrs
  kids : OwnF (tInt .i64) w base 3 p.2 x.kids.length x.kids
  ok : EdOk x
/-- A document of the call's own. -/
structure Ed (w : World) (base : Nat) (A : Value) (l : List Nd) (ps : List (Value × Value)) : Prop where
  len : ps.length = l.length
  few : l.length ≤ 100000
  row : OwnF tN6 w base 26 A l.length (List.zipWith ndRow l ps)
  parts : ∀ (i : Nat) x p, l[i]? = some x → ps[i]? = some p → Parts w base x p
  apart : ∀ (i j : Nat) p q, ps[i]? = some p → ps[j]? = some q → i ≠ j → (p.1.ownBlock = none ∨ p.1.ownBlock ≠ q.1.ownBlock) ∧ (p.2.ownBlock = none ∨ p.2.ownBlock ≠ q.2.ownBlock)

theorem own_block_at {α : Type} {T : Ty α} {w : World} {base : Nat} {e : TypeId} {D : Nat → Prop} {v : Value} {n g : Nat} {xs : List α} (h : Own T w base e D v n xs) (hg : v.ownBlock = some g) : ∃ cur, w.heap[g]? = some (.cells cur e (0, 0)) := by
  obtain ⟨cells, h, _⟩ := h
  rcases h.2 with ⟨rfl, _⟩ | ⟨g', cap, cur, rfl, _, hc, _⟩
  · cases hg
  · have e' : g' = g := by simpa [Value.ownBlock] using hg
    subst e'
    exact ⟨cur, hc⟩
/-- Rows of unlike types lie in unlike blocks. -/
theorem own_ne {α β : Type} {S : Ty α} {T : Ty β} {w : World} {b1 b2 : Nat} {e1 e2 : TypeId} (he : e1 ≠ e2) {D1 D2 : Nat → Prop} {v1 v2 : Value} {n1 n2 : Nat} {xs : List α} {ys : List β} (h1 : Own S w b1 e1 D1 v1 n1 xs) (h2 : Own T w b2 e2 D2 v2 n2 ys) : v1.ownBlock = none ∨ v1.ownBlock ≠ v2.ownBlock := by
  cases hv : v1.ownBlock with
  | none => exact Or.inl rfl
  | some g =>
    right
    intro e
    obtain ⟨c1, k1⟩ := own_block_at h1 hv
    obtain ⟨c2, k2⟩ := own_block_at h2 e.symm
    rw [k1] at k2
    injection k2 with k2
    injection k2 with _ k3
    exact he k3
/-- A block of another type is no row's own. -/
theorem own_ne_block {α : Type} {T : Ty α} {w : World} {base : Nat} {e e' : TypeId} (he : e ≠ e') {D : Nat → Prop} {v : Value} {n k : Nat} {xs : List α} (h : Own T w base e D v n xs) {cs : Array Value} {fr : Nat × Nat} (hk : w.heap[k]? = some (.cells cs e' fr)) : v.ownBlock ≠ some k := by
  intro e2
  obtain ⟨c1, k1⟩ := own_block_at h e2
  rw [k1] at hk
  injection hk with hk
  injection hk with _ k3
  exact he k3
theorem ownF_kept {α : Type} {T : Ty α} {w w' : World} {base : Nat} {e : TypeId} {v : Value} {n : Nat} {xs : List α} {row : Option Nat} (h : OwnF T w base e v n xs) (hg : w.grownBy w' row) (hne : v.ownBlock = none ∨ v.ownBlock ≠ row) : OwnF T w' base e v n xs :=
  Own.kept h hg hne fun _ h => h.elim
theorem grown_set (w : World) (g i : Nat) (u : Value) : w.grownBy (w.setCell ⟨g, i, none⟩ u) (some g) :=
  ⟨rfl, rfl, rfl, by simp, fun k _ hk => Below.heap_setCell _ _ _ _ (fun e => hk (by rw [e]))⟩

theorem ndRow_ok {x : Nd} {p : Value × Value} (h1 : ∃ A n c, p.1 = .slice A n c) (h2 : ∃ A n c, p.2 = .slice A n c) : (ndRow x p).length = 6 ∧ ∀ u ∈ ndRow x p, u.oneCell' = true := by
  obtain ⟨A, n, c, e⟩ := h1
  obtain ⟨A2, n2, c2, e2⟩ := h2
  refine ⟨rfl, fun u hu => ?_⟩
  unfold ndRow at hu
  rw [e, e2] at hu
  simp at hu
  rcases hu with rfl | rfl | rfl | rfl | rfl | rfl <;> rfl

section
variable {w w' : World} {base : Nat} {A : Value} {l : List Nd} {ps : List (Value × Value)}
theorem Parts.below {x : Nd} {p : Value × Value} (h : Parts w base x p) (hb : Below w.heap.size w w') : Parts w' base x p :=
  ⟨h.attrs.below hb (Nat.le_refl _), h.kids.below hb (Nat.le_refl _), h.ok⟩
theorem Ed.next (h : Ed w base A l ps) (hb : Below w.heap.size w w') : Ed w' base A l ps :=
  ⟨h.len, h.few, h.row.below hb (Nat.le_refl _), fun i x p hx hp => (h.parts i x p hx hp).below hb, h.apart⟩
theorem Ed.part_at (h : Ed w base A l ps) {i : Nat} {x : Nd} (hx : l[i]? = some x) : ∃ p, ps[i]? = some p ∧ Parts w base x p := by
  obtain ⟨p, hp⟩ := get_some (l := ps) (k := i) (by have := h.len; have := (List.getElem?_eq_some_iff.1 hx).1; omega)
  exact ⟨p, hp, h.parts i x p hx hp⟩
theorem zip_at {i : Nat} {x : Nd} {p : Value × Value} (hx : l[i]? = some x) (hp : ps[i]? = some p) : (List.zipWith ndRow l ps)[i]? = some (ndRow x p) := by
  rw [List.getElem?_zipWith, hx, hp]
theorem zip_set {i : Nat} {y : Nd} {q : Value × Value} : (List.zipWith ndRow l ps).set i (ndRow y q) = List.zipWith ndRow (l.set i y) (ps.set i q) := by
  induction l generalizing ps i with
  | nil => simp
  | cons x l ih =>
    cases ps with
    | nil => cases i <;> simp
    | cons p ps =>
      cases i with
      | zero => rfl
      | succ i =>
        rw [List.zipWith_cons_cons, List.set_cons_succ, List.set_cons_succ, List.set_cons_succ, List.zipWith_cons_cons, ih]
/-- Where the nodes lie. -/
theorem Ed.where_ (h : Ed w base A l ps) (h0 : 0 < l.length) : ∃ g c, A = .slice (some ⟨g, 0, none⟩) l.length c ∧ base ≤ g ∧ g < w.heap.size ∧ l.length ≤ c ∧ (∀ k, w.frozen? ⟨g, k, none⟩ = false) ∧
    ∀ (i : Nat) x p, l[i]? = some x → ps[i]? = some p → ∀ j u, (ndRow x p)[j]? = some u → w.cell? ⟨g, i * 6 + j, none⟩ = some u := by
  obtain ⟨A0, c, e⟩ := Own.form h.row
  have hrow := h.row
  rw [e] at hrow
  obtain ⟨g, cells, rfl, hb, hl, hr, hc, hf⟩ := Own.block hrow h0
  refine ⟨g, c, e, hb, hl, ?_, hf, fun i x p hx hp j u hu => ?_⟩
  · obtain ⟨_, h1, _⟩ := hrow
    rcases h1.2 with ⟨hv, h2⟩ | ⟨g', cap, cur, hv, _, _, hnc, _⟩
    · omega
    · injection hv with _ _ hv
      omega
  · obtain ⟨cs, ⟨rfl, _⟩, hj⟩ := hr.at_ (zip_at hx hp)
    exact hc _ _ (hj j u hu)
/-- A node turned, its slices left alone. -/
theorem Ed.plain {g n c : Nat} (h : Ed w base (.slice (some ⟨g, 0, none⟩) n c) l ps) {i j : Nat} {x y : Nd} {p : Value × Value} {u : Value} (hx : l[i]? = some x) (hp : ps[i]? = some p) (hj : j < 6) (hr : ndRow y p = (ndRow x p).set j u) (h1 : y.attrs = x.attrs) (h2 : y.kids = x.kids) (hok : EdOk y) :
    Ed (w.setCell ⟨g, i * 6 + j, none⟩ u) base (.slice (some ⟨g, 0, none⟩) n c) (l.set i y) ps := by
  have hP := h.parts i x p hx hp
  have hn : n = l.length := by
    obtain ⟨_, h3, _⟩ := h.row
    rcases h3.2 with ⟨hv, _⟩ | ⟨g', cap, cur, hv, _⟩
    · cases hv
    · injection hv
  subst hn
  have hrow : Own tN6 (w.setCell ⟨g, i * 6 + j, none⟩ u) base 26 (fun _ => False) (.slice (some ⟨g, 0, none⟩) l.length c) l.length ((List.zipWith ndRow l ps).set i (ndRow y p)) :=
    Own.stored (T := tN6) h.row (fun _ h => h.elim) (zip_at hx hp) (j := j) hj (fun cs hcs => by
      obtain ⟨rfl, _⟩ := hcs
      refine ⟨hr.symm, ?_⟩
      exact ndRow_ok (by obtain ⟨A, c, e⟩ := Own.form hP.attrs; exact ⟨_, _, _, e⟩) (by obtain ⟨A, c, e⟩ := Own.form hP.kids; exact ⟨_, _, _, e⟩))
  have hps : ps.set i p = ps := set_same hp
  rw [zip_set, hps] at hrow
  have hg := grown_set w g (i * 6 + j) u
  refine ⟨by rw [List.length_set]; exact h.len, by rw [List.length_set]; exact h.few, by rw [List.length_set]; exact hrow, fun k z q hz hq => ?_, h.apart⟩
  have key : ∀ z, l[k]? = some z → Parts (w.setCell ⟨g, i * 6 + j, none⟩ u) base z q := fun z hz => by
    have hP := h.parts k z q hz hq
    exact ⟨ownF_kept hP.attrs hg (own_ne (by decide) hP.attrs h.row), ownF_kept hP.kids hg (own_ne (by decide) hP.kids h.row), hP.ok⟩
  by_cases e : i = k
  · subst e
    rw [List.getElem?_set_self (List.getElem?_eq_some_iff.1 hx).1] at hz
    obtain rfl := Option.some.inj hz
    have := key x hx
    exact ⟨by rw [h1]; exact this.attrs, by rw [h2]; exact this.kids, hok⟩
  · rw [List.getElem?_set_ne e] at hz
    exact key z hz
/-- Kids are set: the new row is the old one's block, grown in place, or a new block. -/
theorem Ed.kids {g n c : Nat} {w1 : World} (h : Ed w base (.slice (some ⟨g, 0, none⟩) n c) l ps) {i : Nat} {x : Nd} {p : Value × Value} {v : Value} {ks : List Int} (hx : l[i]? = some x) (hp : ps[i]? = some p) (hg : w.grownBy w1 p.2.ownBlock) (hv : OwnF (tInt .i64) w1 base 3 v ks.length ks)
    (hb : v.ownBlock = p.2.ownBlock ∨ ∃ k, v.ownBlock = some k ∧ w.heap.size ≤ k) (hk : ks.length ≤ 1000) : Ed (w1.setCell ⟨g, i * 6 + 5, none⟩ v) base (.slice (some ⟨g, 0, none⟩) n c) (l.set i { x with kids := ks }) (ps.set i (p.1, v)) := by
  have hP := h.parts i x p hx hp
  have hn : n = l.length := by
    obtain ⟨_, h3, _⟩ := h.row
    rcases h3.2 with ⟨hv, _⟩ | ⟨g', cap, cur, hv, _⟩
    · cases hv
    · injection hv
  subst hn
  have hrow1 : OwnF tN6 w1 base 26 (.slice (some ⟨g, 0, none⟩) l.length c) l.length (List.zipWith ndRow l ps) := ownF_kept h.row hg (own_ne (by decide) h.row hP.kids)
  have hrow : Own tN6 (w1.setCell ⟨g, i * 6 + 5, none⟩ v) base 26 (fun _ => False) (.slice (some ⟨g, 0, none⟩) l.length c) l.length ((List.zipWith ndRow l ps).set i (ndRow { x with kids := ks } (p.1, v))) :=
    Own.stored (T := tN6) hrow1 (fun _ h => h.elim) (zip_at hx hp) (j := 5) (by decide) (fun cs hcs => by
      obtain ⟨rfl, _⟩ := hcs
      refine ⟨rfl, ?_⟩
      exact ndRow_ok (x := { x with kids := ks }) (by obtain ⟨A, c, e⟩ := Own.form hP.attrs; exact ⟨_, _, _, e⟩) (by obtain ⟨A, c, e⟩ := Own.form hv; exact ⟨_, _, _, e⟩))
  rw [zip_set] at hrow
  have hgs := grown_set w1 g (i * 6 + 5) v
  have hpl := (List.getElem?_eq_some_iff.1 hp).1
  have hxl := (List.getElem?_eq_some_iff.1 hx).1
  have hlt : ∀ (k : Nat) q, ps[k]? = some q → ∀ b, q.2.ownBlock = some b → b < w.heap.size := fun k q hq b hb => by
    obtain ⟨z, hz⟩ := get_some (l := l) (k := k) (by have := h.len; have := (List.getElem?_eq_some_iff.1 hq).1; omega)
    exact (Own.lt (h.parts k z q hz hq).kids b hb).2
  refine ⟨by rw [List.length_set, List.length_set]; exact h.len, by rw [List.length_set]; exact h.few, by rw [List.length_set]; exact hrow, fun k z q hz hq => ?_, fun k1 k2 q1 q2 hq1 hq2 hne => ?_⟩
  · by_cases e : i = k
    · subst e
      rw [List.getElem?_set_self hxl] at hz
      rw [List.getElem?_set_self hpl] at hq
      obtain rfl := Option.some.inj hz
      obtain rfl := Option.some.inj hq
      have ha1 := ownF_kept hP.attrs hg (own_ne (by decide) hP.attrs hP.kids)
      exact ⟨ownF_kept ha1 hgs (own_ne (by decide) ha1 hrow1), ownF_kept hv hgs (own_ne (by decide) hv hrow1), ⟨hP.ok.kind, hP.ok.name, hP.ok.text, hP.ok.parent, hP.ok.attrs, hk⟩⟩
    · rw [List.getElem?_set_ne e] at hz hq
      have hQ := h.parts k z q hz hq
      have ha1 := ownF_kept hQ.attrs hg (own_ne (by decide) hQ.attrs hP.kids)
      have hk1 := ownF_kept hQ.kids hg (h.apart k i q p hq hp (fun e2 => e e2.symm)).2
      exact ⟨ownF_kept ha1 hgs (own_ne (by decide) ha1 hrow1), ownF_kept hk1 hgs (own_ne (by decide) hk1 hrow1), hQ.ok⟩
  · have side : ∀ (k : Nat) q, ps[k]? = some q → k ≠ i → (v.ownBlock = none ∨ v.ownBlock ≠ q.2.ownBlock) ∧ (q.2.ownBlock = none ∨ q.2.ownBlock ≠ v.ownBlock) := fun k q hq hki => by
      have h1 := (h.apart i k p q hp hq (Ne.symm hki)).2
      have h2 := (h.apart k i q p hq hp hki).2
      rcases hb with e | ⟨b, e, hbl⟩
      · rw [e]
        exact ⟨h1, h2⟩
      · rw [e]
        refine ⟨Or.inr fun e2 => ?_, Or.inr fun e2 => ?_⟩
        · have := hlt k q hq b e2.symm
          omega
        · have := hlt k q hq b e2
          omega
    by_cases e1 : i = k1
    · subst e1
      rw [List.getElem?_set_self hpl] at hq1
      obtain rfl := Option.some.inj hq1
      rw [List.getElem?_set_ne hne] at hq2
      exact ⟨(h.apart i k2 p q2 hp hq2 hne).1, (side k2 q2 hq2 (Ne.symm hne)).1⟩
    · rw [List.getElem?_set_ne e1] at hq1
      by_cases e2 : i = k2
      · subst e2
        rw [List.getElem?_set_self hpl] at hq2
        obtain rfl := Option.some.inj hq2
        exact ⟨(h.apart k1 i q1 p hq1 hp hne).1, (side k1 q1 hq1 hne).2⟩
      · rw [List.getElem?_set_ne e2] at hq2
        exact h.apart k1 k2 q1 q2 hq1 hq2 hne
/-- Attributes are set. -/
theorem Ed.attrs {g n c : Nat} {w1 : World} (h : Ed w base (.slice (some ⟨g, 0, none⟩) n c) l ps) {i : Nat} {x : Nd} {p : Value × Value} {v : Value} {ats : List DAttr} (hx : l[i]? = some x) (hp : ps[i]? = some p) (hg : w.grownBy w1 p.1.ownBlock) (hv : OwnF tDA w1 base 31 v ats.length ats)
    (hb : v.ownBlock = p.1.ownBlock ∨ ∃ k, v.ownBlock = some k ∧ w.heap.size ≤ k) (hk : ats.length ≤ 2000000000) : Ed (w1.setCell ⟨g, i * 6 + 2, none⟩ v) base (.slice (some ⟨g, 0, none⟩) n c) (l.set i { x with attrs := ats }) (ps.set i (v, p.2)) := by
  have hP := h.parts i x p hx hp
  have hn : n = l.length := by
    obtain ⟨_, h3, _⟩ := h.row
    rcases h3.2 with ⟨hv, _⟩ | ⟨g', cap, cur, hv, _⟩
    · cases hv
    · injection hv
  subst hn
  have hrow1 : OwnF tN6 w1 base 26 (.slice (some ⟨g, 0, none⟩) l.length c) l.length (List.zipWith ndRow l ps) := ownF_kept h.row hg (own_ne (by decide) h.row hP.attrs)
  have hrow : Own tN6 (w1.setCell ⟨g, i * 6 + 2, none⟩ v) base 26 (fun _ => False) (.slice (some ⟨g, 0, none⟩) l.length c) l.length ((List.zipWith ndRow l ps).set i (ndRow { x with attrs := ats } (v, p.2))) :=
    Own.stored (T := tN6) hrow1 (fun _ h => h.elim) (zip_at hx hp) (j := 2) (by decide) (fun cs hcs => by
      obtain ⟨rfl, _⟩ := hcs
      refine ⟨rfl, ?_⟩
      exact ndRow_ok (x := { x with attrs := ats }) (by obtain ⟨A, c, e⟩ := Own.form hv; exact ⟨_, _, _, e⟩) (by obtain ⟨A, c, e⟩ := Own.form hP.kids; exact ⟨_, _, _, e⟩))
  rw [zip_set] at hrow
  have hgs := grown_set w1 g (i * 6 + 2) v
  have hpl := (List.getElem?_eq_some_iff.1 hp).1
  have hxl := (List.getElem?_eq_some_iff.1 hx).1
  have hlt : ∀ (k : Nat) q, ps[k]? = some q → ∀ b, q.1.ownBlock = some b → b < w.heap.size := fun k q hq b hb => by
    obtain ⟨z, hz⟩ := get_some (l := l) (k := k) (by have := h.len; have := (List.getElem?_eq_some_iff.1 hq).1; omega)
    exact (Own.lt (h.parts k z q hz hq).attrs b hb).2
  refine ⟨by rw [List.length_set, List.length_set]; exact h.len, by rw [List.length_set]; exact h.few, by rw [List.length_set]; exact hrow, fun k z q hz hq => ?_, fun k1 k2 q1 q2 hq1 hq2 hne => ?_⟩
  · by_cases e : i = k
    · subst e
      rw [List.getElem?_set_self hxl] at hz
      rw [List.getElem?_set_self hpl] at hq
      obtain rfl := Option.some.inj hz
      obtain rfl := Option.some.inj hq
      have hk1 := ownF_kept hP.kids hg (own_ne (by decide) hP.kids hP.attrs)
      exact ⟨ownF_kept hv hgs (own_ne (by decide) hv hrow1), ownF_kept hk1 hgs (own_ne (by decide) hk1 hrow1), ⟨hP.ok.kind, hP.ok.name, hP.ok.text, hP.ok.parent, hk, hP.ok.kids⟩⟩
    · rw [List.getElem?_set_ne e] at hz hq
      have hQ := h.parts k z q hz hq
      have hk1 := ownF_kept hQ.kids hg (own_ne (by decide) hQ.kids hP.attrs)
      have ha1 := ownF_kept hQ.attrs hg (h.apart k i q p hq hp (fun e2 => e e2.symm)).1
      exact ⟨ownF_kept ha1 hgs (own_ne (by decide) ha1 hrow1), ownF_kept hk1 hgs (own_ne (by decide) hk1 hrow1), hQ.ok⟩
  · have side : ∀ (k : Nat) q, ps[k]? = some q → k ≠ i → (v.ownBlock = none ∨ v.ownBlock ≠ q.1.ownBlock) ∧ (q.1.ownBlock = none ∨ q.1.ownBlock ≠ v.ownBlock) := fun k q hq hki => by
      have h1 := (h.apart i k p q hp hq (Ne.symm hki)).1
      have h2 := (h.apart k i q p hq hp hki).1
      rcases hb with e | ⟨b, e, hbl⟩
      · rw [e]
        exact ⟨h1, h2⟩
      · rw [e]
        refine ⟨Or.inr fun e2 => ?_, Or.inr fun e2 => ?_⟩
        · have := hlt k q hq b e2.symm
          omega
        · have := hlt k q hq b e2
          omega
    by_cases e1 : i = k1
    · subst e1
      rw [List.getElem?_set_self hpl] at hq1
      obtain rfl := Option.some.inj hq1
      rw [List.getElem?_set_ne hne] at hq2
      exact ⟨(side k2 q2 hq2 (Ne.symm hne)).1, (h.apart i k2 p q2 hp hq2 hne).2⟩
    · rw [List.getElem?_set_ne e1] at hq1
      by_cases e2 : i = k2
      · subst e2
        rw [List.getElem?_set_self hpl] at hq2
        obtain rfl := Option.some.inj hq2
        exact ⟨(side k1 q1 hq1 hne).2, (h.apart k1 i q1 p hq1 hp hne).2⟩
      · rw [List.getElem?_set_ne e2] at hq2
        exact h.apart k1 k2 q1 q2 hq1 hq2 hne
/-- Attributes are turned in place. -/
theorem Ed.attrs0 {g n c : Nat} {w1 : World} (h : Ed w base (.slice (some ⟨g, 0, none⟩) n c) l ps) {i : Nat} {x : Nd} {p : Value × Value} {ats : List DAttr} (hx : l[i]? = some x) (hp : ps[i]? = some p) (hg : w.grownBy w1 p.1.ownBlock) (hv : OwnF tDA w1 base 31 p.1 ats.length ats) (hk : ats.length ≤ 2000000000) :
    Ed w1 base (.slice (some ⟨g, 0, none⟩) n c) (l.set i { x with attrs := ats }) ps := by
  have hP := h.parts i x p hx hp
  have hn : n = l.length := by
    obtain ⟨_, h3, _⟩ := h.row
    rcases h3.2 with ⟨hv, _⟩ | ⟨g', cap, cur, hv, _⟩
    · cases hv
    · injection hv
  subst hn
  have hrow1 : OwnF tN6 w1 base 26 (.slice (some ⟨g, 0, none⟩) l.length c) l.length (List.zipWith ndRow l ps) := ownF_kept h.row hg (own_ne (by decide) h.row hP.attrs)
  have hz : List.zipWith ndRow (l.set i { x with attrs := ats }) ps = List.zipWith ndRow l ps := by
    have hps : ps.set i p = ps := set_same hp
    conv => lhs; rw [← hps]
    rw [← zip_set]
    show (List.zipWith ndRow l ps).set i (ndRow x p) = _
    exact set_same (zip_at hx hp)
  have hxl := (List.getElem?_eq_some_iff.1 hx).1
  refine ⟨by rw [List.length_set]; exact h.len, by rw [List.length_set]; exact h.few, by rw [List.length_set, hz]; exact hrow1, fun k z q hz hq => ?_, h.apart⟩
  by_cases e : i = k
  · subst e
    rw [List.getElem?_set_self hxl] at hz
    obtain rfl := Option.some.inj hz
    rw [hp] at hq
    obtain rfl := Option.some.inj hq
    exact ⟨hv, ownF_kept hP.kids hg (own_ne (by decide) hP.kids hP.attrs), ⟨hP.ok.kind, hP.ok.name, hP.ok.text, hP.ok.parent, hk, hP.ok.kids⟩⟩
  · rw [List.getElem?_set_ne e] at hz
    have hQ := h.parts k z q hz hq
    exact ⟨ownF_kept hQ.attrs hg (h.apart k i q p hq hp (fun e2 => e e2.symm)).1, ownF_kept hQ.kids hg (own_ne (by decide) hQ.kids hP.attrs), hQ.ok⟩
/-- Read as a slice of nodes. -/
theorem ed_rows {D : Nat → Prop} : ∀ (l : List Nd) (ps : List (Value × Value)) (cells : List Value), ps.length = l.length → (∀ (i : Nat) x p, l[i]? = some x → ps[i]? = some p → Parts w base x p) → Row tN6 w D (List.zipWith ndRow l ps) cells → Row tNd w (lt w.heap.size) l cells := by
  intro l
  induction l with
  | nil =>
    intro ps cells _ _ h
    exact h
  | cons x l ih =>
    intro ps cells hl hp h
    cases ps with
    | nil => simp at hl
    | cons p ps =>
      obtain ⟨c1, c2, rfl, ⟨rfl, _⟩, h2⟩ := h
      have hP := hp 0 x p rfl rfl
      obtain ⟨Aa, ca, ea, sa⟩ := OwnF.sl hP.attrs (by decide) (by have := hP.ok.attrs; show x.attrs.length * 32 ≤ _; omega)
      obtain ⟨Ak, ck, ek, sk⟩ := OwnF.sl hP.kids (by decide) (by have := hP.ok.kids; show x.kids.length * 8 ≤ _; omega)
      refine ⟨ndRow x p, c2, rfl, ?_, ih ps c2 (by simpa using hl) (fun i y q hy hq => hp (i + 1) y q (by simpa using hy) (by simpa using hq)) h2⟩
      unfold ndRow
      rw [ea, ek]
      exact nd_rep ⟨sa, sk, hP.ok.kind, hP.ok.name, hP.ok.text, hP.ok.parent⟩
theorem Ed.sl {A0 : Option Addr} {n c : Nat} (h : Ed w base (.slice A0 n c) l ps) : Sl tNd w (lt w.heap.size) A0 n c l := by
  have hrow := h.row
  have hn : n = l.length := by
    obtain ⟨_, h3, _⟩ := hrow
    rcases h3.2 with ⟨hv, h4⟩ | ⟨g', cap, cur, hv, _⟩
    · injection hv with _ hv _
      omega
    · injection hv
  subst hn
  have hs := Own.sl hrow (by decide) (by have := h.few; show l.length * 96 ≤ _; omega)
  refine ⟨rfl, hs.hc, by have := h.few; show l.length * 96 ≤ _; omega, hs.hm, hs.nil_, fun h0 => ?_⟩
  obtain ⟨b, o, cells, e, hD, hr, hc⟩ := hs.at_ h0
  refine ⟨b, o, cells, e, ?_, ed_rows l ps cells h.len h.parts hr, hc⟩
  rcases hD with hD | hD
  · exact hD.elim
  · exact hD.2
end
end Go.Proofs.YtpbngckplbnahaaGreatDoor

/-
The library's slices at the types of documents: Clone, Delete.
-/
namespace Go.Proofs.YtpbngckplbnahaaGreatDoor
open Go.RowKit Go.Cl
attribute [local go_sem ↓] Go.wp_at_zero Go.wp_at_succ

/-- slices.Clone: a row of its own that reads as the same. -/
theorem cloneDA (A : Option Addr) (n c : Nat) (xs : List DAttr) (w : World) (B : Nat) (hl : Sl tDA w (lt B) A n c xs) (hB : B ≤ w.heap.size) :
    Calls Tryz.prog 102 #[.slice A n c] w fun e w' => ∃ A' c', e = .returned (.slice A' n c') ∧ Below w.heap.size w w' ∧ Own tDA w' w.heap.size 31 (lt B) (.slice A' n c') n xs := by
  have hn1 := hl.small
  have hbt : n * 32 ≤ 140737488355328 := hl.hb
  have heq := fun (a : Option Addr) (k q : Nat) (wx : World) => Lib.run_eql_slice_nil (P := Tryz.prog) wx 24 31 a k q 0 0 Tryz.underlying24
  cases A with
  | none =>
    obtain rfl : c = 0 := hl.nil_ rfl
    obtain rfl : n = 0 := by have := hl.hc; omega
    obtain rfl : xs = [] := List.eq_nil_of_length_eq_zero hl.hn.symm
    go_enter Tryz.func102, Tryz.ntmps102
    go_wp2_with fail
    go_ret
    exact ⟨none, 0, rfl, Below.refl _ _, Own.nil _ _ _ _⟩
  | some ad =>
    go_enter Tryz.func102, Tryz.ntmps102
    go_wp2_with (at_builtin; refine wpList_apo _ rfl (.tmp 5) (.tmp 6) 24 rfl elemDA (v := .slice (some ⟨w.heap.size, 0, none⟩) 0 0) (xs := []) (D := fun _ => False) rfl ⟨[], World.ownsRow_made w #[] 0 (Nat.le_refl _) (by simp) (by simp), Row.nil⟩ (fun _ h => h.elim) rfl (hl.al hB _) (fun b hb => ⟨by have h1 : b < B := hb; simp; omega, by have h1 : b < B := hb; simp only [Value.ownBlock, ne_eq, Option.some.injEq]; omega⟩) (by omega) (by omega) (by simp) ?_; intro v1 w1 hown1 hgr1 hbl1 _)
    obtain ⟨A1, c1, rfl⟩ := hown1.form
    have h1 := (hown1.more (D' := lt B) fun b hb => hb.elim False.elim id)
    have h2 := ((Below.refl _ w).alloc (Nat.le_refl _) _).trans hbl1
    rw [Nat.zero_add, List.nil_append] at h1
    clear hown1 hgr1 hbl1
    rw [Nat.zero_add]
    go_wp2_with fail
    go_ret
    exact ⟨A1, c1, rfl, h2, h1⟩

/-- slices.Clone: a row of its own that reads as the same. -/
theorem cloneI (A : Option Addr) (n c : Nat) (xs : List Int) (w : World) (B : Nat) (hl : Sl (tInt .i64) w (lt B) A n c xs) (hB : B ≤ w.heap.size) :
    Calls Tryz.prog 103 #[.slice A n c] w fun e w' => ∃ A' c', e = .returned (.slice A' n c') ∧ Below w.heap.size w w' ∧ Own (tInt .i64) w' w.heap.size 3 (lt B) (.slice A' n c') n xs := by
  have hn1 := hl.small
  have hbt : n * 8 ≤ 140737488355328 := hl.hb
  have heq := fun (a : Option Addr) (k q : Nat) (wx : World) => Lib.run_eql_slice_nil (P := Tryz.prog) wx 23 3 a k q 0 0 Tryz.underlying23
  cases A with
  | none =>
    obtain rfl : c = 0 := hl.nil_ rfl
    obtain rfl : n = 0 := by have := hl.hc; omega
    obtain rfl : xs = [] := List.eq_nil_of_length_eq_zero hl.hn.symm
    go_enter Tryz.func103, Tryz.ntmps103
    go_wp2_with fail
    go_ret
    exact ⟨none, 0, rfl, Below.refl _ _, Own.nil _ _ _ _⟩
  | some ad =>
    go_enter Tryz.func103, Tryz.ntmps103
    go_wp2_with (at_builtin; refine wpList_apo _ rfl (.tmp 5) (.tmp 6) 23 rfl elemI (v := .slice (some ⟨w.heap.size, 0, none⟩) 0 0) (xs := []) (D := fun _ => False) rfl ⟨[], World.ownsRow_made w #[] 0 (Nat.le_refl _) (by simp) (by simp), Row.nil⟩ (fun _ h => h.elim) rfl (hl.al hB _) (fun b hb => ⟨by have h1 : b < B := hb; simp; omega, by have h1 : b < B := hb; simp only [Value.ownBlock, ne_eq, Option.some.injEq]; omega⟩) (by omega) (by omega) (by simp) ?_; intro v1 w1 hown1 hgr1 hbl1 _)
    obtain ⟨A1, c1, rfl⟩ := hown1.form
    have h1 := (hown1.more (D' := lt B) fun b hb => hb.elim False.elim id)
    have h2 := ((Below.refl _ w).alloc (Nat.le_refl _) _).trans hbl1
    rw [Nat.zero_add, List.nil_append] at h1
    clear hown1 hgr1 hbl1
    rw [Nat.zero_add]
    go_wp2_with fail
    go_ret
    exact ⟨A1, c1, rfl, h2, h1⟩

/-- slices.Clone: a row of its own that reads as the same. -/
theorem cloneNd (A : Option Addr) (n c : Nat) (xs : List Nd) (w : World) (B : Nat) (hl : Sl tNd w (lt B) A n c xs) (hB : B ≤ w.heap.size) :
    Calls Tryz.prog 101 #[.slice A n c] w fun e w' => ∃ A' c', e = .returned (.slice A' n c') ∧ Below w.heap.size w w' ∧ Own tNd w' w.heap.size 26 (lt B) (.slice A' n c') n xs := by
  have hn1 := hl.small
  have hbt : n * 96 ≤ 140737488355328 := hl.hb
  have heq := fun (a : Option Addr) (k q : Nat) (wx : World) => Lib.run_eql_slice_nil (P := Tryz.prog) wx 27 26 a k q 0 0 Tryz.underlying27
  cases A with
  | none =>
    obtain rfl : c = 0 := hl.nil_ rfl
    obtain rfl : n = 0 := by have := hl.hc; omega
    obtain rfl : xs = [] := List.eq_nil_of_length_eq_zero hl.hn.symm
    go_enter Tryz.func101, Tryz.ntmps101
    go_wp2_with fail
    go_ret
    exact ⟨none, 0, rfl, Below.refl _ _, Own.nil _ _ _ _⟩
  | some ad =>
    go_enter Tryz.func101, Tryz.ntmps101
    go_wp2_with (at_builtin; refine wpList_apo _ rfl (.tmp 5) (.tmp 6) 27 rfl elemNd (v := .slice (some ⟨w.heap.size, 0, none⟩) 0 0) (xs := []) (D := fun _ => False) rfl ⟨[], World.ownsRow_made w #[] 0 (Nat.le_refl _) (by simp) (by simp), Row.nil⟩ (fun _ h => h.elim) rfl (hl.al hB _) (fun b hb => ⟨by have h1 : b < B := hb; simp; omega, by have h1 : b < B := hb; simp only [Value.ownBlock, ne_eq, Option.some.injEq]; omega⟩) (by omega) (by omega) (by simp) ?_; intro v1 w1 hown1 hgr1 hbl1 _)
    obtain ⟨A1, c1, rfl⟩ := hown1.form
    have h1 := (hown1.more (D' := lt B) fun b hb => hb.elim False.elim id)
    have h2 := ((Below.refl _ w).alloc (Nat.le_refl _) _).trans hbl1
    rw [Nat.zero_add, List.nil_append] at h1
    clear hown1 hgr1 hbl1
    rw [Nat.zero_add]
    go_wp2_with fail
    go_ret
    exact ⟨A1, c1, rfl, h2, h1⟩

set_option maxRecDepth 100000 in
/-- slices.Delete of one element, in a row of the call's own. -/
theorem deleteDA (g n c i : Nat) (xs : List DAttr) (w : World) (base : Nat) (D : Nat → Prop) (hown : Own tDA w base 31 D (.slice (some ⟨g, 0, none⟩) n c) n xs) (hD : ∀ b, D b → b ≠ g) (hi : i < n) (hn : n ≤ 140737488355328) :
    Calls Tryz.prog 180 #[.slice (some ⟨g, 0, none⟩) n c, .int .i64 (i : Int), .int .i64 ((i : Int) + 1)] w fun e w' => e = .returned (.slice (some ⟨g, 0, none⟩) (n - 1) c) ∧ Own tDA w' base 31 D (.slice (some ⟨g, 0, none⟩) (n - 1) c) (n - 1) (xs.eraseIdx i) ∧ w.grownBy w' (some g) := by
  obtain ⟨cells, h1, h2⟩ := hown
  have hlen := h1.1
  have hT : (tDA).size = 2 := rfl
  rw [hT] at hlen
  rcases h1.2 with ⟨hv, _⟩ | ⟨g', cap, cur, hv, hb, hh, hnc, hcm, hsz, htk⟩
  · cases hv
  simp only [Value.slice.injEq, Option.some.injEq, Addr.mk.injEq, and_true, true_and] at hv
  obtain ⟨rfl, rfl⟩ := hv
  rw [hT] at hsz htk
  have hcl : cur.toList.length = c * 2 := by simpa using hsz
  have HNEW : Hid ((cells.drop ((i + 1) * 2)).length = (n - (i + 1)) * 2) := by show _ = _; rw [List.length_drop, hlen]; omega
  obtain ⟨A', HA'⟩ : ∃ A', Hid ((if c = i + 1 then some (⟨g, 0, none⟩ : Addr) else some ⟨g, (i + 1) * 2, none⟩) = some A') := by
    by_cases hci : c = i + 1
    · exact ⟨_, if_pos hci⟩
    · exact ⟨_, if_neg hci⟩
  have HC : Hid (∀ j u, (cells.drop ((i + 1) * 2))[j]? = some u → w.drew.cell? (A'.add j) = some u) := by
    intro j u hu
    have hA := HA'.out
    have hj := (List.getElem?_eq_some_iff.1 hu).1
    rw [HNEW.out] at hj
    rw [if_neg (by omega)] at hA
    simp only [Option.some.injEq] at hA
    subst hA
    rw [List.getElem?_drop, ← htk, List.getElem?_take] at hu
    split at hu
    · show w.cell? _ = _
      have : (⟨g, (i + 1) * 2, none⟩ : Addr).add j = ⟨g, (i + 1) * 2 + j, none⟩ := by unfold Addr.add; split <;> simp_all
      rw [this]
      exact cell_blk hh (by simpa using hu)
    · cases hu
  have HONE : Hid (∀ u ∈ cells.drop ((i + 1) * 2), u.oneCell' = true) := fun u hu => h2.one_ u (List.mem_of_mem_drop hu)
  have HSP : Hid (∀ j, j < (cells.drop ((i + 1) * 2)).length → (w.drew.cell? ⟨g, 0 + i * 2 + j, none⟩).isSome = true ∧ w.drew.frozen? ⟨g, 0 + i * 2 + j, none⟩ = false) := by
    intro j hj
    rw [HNEW.out] at hj
    refine ⟨?_, free_blk (w := w) hh⟩
    have hlt : 0 + i * 2 + j < cur.size := by omega
    rw [show w.drew.cell? ⟨g, 0 + i * 2 + j, none⟩ = w.cell? ⟨g, 0 + i * 2 + j, none⟩ from rfl, cell_blk hh (Array.getElem?_eq_getElem hlt)]
    rfl
  obtain ⟨W1, hW1⟩ : ∃ W1, W1 = w.drew.setCells g (0 + i * 2) (cells.drop ((i + 1) * 2)) := ⟨_, rfl⟩
  have HW1 := Lib.hid hW1
  obtain ⟨cur1, hh1, hs1, _⟩ := heap_setCells (cells.drop ((i + 1) * 2)) (0 + i * 2) w.drew cur hh (by rw [HNEW.out]; omega)
  rw [← hW1] at hh1
  have hcl2 : ∀ ty k, (Builtin.clear_ #[24] ty #[.slice (some ⟨g, (n - 1) * 2, none⟩) (n - (n - 1)) k]).run Tryz.prog W1 = .ok (.tuple #[]) (W1.setCells g ((n - 1) * 2) [.string ⟨#[]⟩, .string ⟨#[]⟩]) := fun ty k => by
    rw [show n - (n - 1) = 1 from by omega]
    exact run_clear_one W1 _ _ ty _ [.string ⟨#[]⟩, .string ⟨#[]⟩] Tryz.underlying24 Tryz.zeroValue31 (by kernel_rfl) (by simp [Value.oneCell']) g _ k (fun j hj => by
      have hlt : (n - 1) * 2 + j < cur1.size := by have hj2 : j < 2 := hj; omega
      rw [cell_blk hh1 (Array.getElem?_eq_getElem hlt)]; rfl) (fun j _ => free_blk hh1)
  have hic : i + 1 ≤ c := by omega
  have hic2 : i ≤ c := by omega
  have hn1c : ¬ c = n - 1 := by omega
  have hne : ((i : Int) == (i : Int) + 1) = false := beq_eq_false_iff_ne.2 (by omega)
  have hb1 : (0 : Int) ≤ (i : Int) + 1 := by omega
  have hb2 : (i : Int) + 1 ≤ (n : Int) := by omega
  have HOWN := Lib.hid (show Own tDA (W1.setCells g ((n - 1) * 2) [.string ⟨#[]⟩, .string ⟨#[]⟩]) base 31 D (.slice (some ⟨g, 0, none⟩) (n - 1) c) (n - 1) (xs.eraseIdx i) from by
    subst hW1
    refine ⟨_, ownsRow_cut (zs := [.string ⟨#[]⟩, .string ⟨#[]⟩]) h1 hi rfl, ?_⟩
    rw [← List.take_drop_erase]
    refine ((h2.take i).append (h2.drop (i + 1))).keep fun p hp => ?_
    have hpg : p.block ≠ g := hD _ hp
    exact World.cell?_of_block (w := w) ((heap_setCells_other hpg _ _ _).trans (heap_setCells_other hpg _ _ _)))
  have HG := Lib.hid (show w.grownBy (W1.setCells g ((n - 1) * 2) [.string ⟨#[]⟩, .string ⟨#[]⟩]) (some g) from by
    subst hW1
    exact grownBy.trans' (b := w.drew) ⟨rfl, rfl, rfl, Nat.le_refl _, fun _ _ _ => rfl⟩ (grownBy.trans' (grown_setCells g _ _ _) (grown_setCells g _ _ _)))
  obtain ⟨i0, z0, hi0, hz0, hs0, hy0, hzz0⟩ := (elemDA).info
  have HI0 := Lib.hid hi0
  have HS0 := Lib.hid hs0
  clear hi0 hs0 hy0 hz0 hzz0 h1 h2 hh hh1 hW1 hsz htk hcl hlen hT hs1 hD
  go_enter Tryz.func180, Tryz.ntmps180
  go_wp2_with fail
  go_region_law (refine step_append_room rfl (.tmp 22) (.tmp 25) 24 rfl 31 i0 2 Tryz.underlying24 HI0.out HS0.out g 0 i c (by simp [Act.eval, Act.put]) A' (n - (i + 1)) (c - (i + 1)) (cells.drop ((i + 1) * 2)) (by simp [Act.eval, Act.put]; exact HA'.out) HNEW.out HC.out HONE.out (by omega) HSP.out ?_; rw [← HW1.out, show i + (n - (i + 1)) = n - 1 from by omega])
  go_wp2_with fail
  all_goals
    go_ret
    first | exact ⟨rfl, HOWN.out, HG.out⟩ | (obtain rfl : c = i + 1 := (by assumption); exact ⟨rfl, HOWN.out, HG.out⟩)

/-- append whose run is known, at a step of a region that draws its order. -/
theorem step_append_runI {P : Program} {ops : Array Oper} {o : Oper} {a : Act} {w : World} {K : Act → World → Prop} {Q : Exit → Act → World → Prop} {E : Prop} (hgd : o.guard = none) (s x : Operand) (t : TypeId)
    (ho : o.op = .call { callee := .builtin .append, args := #[s, x], argTypes := #[t, t] }) (v u : Value) (hv : a.eval s = v) (hx : a.eval x = u) {v' : Value} {w' : World} (hr : (Builtin.append_ #[t, t] o.type #[v, u]).run P w = .ok v' w') (h : K (a.put o.dst v') w') :
    if Region.wanted o (yielded ops a.tmps) = true then Oper.wp P o a w K Q else E := by
  rw [if_pos (by simp [Region.wanted, hgd])]
  unfold Oper.wp execOp
  simp only [ho, resolve, invoke, builtin, Sem.run_bind, Sem.run_pure, Result.andThen_ok, List.map_toArray, List.map_cons, List.map_nil, hv, hx, hr]
  exact h
end Go.Proofs.YtpbngckplbnahaaGreatDoor

/-
Rows of ints that the call owns: one is put in, one is taken out.
-/
namespace Go.Proofs.YtpbngckplbnahaaGreatDoor
open Go.RowKit Go.Cl
attribute [local go_sem ↓] Go.wp_at_zero Go.wp_at_succ

theorem ints_row {w : World} {D : Nat → Prop} : ∀ ys : List Int, (∀ x ∈ ys, (Lit.int .i64 x).wf = true) → Row (tInt .i64) w D ys (ys.map (Value.int .i64)) := by
  intro ys
  induction ys with
  | nil => intro _; exact Row.nil
  | cons y ys ih => intro hy; exact ⟨[.int .i64 y], _, rfl, ⟨rfl, hy y (by simp)⟩, ih (fun x hx => hy x (by simp [hx]))⟩
theorem row_ints {w : World} {D : Nat → Prop} : ∀ (ys : List Int) (cells : List Value), Row (tInt .i64) w D ys cells → cells = ys.map (Value.int .i64) ∧ ∀ x ∈ ys, (Lit.int .i64 x).wf = true := by
  intro ys
  induction ys with
  | nil => intro cells h; exact ⟨h, fun x hx => by cases hx⟩
  | cons y ys ih =>
    intro cells h
    obtain ⟨c1, c2, rfl, ⟨rfl, hw⟩, h2⟩ := h
    obtain ⟨e, h3⟩ := ih c2 h2
    refine ⟨by rw [e]; rfl, fun x hx => ?_⟩
    rcases List.mem_cons.1 hx with rfl | hx
    · exact hw
    · exact h3 x hx
/-- What an owned row of ints is. -/
theorem own_ints {w : World} {base g n c : Nat} {xs : List Int} (h : OwnF (tInt .i64) w base 3 (.slice (some ⟨g, 0, none⟩) n c) n xs) :
    ∃ cur, w.heap[g]? = some (.cells cur 3 (0, 0)) ∧ base ≤ g ∧ n = xs.length ∧ n ≤ c ∧ c ≤ maxLen ∧ cur.size = c ∧ cur.toList.take n = xs.map (Value.int .i64) ∧ ∀ x ∈ xs, (Lit.int .i64 x).wf = true := by
  have hln := Own.len h (by decide)
  obtain ⟨cells, h1, h2⟩ := h
  obtain ⟨e, hwf⟩ := row_ints _ _ h2
  rcases h1.2 with ⟨hv, h0⟩ | ⟨g', cap, cur, hv, hb, hh, hnc, hcm, hsz, htk⟩
  · cases hv
  · simp only [Value.slice.injEq, Option.some.injEq, Addr.mk.injEq, and_true, true_and] at hv
    obtain ⟨rfl, rfl⟩ := hv
    have hs1 : (tInt .i64).size = 1 := rfl
    rw [hs1, Nat.mul_one] at hsz htk
    exact ⟨cur, hh, hb, hln, hnc, hcm, hsz, by rw [htk, e], hwf⟩
theorem own_of {W : World} {base g m c : Nat} {ys : List Int} {cur : Array Value} (hh : W.heap[g]? = some (.cells cur 3 (0, 0))) (hb : base ≤ g) (hm : m = ys.length) (hc : m ≤ c) (hcm : c ≤ maxLen) (hsz : cur.size = c) (htk : cur.toList.take m = ys.map (Value.int .i64)) (hwf : ∀ x ∈ ys, (Lit.int .i64 x).wf = true) :
    OwnF (tInt .i64) W base 3 (.slice (some ⟨g, 0, none⟩) m c) m ys := by
  have hs1 : (tInt .i64).size = 1 := rfl
  refine ⟨ys.map (Value.int .i64), ⟨by rw [List.length_map, hs1, Nat.mul_one, hm], .inr ⟨g, c, cur, rfl, hb, hh, hc, hcm, by rw [hs1, Nat.mul_one]; exact hsz, by rw [hs1, Nat.mul_one]; exact htk⟩⟩, ints_row ys hwf⟩
theorem ints_at {w : World} {g n : Nat} {cur : Array Value} {xs : List Int} (hh : w.heap[g]? = some (.cells cur 3 (0, 0))) (htk : cur.toList.take n = xs.map (Value.int .i64)) : ∀ (j : Nat) v, (xs.map (Value.int .i64))[j]? = some v → w.cell? ⟨g, 0 + j, none⟩ = some v := fun j v hv => by
  rw [Nat.zero_add]
  rw [← htk, List.getElem?_take] at hv
  split at hv
  · exact cell_blk hh (by simpa using hv)
  · cases hv

/-- slices.Delete of one int. -/
theorem deleteI (g n c i : Nat) (xs : List Int) (w : World) (base : Nat) (hown : OwnF (tInt .i64) w base 3 (.slice (some ⟨g, 0, none⟩) n c) n xs) (hi : i < n) :
    Calls Tryz.prog 185 #[.slice (some ⟨g, 0, none⟩) n c, .int .i64 (i : Int), .int .i64 ((i : Int) + 1)] w fun e w' => e = .returned (.slice (some ⟨g, 0, none⟩) (n - 1) c) ∧ OwnF (tInt .i64) w' base 3 (.slice (some ⟨g, 0, none⟩) (n - 1) c) (n - 1) (xs.eraseIdx i) ∧ w.grownBy w' (some g) := by
  obtain ⟨cur, hh, hb, hn, hnc, hcm, hsz, htk, hwf⟩ := own_ints hown
  have hm := hcm
  unfold maxLen at hm
  have hcell := ints_at hh htk
  have H := Tryz.slices_Delete_int_cells g 0 n c i (i + 1) xs w (by omega) hnc (by omega) (by omega) (by omega) (fun j hj => hcell j _ (by simp [List.getD, hj])) (fun j _ => free_blk hh)
  rw [show ((i + 1 : Nat) : Int) = (i : Int) + 1 from by omega] at H
  refine H.mono ?_
  rintro e w' ⟨rfl, q, rfl⟩
  rw [show i + 1 - i = 1 from by omega]
  have hlen : (((xs.take n).take i ++ (xs.take n).drop (i + 1) ++ List.replicate 1 0).map (Value.int .i64)).length = n := by
    simp
    omega
  obtain ⟨cur', e1, e2, e3⟩ := heap_setCells (((xs.take n).take i ++ (xs.take n).drop (i + 1) ++ List.replicate 1 0).map (Value.int .i64)) 0 (w.drewN q) cur hh (by rw [hlen]; omega)
  have hxn : xs.take n = xs := List.take_of_length_le (by omega)
  refine ⟨rfl, own_of e1 hb (by rw [List.length_eraseIdx]; split <;> omega) (by omega) hcm (by rw [e2, hsz]) ?_ (fun x hx => hwf x (List.mem_of_mem_eraseIdx hx)), ?_⟩
  · rw [e3, List.take_zero, List.nil_append, List.take_append_of_le_length (by rw [hlen]; omega), hxn, List.take_drop_erase, List.map_append, List.take_append_of_le_length (by rw [List.length_map, List.length_eraseIdx]; split <;> omega), List.take_of_length_le (by rw [List.length_map, List.length_eraseIdx]; split <;> omega)]
  · exact grownBy.trans' (b := w.drewN q) ⟨rfl, rfl, rfl, Nat.le_refl _, fun _ _ _ => rfl⟩ (grown_setCells g _ _ _)

theorem grown_dN (w : World) (q : Nat) (row : Option Nat) : w.grownBy (w.drewN q) row := ⟨rfl, rfl, rfl, Nat.le_refl _, fun _ _ _ => rfl⟩
theorem grown_drew (w : World) (row : Option Nat) : w.grownBy w.drew row := ⟨rfl, rfl, rfl, Nat.le_refl _, fun _ _ _ => rfl⟩
theorem grown_al (w : World) (o : Obj) (row : Option Nat) : w.grownBy (w.alloc o) row := ⟨rfl, rfl, rfl, by simp, fun k hk _ => Lib.alloc_old w o k hk⟩
/-- Stores into a block that is new leave what was there. -/
theorem grown_new {a b : World} {g : Nat} (hg : a.heap.size ≤ g) (row : Option Nat) (h : a.grownBy b row) (vs : List Value) (o : Nat) : a.grownBy (b.setCells g o vs) row := by
  have k := grown_setCells g vs o b
  exact ⟨k.os.trans h.os, k.tape.trans h.tape, k.output.trans h.output, Nat.le_trans h.size k.size, fun i hi hn => (k.block i (Nat.lt_of_lt_of_le hi h.size) (fun e => by simp at e; omega)).trans (h.block i hi hn)⟩
theorem grown_row {a b : World} {g : Nat} (h : a.grownBy b (some g)) (vs : List Value) (o : Nat) : a.grownBy (b.setCells g o vs) (some g) := grownBy.trans' h (grown_setCells g vs o b)

/-- slices.Insert of one int: the row's own block, or a new one. -/
theorem insertI (A : Option Addr) (n c i : Nat) (xs : List Int) (y : Int) (vb : Nat) (w : World) (base : Nat) (hown : OwnF (tInt .i64) w base 3 (.slice A n c) n xs) (hi : i ≤ n) (hn : n ≤ 100000) (hbase : base ≤ w.heap.size) (hy : (Lit.int .i64 y).wf = true)
    (hv : w.heap[vb]? = some (.cells #[.int .i64 y] 3 (0, 0))) (hne : (Value.slice A n c).ownBlock ≠ some vb) :
    Calls Tryz.prog 184 #[.slice A n c, .int .i64 (i : Int), .slice (some ⟨vb, 0, none⟩) 1 1] w fun e w' => ∃ v', e = .returned v' ∧ OwnF (tInt .i64) w' base 3 v' (n + 1) (xs.take i ++ y :: xs.drop i) ∧ w.grownBy w' (Value.slice A n c).ownBlock ∧ (v'.ownBlock = (Value.slice A n c).ownBlock ∨ v'.ownBlock = some w.heap.size) := by
  have hvs : ∀ (j : Nat) v, ([.int .i64 y] : List Value)[j]? = some v → w.cell? ⟨vb, 0 + j, none⟩ = some v := fun j v hj => by
    rw [Nat.zero_add]
    exact cell_blk hv (by simpa using hj)
  have ht3 : Tryz.laysInsert_ren.t 3 = 3 := rfl
  have hzc : ∀ k, (Builtin.zeroCells (Value.int .i64 0).cells k).size = k := fun k => by simp [Builtin.zeroCells, Value.cells]
  have h1v : ∀ v ∈ ([.int .i64 y] : List Value), v.oneCell' = true := fun v hv => by
    obtain rfl : v = .int .i64 y := by simpa using hv
    rfl
  have hwf' : ∀ {zs : List Int}, (∀ x ∈ zs, (Lit.int .i64 x).wf = true) → ∀ x ∈ zs.take i ++ y :: zs.drop i, (Lit.int .i64 x).wf = true := fun h x hx => by
    rw [List.perm_middle.mem_iff, List.take_append_drop] at hx
    rcases List.mem_cons.1 hx with rfl | hx
    · exact hy
    · exact h x hx
  rcases A with _ | ⟨g, go, gs⟩
  · have hx0 : n = 0 ∧ c = 0 ∧ xs = [] := by
      have hln := Own.len hown (by decide)
      obtain ⟨_, h1, _⟩ := hown
      rcases h1.2 with ⟨hv', h0⟩ | ⟨g', cap, cur, hv', _⟩
      · injection hv' with _ e1 e2
        exact ⟨e1, e2, List.eq_nil_of_length_eq_zero (by omega)⟩
      · injection hv' with e1
        cases e1
    obtain ⟨rfl, rfl, rfl⟩ := hx0
    obtain rfl : i = 0 := by omega
    refine (Any2.slices_Insert_int_end_grow Tryz.laysInsert none 0 0 vb 0 1 1 [] [.int .i64 y] w (by omega) (by omega) (by omega) (by omega) rfl rfl (fun _ => rfl) (fun a e => by cases e) hvs h1v).mono ?_
    rintro e w' ⟨rfl, rfl⟩
    refine ⟨_, rfl, ?_, grownBy.trans' (grown_drew w _) (grown_al _ _ _), Or.inr rfl⟩
    rw [ht3]
    have hge := grownCap_ge w (0 + 1) 0 3
    have hle := grownCap_le_maxLen w (0 + 1) 0 3 (by unfold maxLen; omega)
    refine own_of (heap_alloc_new _ _) hbase (by simp) hge hle ?_ ?_ (hwf' (by simp))
    · rw [Array.size_append, hzc]
      exact Nat.add_sub_cancel' hge
    · simp
  · obtain ⟨rfl, rfl⟩ : go = 0 ∧ gs = none := by
      obtain ⟨_, h1, _⟩ := hown
      rcases h1.2 with ⟨hv', _⟩ | ⟨g', cap, cur, hv', _⟩
      · cases hv'
      · injection hv' with e1
        simp at e1
        exact ⟨e1.2.1, e1.2.2⟩
    obtain ⟨cur, hh, hb, hln, hnc, hcm, hsz, htk, hwf⟩ := own_ints hown
    have hm := hcm
    unfold maxLen at hm
    have hcell := ints_at hh htk
    have hgl := (Array.getElem?_eq_some_iff.1 hh).1
    have hlm : (xs.map (Value.int .i64)).length = n := by rw [List.length_map]; omega
    have h1c : ∀ v ∈ xs.map (Value.int .i64), v.oneCell' = true := fun v hv => by
      obtain ⟨z, _, rfl⟩ := List.mem_map.1 hv
      rfl
    have hlen : n + 1 = (xs.take i ++ y :: xs.drop i).length := by
      rw [List.perm_middle.length_eq, List.take_append_drop, List.length_cons]
      omega
    have hclen : cur.toList.length = c := by simpa using hsz
    by_cases hin : i < n
    · by_cases hroom : n + 1 ≤ c
      · refine (Any2.slices_Insert_int_shift Tryz.laysInsert g 0 n c i vb 0 1 1 (xs.map (Value.int .i64)) [.int .i64 y] w hin (by omega) hroom (by omega) (fun e => hne (by rw [e]; rfl)) hlm rfl hcell
          (fun j hj => by rw [Nat.zero_add, cell_blk hh (Array.getElem?_eq_getElem (by omega))]; rfl) (fun j _ => free_blk hh) hvs h1c h1v 3 3 1 c (by simp [World.shape?, hv]) (by simp [World.shape?, hh, hsz]) (by omega) (free_blk hv) (free_blk hv)).mono ?_
        rintro e w' ⟨rfl, rfl⟩
        have hdl : ((xs.map (Value.int .i64)).drop i).length = n - i := by rw [List.length_drop, hlm]
        obtain ⟨cur1, a1, a2, a3⟩ := heap_setCells ((xs.map (Value.int .i64)).drop i) (0 + (i + 1)) w.drew cur hh (by rw [hdl]; omega)
        obtain ⟨cur2, b1, b2, b3⟩ := heap_setCells [.int .i64 y] (0 + i) _ cur1 a1 (by simp; omega)
        refine ⟨_, rfl, own_of b1 hb hlen hroom hcm (by omega) ?_ (hwf' hwf), grown_row (grown_row (grown_drew w _) _ _) _ _, Or.inl rfl⟩
        rw [b3, a3, Nat.zero_add, Nat.zero_add]
        have l1 : (cur.toList.take (i + 1)).length = i + 1 := by rw [List.length_take]; omega
        have t1 : (cur.toList.take (i + 1) ++ (xs.map (Value.int .i64)).drop i ++ cur.toList.drop (i + 1 + ((xs.map (Value.int .i64)).drop i).length)).take i = (xs.map (Value.int .i64)).take i := by
          rw [List.append_assoc, List.take_append_of_le_length (by omega), List.take_take, ← htk, List.take_take, Nat.min_eq_left (by omega), Nat.min_eq_left (by omega)]
        have t2 : (cur.toList.take (i + 1) ++ (xs.map (Value.int .i64)).drop i ++ cur.toList.drop (i + 1 + ((xs.map (Value.int .i64)).drop i).length)).drop (i + ([Value.int .i64 y] : List Value).length) = (xs.map (Value.int .i64)).drop i ++ cur.toList.drop (i + 1 + ((xs.map (Value.int .i64)).drop i).length) := by
          rw [List.append_assoc]
          exact List.drop_left' l1
        rw [t1, t2, List.append_assoc, List.map_append, List.map_cons, List.map_take, List.map_drop]
        have l2 : ((xs.map (Value.int .i64)).take i).length = i := by rw [List.length_take]; omega
        rw [List.take_append, l2, List.take_of_length_le (by omega)]
        congr 1
        rw [show n + 1 - i = (n - i) + 1 from by omega]
        show Value.int .i64 y :: List.take (n - i) ((xs.map (Value.int .i64)).drop i ++ _) = _
        rw [List.take_append_of_le_length (by omega), List.take_of_length_le (by omega)]
      · refine (Any2.slices_Insert_int_grow Tryz.laysInsert g 0 n c i vb 0 1 1 (xs.map (Value.int .i64)) [.int .i64 y] w hin (by omega) hnc (by omega) (by omega) hlm rfl hcell hvs h1c h1v).mono ?_
        rintro e w' ⟨rfl, rfl⟩
        have hge := grownCap_ge w (n + 1) c 3
        have hle := grownCap_le_maxLen w (n + 1) c 3 (by unfold maxLen; omega)
        have hdl : ((xs.map (Value.int .i64)).drop i).length = n - i := by rw [List.length_drop, hlm]
        have hci : (xs.map (Value.int .i64)).take i = (xs.take i).map (Value.int .i64) := by rw [List.map_take]
        rw [ht3]
        generalize hG : grownCap w (n + 1) c 3 = G at *
        generalize hr : (((xs.map (Value.int .i64)).take i).toArray ++ Builtin.zeroCells (Value.int .i64 0).cells (n + 1 - i) ++ Builtin.zeroCells (Value.int .i64 0).cells (G - (n + 1))) = cur0
        have hs0 : cur0.size = G := by
          rw [← hr, Array.size_append, Array.size_append, hzc, hzc]
          simp
          omega
        have t0 : cur0.toList.take i = (xs.map (Value.int .i64)).take i := by
          rw [← hr, Array.toList_append, Array.toList_append, List.append_assoc, List.take_append_of_le_length (by simp; omega)]
          show List.take i (List.take i _) = _
          rw [List.take_take, Nat.min_self]
        have hh0 : ((w.alloc (.cells cur0 3)).drew).heap[w.heap.size]? = some (.cells cur0 3 (0, 0)) := heap_alloc_new w _
        obtain ⟨cur1, a1, a2, a3⟩ := heap_setCells [.int .i64 y] i _ cur0 hh0 (by simp; omega)
        obtain ⟨cur2, b1, b2, b3⟩ := heap_setCells ((xs.map (Value.int .i64)).drop i) (i + 1) (((w.alloc (.cells cur0 3)).drew.setCells w.heap.size i [.int .i64 y]).drew) cur1 a1 (by rw [hdl]; omega)
        refine ⟨_, rfl, own_of b1 hbase hlen hge hle (by omega) ?_ (hwf' hwf), ?_, Or.inr rfl⟩
        · rw [b3, a3]
          have l2 : (cur0.toList.take i).length = i := by rw [List.length_take]; simp; omega
          have t1 : (cur0.toList.take i ++ [Value.int .i64 y] ++ cur0.toList.drop (i + ([Value.int .i64 y] : List Value).length)).take (i + 1) = (xs.map (Value.int .i64)).take i ++ [.int .i64 y] := by
            rw [List.take_append_of_le_length (by rw [List.length_append, l2]; simp), List.take_of_length_le (by rw [List.length_append, l2]; simp), t0]
          rw [t1, List.append_assoc, List.append_assoc, List.map_append, List.map_cons, List.map_take, List.map_drop]
          have l3 : ((xs.map (Value.int .i64)).take i).length = i := by rw [List.length_take]; omega
          rw [List.take_append, l3, List.take_of_length_le (by omega)]
          congr 1
          rw [show n + 1 - i = (n - i) + 1 from by omega]
          show Value.int .i64 y :: List.take (n - i) ((xs.map (Value.int .i64)).drop i ++ _) = _
          rw [List.take_append_of_le_length (by omega), List.take_of_length_le (by omega)]
        · exact grown_new (Nat.le_refl _) _ (grownBy.trans' (grown_new (Nat.le_refl _) _ (grownBy.trans' (grown_al w _ _) (grown_drew _ _)) _ _) (grown_drew _ _)) _ _
    · obtain rfl : i = n := by omega
      have hins : (xs.take i ++ y :: xs.drop i).map (Value.int .i64) = xs.map (Value.int .i64) ++ [.int .i64 y] := by
        rw [List.take_of_length_le (by omega), List.drop_of_length_le (by omega), List.map_append]
        rfl
      by_cases hroom : i + 1 ≤ c
      · refine (Any2.slices_Insert_int_end_room Tryz.laysInsert g 0 i c vb 0 1 1 [.int .i64 y] w (by omega) hroom (by omega) rfl
          (fun j hj => by rw [Nat.zero_add, cell_blk hh (Array.getElem?_eq_getElem (by omega))]; rfl) (fun j _ => free_blk hh) hvs h1v).mono ?_
        rintro e w' ⟨rfl, rfl⟩
        obtain ⟨cur1, a1, a2, a3⟩ := heap_setCells [.int .i64 y] (0 + i) w cur hh (by simp; omega)
        refine ⟨_, rfl, own_of a1 hb hlen hroom hcm (by omega) ?_ (hwf' hwf), grown_setCells g _ _ w, Or.inl rfl⟩
        rw [a3, hins, Nat.zero_add, List.take_append_of_le_length (by rw [List.length_append, List.length_take]; simp; omega), List.take_of_length_le (by rw [List.length_append, List.length_take]; simp; omega), htk]
      · refine (Any2.slices_Insert_int_end_grow Tryz.laysInsert (some ⟨g, 0, none⟩) i c vb 0 1 1 (xs.map (Value.int .i64)) [.int .i64 y] w (by omega) hnc (by omega) (by omega) hlm rfl (fun e => by cases e) (fun a e j v hj => by
          obtain rfl := Option.some.inj e
          have := hcell j v hj
          rw [Nat.zero_add] at this
          rw [show (⟨g, 0, none⟩ : Addr).add j = ⟨g, j, none⟩ from by unfold Addr.add; split <;> simp_all]
          exact this) hvs h1v).mono ?_
        rintro e w' ⟨rfl, rfl⟩
        rw [ht3]
        have hge := grownCap_ge w (i + 1) c 3
        have hle := grownCap_le_maxLen w (i + 1) c 3 (by unfold maxLen; omega)
        refine ⟨_, rfl, own_of (heap_alloc_new _ _) hbase hlen hge hle ?_ ?_ (hwf' hwf), grownBy.trans' (grown_drew w _) (grown_al _ _ _), Or.inr rfl⟩
        · rw [Array.size_append, hzc]
          have l5 : (xs.map (Value.int .i64) ++ [Value.int .i64 y]).toArray.size = i + 1 := by simp; omega
          rw [l5]
          exact Nat.add_sub_cancel' hge
        · rw [hins, Array.toList_append]
          show ((xs.map (Value.int .i64) ++ [Value.int .i64 y]) ++ _).take (i + 1) = _
          rw [List.take_append_of_le_length (by rw [List.length_append, hlm]; simp), List.take_of_length_le (by rw [List.length_append, hlm]; simp)]
end Go.Proofs.YtpbngckplbnahaaGreatDoor
