/-
A document of the call's own, each of its rows in a block of its own: what keeps it, what a store makes of it.
-/
import Derived.Test.YtegcedboeemedaaGreatDoorK1
import Derived.Test.YtegcedboeemedaaGreatDoorProg
import Derived.Lib.Builder
import Derived.Lib.AppendStr
import Derived.Lib.UnsafeStr
import Derived.Laws.Externs
import Derived.Shelf.Strings.BuilderRune
import Derived.WalkSpells
import Derived.Outline
import Derived.Deep.QuietTactic
import Derived.BigQuiet
import Derived.Great.BuildSlice
import Derived.Lib.Fold
import Derived.Lib.IndexMore
import Derived.OrdersHeld
namespace Go.Proofs.YtegcedboeemedaaGreatDoor
open Go.RowKit Go.Cl

/-- Cells as they stand. -/
def tRaw (k b : Nat) (hb : 1 ≤ b := by decide) : Ty (List Value) where
  size := k
  bytes := b
  pos := hb
  rep _ _ x cs := cs = x ∧ x.length = k ∧ ∀ u ∈ x, u.oneCell' = true
  len := by rintro w D x cs ⟨rfl, h, _⟩; exact h
  one := by rintro w D x cs ⟨rfl, _, h⟩; exact h
  keep := by rintro w w' D x cs h _; exact h
  more := by rintro w D D' x cs h _; exact h
abbrev tN6 : Ty (List Value) := tRaw 6 96
/-- The cells of a node, over its two slices. -/
def ndRow (x : Nd) (p : Value × Value) : List Value := [.int .i64 x.kind, .string x.name, p.1, .string x.text, .int .i64 x.parent, p.2]
/-- What is known of a node. -/
structure EdOk (x : Nd) : Prop where
  kind : (Lit.int .i64 x.kind).wf = true
  name : x.name.size ≤ 1152921504606846976
  text : x.text.size ≤ 1152921504606846976
  parent : (Lit.int .i64 x.parent).wf = true
  attrs : x.attrs.length ≤ 2000000000
  kids : x.kids.length ≤ 1000000000
/-- A node's two slices, in blocks of their own. -/
structure Parts (w : World) (base : Nat) (x : Nd) (p : Value × Value) : Prop where
  attrs : OwnF tDA w base 141 p.1 x.attrs.length x.attrs
  kids : OwnF (tInt .i64) w base 3 p.2 x.kids.length x.kids
  ok : EdOk x
/-- A document of the call's own. -/
structure Ed (w : World) (base : Nat) (A : Value) (l : List Nd) (ps : List (Value × Value)) : Prop where
  len : ps.length = l.length
  few : l.length ≤ 1000000000
  row : OwnF tN6 w base 46 A l.length (List.zipWith ndRow l ps)
  parts : ∀ (i : Nat) x p, l[i]? = some x → ps[i]? = some p → Parts w base x p
  apart : ∀ (i j : Nat) p q, ps[i]? = some p → ps[j]? = some q → i ≠ j → (p.1.ownBlock = none ∨ p.1.ownBlock ≠ q.1.ownBlock) ∧ (p.2.ownBlock = none ∨ p.2.ownBlock ≠ q.2.ownBlock)

theorem own_block_at {α : Type} {T : Ty α} {w : World} {base : Nat} {e : TypeId} {D : Nat → Prop} {v : Value} {n g : Nat} {xs : List α} (h : Own T w base e D v n xs) (hg : v.ownBlock = some g) : ∃ cur, w.heap[g]? = some (.cells cur e (0, 0)) := by
  obtain ⟨cells, h, _⟩ := h
  rcases h.2 with ⟨rfl, _⟩ | ⟨g', cap, cur, rfl, _, hc, _⟩
  · cases hg
  · have e' : g' = g := by simpa [Value.ownBlock] using hg
    subst e'
    exact ⟨cur, hc⟩
/-- Rows of unlike types lie in unlike blocks. -/
theorem own_ne {α β : Type} {S : Ty α} {T : Ty β} {w : World} {b1 b2 : Nat} {e1 e2 : TypeId} (he : e1 ≠ e2) {D1 D2 : Nat → Prop} {v1 v2 : Value} {n1 n2 : Nat} {xs : List α} {ys : List β} (h1 : Own S w b1 e1 D1 v1 n1 xs) (h2 : Own T w b2 e2 D2 v2 n2 ys) : v1.ownBlock = none ∨ v1.ownBlock ≠ v2.ownBlock := by
  cases hv : v1.ownBlock with
  | none => exact Or.inl rfl
  | some g =>
    right
    intro e
    obtain ⟨c1, k1⟩ := own_block_at h1 hv
    obtain ⟨c2, k2⟩ := own_block_at h2 e.symm
    rw [k1] at k2
    injection k2 with k2
    injection k2 with _ k3
    exact he k3
/-- A block of another type is no row's own. -/
theorem own_ne_block {α : Type} {T : Ty α} {w : World} {base : Nat} {e e' : TypeId} (he : e ≠ e') {D : Nat → Prop} {v : Value} {n k : Nat} {xs : List α} (h : Own T w base e D v n xs) {cs : Array Value} {fr : Nat × Nat} (hk : w.heap[k]? = some (.cells cs e' fr)) : v.ownBlock ≠ some k := by
  intro e2
  obtain ⟨c1, k1⟩ := own_block_at h e2
  rw [k1] at hk
  injection hk with hk
  injection hk with _ k3
  exact he k3
theorem ownF_kept {α : Type} {T : Ty α} {w w' : World} {base : Nat} {e : TypeId} {v : Value} {n : Nat} {xs : List α} {row : Option Nat} (h : OwnF T w base e v n xs) (hg : w.grownBy w' row) (hne : v.ownBlock = none ∨ v.ownBlock ≠ row) : OwnF T w' base e v n xs :=
  Own.kept h hg hne fun _ h => h.elim
theorem grown_set (w : World) (g i : Nat) (u : Value) : w.grownBy (w.setCell ⟨g, i, none⟩ u) (some g) :=
  ⟨rfl, rfl, rfl, by simp, fun k _ hk => Below.heap_setCell _ _ _ _ (fun e => hk (by rw [e]))⟩

theorem ndRow_ok {x : Nd} {p : Value × Value} (h1 : ∃ A n c, p.1 = .slice A n c) (h2 : ∃ A n c, p.2 = .slice A n c) : (ndRow x p).length = 6 ∧ ∀ u ∈ ndRow x p, u.oneCell' = true := by
  obtain ⟨A, n, c, e⟩ := h1
  obtain ⟨A2, n2, c2, e2⟩ := h2
  refine ⟨rfl, fun u hu => ?_⟩
  unfold ndRow at hu
  rw [e, e2] at hu
  simp at hu
  rcases hu with rfl | rfl | rfl | rfl | rfl | rfl <;> rfl

section
variable {w w' : World} {base : Nat} {A : Value} {l : List Nd} {ps : List (Value × Value)}
theorem Parts.below {x : Nd} {p : Value × Value} (h : Parts w base x p) (hb : Below w.heap.size w w') : Parts w' base x p :=
  ⟨h.attrs.below hb (Nat.le_refl _), h.kids.below hb (Nat.le_refl _), h.ok⟩
theorem Ed.next (h : Ed w base A l ps) (hb : Below w.heap.size w w') : Ed w' base A l ps :=
  ⟨h.len, h.few, h.row.below hb (Nat.le_refl _), fun i x p hx hp => (h.parts i x p hx hp).below hb, h.apart⟩
theorem Ed.part_at (h : Ed w base A l ps) {i : Nat} {x : Nd} (hx : l[i]? = some x) : ∃ p, ps[i]? = some p ∧ Parts w base x p := by
  obtain ⟨p, hp⟩ := get_some (l := ps) (k := i) (by have := h.len; have := (List.getElem?_eq_some_iff.1 hx).1; omega)
  exact ⟨p, hp, h.parts i x p hx hp⟩
theorem zip_at {i : Nat} {x : Nd} {p : Value × Value} (hx : l[i]? = some x) (hp : ps[i]? = some p) : (List.zipWith ndRow l ps)[i]? = some (ndRow x p) := by
  rw [List.getElem?_zipWith, hx, hp]
theorem zip_set {i : Nat} {y : Nd} {q : Value × Value} : (List.zipWith ndRow l ps).set i (ndRow y q) = List.zipWith ndRow (l.set i y) (ps.set i q) := by
  induction l generalizing ps i with
  | nil => simp
  | cons x l ih =>
    cases ps with
    | nil => cases i <;> simp
    | cons p ps =>
      cases i with
      | zero => rfl
      | succ i =>
        rw [List.zipWith_cons_cons, List.set_cons_succ, List.set_cons_succ, List.set_cons_succ, List.zipWith_cons_cons, ih]
/-- Where the nodes lie. -/
theorem Ed.where_ (h : Ed w base A l ps) (h0 : 0 < l.length) : ∃ g c, A = .slice (some ⟨g, 0, none⟩) l.length c ∧ base ≤ g ∧ g < w.heap.size ∧ l.length ≤ c ∧ (∀ k, w.frozen? ⟨g, k, none⟩ = false) ∧
    ∀ (i : Nat) x p, l[i]? = some x → ps[i]? = some p → ∀ j u, (ndRow x p)[j]? = some u → w.cell? ⟨g, i * 6 + j, none⟩ = some u := by
  obtain ⟨A0, c, e⟩ := Own.form h.row
  have hrow := h.row
  rw [e] at hrow
  obtain ⟨g, cells, rfl, hb, hl, hr, hc, hf⟩ := Own.block hrow h0
  refine ⟨g, c, e, hb, hl, ?_, hf, fun i x p hx hp j u hu => ?_⟩
  · obtain ⟨_, h1, _⟩ := hrow
    rcases h1.2 with ⟨hv, h2⟩ | ⟨g', cap, cur, hv, _, _, hnc, _⟩
    · omega
    · injection hv with _ _ hv
      omega
  · obtain ⟨cs, ⟨rfl, _⟩, hj⟩ := hr.at_ (zip_at hx hp)
    exact hc _ _ (hj j u hu)
/-- A node turned, its slices left alone. -/
theorem Ed.plain {g n c : Nat} (h : Ed w base (.slice (some ⟨g, 0, none⟩) n c) l ps) {i j : Nat} {x y : Nd} {p : Value × Value} {u : Value} (hx : l[i]? = some x) (hp : ps[i]? = some p) (hj : j < 6) (hr : ndRow y p = (ndRow x p).set j u) (h1 : y.attrs = x.attrs) (h2 : y.kids = x.kids) (hok : EdOk y) :
    Ed (w.setCell ⟨g, i * 6 + j, none⟩ u) base (.slice (some ⟨g, 0, none⟩) n c) (l.set i y) ps := by
  have hP := h.parts i x p hx hp
  have hn : n = l.length := by
    obtain ⟨_, h3, _⟩ := h.row
    rcases h3.2 with ⟨hv, _⟩ | ⟨g', cap, cur, hv, _⟩
    · cases hv
    · injection hv
  subst hn
  have hrow : Own tN6 (w.setCell ⟨g, i * 6 + j, none⟩ u) base 46 (fun _ => False) (.slice (some ⟨g, 0, none⟩) l.length c) l.length ((List.zipWith ndRow l ps).set i (ndRow y p)) :=
    Own.stored (T := tN6) h.row (fun _ h => h.elim) (zip_at hx hp) (j := j) hj (fun cs hcs => by
      obtain ⟨rfl, _⟩ := hcs
      refine ⟨hr.symm, ?_⟩
      exact ndRow_ok (by obtain ⟨A, c, e⟩ := Own.form hP.attrs; exact ⟨_, _, _, e⟩) (by obtain ⟨A, c, e⟩ := Own.form hP.kids; exact ⟨_, _, _, e⟩))
  have hps : ps.set i p = ps := set_same hp
  rw [zip_set, hps] at hrow
  have hg := grown_set w g (i * 6 + j) u
  refine ⟨by rw [List.length_set]; exact h.len, by rw [List.length_set]; exact h.few, by rw [List.length_set]; exact hrow, fun k z q hz hq => ?_, h.apart⟩
  have key : ∀ z, l[k]? = some z → Parts (w.setCell ⟨g, i * 6 + j, none⟩ u) base z q := fun z hz => by
    have hP := h.parts k z q hz hq
    exact ⟨ownF_kept hP.attrs hg (own_ne (by decide) hP.attrs h.row), ownF_kept hP.kids hg (own_ne (by decide) hP.kids h.row), hP.ok⟩
  by_cases e : i = k
  · subst e
    rw [List.getElem?_set_self (List.getElem?_eq_some_iff.1 hx).1] at hz
    obtain rfl := Option.some.inj hz
    have := key x hx
    exact ⟨by rw [h1]; exact this.attrs, by rw [h2]; exact this.kids, hok⟩
  · rw [List.getElem?_set_ne e] at hz
    exact key z hz
/-- Kids are set: the new row is the old one's block, grown in place, or a new block. -/
theorem Ed.kids {g n c : Nat} {w1 : World} (h : Ed w base (.slice (some ⟨g, 0, none⟩) n c) l ps) {i : Nat} {x : Nd} {p : Value × Value} {v : Value} {ks : List Int} (hx : l[i]? = some x) (hp : ps[i]? = some p) (hg : w.grownBy w1 p.2.ownBlock) (hv : OwnF (tInt .i64) w1 base 3 v ks.length ks)
    (hb : v.ownBlock = p.2.ownBlock ∨ ∃ k, v.ownBlock = some k ∧ w.heap.size ≤ k) (hk : ks.length ≤ 1000000000) : Ed (w1.setCell ⟨g, i * 6 + 5, none⟩ v) base (.slice (some ⟨g, 0, none⟩) n c) (l.set i { x with kids := ks }) (ps.set i (p.1, v)) := by
  have hP := h.parts i x p hx hp
  have hn : n = l.length := by
    obtain ⟨_, h3, _⟩ := h.row
    rcases h3.2 with ⟨hv, _⟩ | ⟨g', cap, cur, hv, _⟩
    · cases hv
    · injection hv
  subst hn
  have hrow1 : OwnF tN6 w1 base 46 (.slice (some ⟨g, 0, none⟩) l.length c) l.length (List.zipWith ndRow l ps) := ownF_kept h.row hg (own_ne (by decide) h.row hP.kids)
  have hrow : Own tN6 (w1.setCell ⟨g, i * 6 + 5, none⟩ v) base 46 (fun _ => False) (.slice (some ⟨g, 0, none⟩) l.length c) l.length ((List.zipWith ndRow l ps).set i (ndRow { x with kids := ks } (p.1, v))) :=
    Own.stored (T := tN6) hrow1 (fun _ h => h.elim) (zip_at hx hp) (j := 5) (by decide) (fun cs hcs => by
      obtain ⟨rfl, _⟩ := hcs
      refine ⟨rfl, ?_⟩
      exact ndRow_ok (x := { x with kids := ks }) (by obtain ⟨A, c, e⟩ := Own.form hP.attrs; exact ⟨_, _, _, e⟩) (by obtain ⟨A, c, e⟩ := Own.form hv; exact ⟨_, _, _, e⟩))
  rw [zip_set] at hrow
  have hgs := grown_set w1 g (i * 6 + 5) v
  have hpl := (List.getElem?_eq_some_iff.1 hp).1
  have hxl := (List.getElem?_eq_some_iff.1 hx).1
  have hlt : ∀ (k : Nat) q, ps[k]? = some q → ∀ b, q.2.ownBlock = some b → b < w.heap.size := fun k q hq b hb => by
    obtain ⟨z, hz⟩ := get_some (l := l) (k := k) (by have := h.len; have := (List.getElem?_eq_some_iff.1 hq).1; omega)
    exact (Own.lt (h.parts k z q hz hq).kids b hb).2
  refine ⟨by rw [List.length_set, List.length_set]; exact h.len, by rw [List.length_set]; exact h.few, by rw [List.length_set]; exact hrow, fun k z q hz hq => ?_, fun k1 k2 q1 q2 hq1 hq2 hne => ?_⟩
  · by_cases e : i = k
    · subst e
      rw [List.getElem?_set_self hxl] at hz
      rw [List.getElem?_set_self hpl] at hq
      obtain rfl := Option.some.inj hz
      obtain rfl := Option.some.inj hq
      have ha1 := ownF_kept hP.attrs hg (own_ne (by decide) hP.attrs hP.kids)
      exact ⟨ownF_kept ha1 hgs (own_ne (by decide) ha1 hrow1), ownF_kept hv hgs (own_ne (by decide) hv hrow1), ⟨hP.ok.kind, hP.ok.name, hP.ok.text, hP.ok.parent, hP.ok.attrs, hk⟩⟩
    · rw [List.getElem?_set_ne e] at hz hq
      have hQ := h.parts k z q hz hq
      have ha1 := ownF_kept hQ.attrs hg (own_ne (by decide) hQ.attrs hP.kids)
      have hk1 := ownF_kept hQ.kids hg (h.apart k i q p hq hp (fun e2 => e e2.symm)).2
      exact ⟨ownF_kept ha1 hgs (own_ne (by decide) ha1 hrow1), ownF_kept hk1 hgs (own_ne (by decide) hk1 hrow1), hQ.ok⟩
  · have side : ∀ (k : Nat) q, ps[k]? = some q → k ≠ i → (v.ownBlock = none ∨ v.ownBlock ≠ q.2.ownBlock) ∧ (q.2.ownBlock = none ∨ q.2.ownBlock ≠ v.ownBlock) := fun k q hq hki => by
      have h1 := (h.apart i k p q hp hq (Ne.symm hki)).2
      have h2 := (h.apart k i q p hq hp hki).2
      rcases hb with e | ⟨b, e, hbl⟩
      · rw [e]
        exact ⟨h1, h2⟩
      · rw [e]
        refine ⟨Or.inr fun e2 => ?_, Or.inr fun e2 => ?_⟩
        · have := hlt k q hq b e2.symm
          omega
        · have := hlt k q hq b e2
          omega
    by_cases e1 : i = k1
    · subst e1
      rw [List.getElem?_set_self hpl] at hq1
      obtain rfl := Option.some.inj hq1
      rw [List.getElem?_set_ne hne] at hq2
      exact ⟨(h.apart i k2 p q2 hp hq2 hne).1, (side k2 q2 hq2 (Ne.symm hne)).1⟩
    · rw [List.getElem?_set_ne e1] at hq1
      by_cases e2 : i = k2
      · subst e2
        rw [List.getElem?_set_self hpl] at hq2
        obtain rfl := Option.some.inj hq2
        exact ⟨(h.apart k1 i q1 p hq1 hp hne).1, (side k1 q1 hq1 hne).2⟩
      · rw [List.getElem?_set_ne e2] at hq2
        exact h.apart k1 k2 q1 q2 hq1 hq2 hne
/-- Read as a slice of nodes. -/
theorem ed_rows {D : Nat → Prop} : ∀ (l : List Nd) (ps : List (Value × Value)) (cells : List Value), ps.length = l.length → (∀ (i : Nat) x p, l[i]? = some x → ps[i]? = some p → Parts w base x p) → Row tN6 w D (List.zipWith ndRow l ps) cells → Row tNd w (lt w.heap.size) l cells := by
  intro l
  induction l with
  | nil =>
    intro ps cells _ _ h
    exact h
  | cons x l ih =>
    intro ps cells hl hp h
    cases ps with
    | nil => simp at hl
    | cons p ps =>
      obtain ⟨c1, c2, rfl, ⟨rfl, _⟩, h2⟩ := h
      have hP := hp 0 x p rfl rfl
      obtain ⟨Aa, ca, ea, sa⟩ := OwnF.sl hP.attrs (by decide) (by have := hP.ok.attrs; show x.attrs.length * 32 ≤ _; omega)
      obtain ⟨Ak, ck, ek, sk⟩ := OwnF.sl hP.kids (by decide) (by have := hP.ok.kids; show x.kids.length * 8 ≤ _; omega)
      refine ⟨ndRow x p, c2, rfl, ?_, ih ps c2 (by simpa using hl) (fun i y q hy hq => hp (i + 1) y q (by simpa using hy) (by simpa using hq)) h2⟩
      unfold ndRow
      rw [ea, ek]
      exact nd_rep ⟨sa, sk, hP.ok.kind, hP.ok.name, hP.ok.text, hP.ok.parent⟩
theorem Ed.sl {A0 : Option Addr} {n c : Nat} (h : Ed w base (.slice A0 n c) l ps) : Sl tNd w (lt w.heap.size) A0 n c l := by
  have hrow := h.row
  have hn : n = l.length := by
    obtain ⟨_, h3, _⟩ := hrow
    rcases h3.2 with ⟨hv, h4⟩ | ⟨g', cap, cur, hv, _⟩
    · injection hv with _ hv _
      omega
    · injection hv
  subst hn
  have hs := Own.sl hrow (by decide) (by have := h.few; show l.length * 96 ≤ _; omega)
  refine ⟨rfl, hs.hc, by have := h.few; show l.length * 96 ≤ _; omega, hs.hm, hs.nil_, fun h0 => ?_⟩
  obtain ⟨b, o, cells, e, hD, hr, hc⟩ := hs.at_ h0
  refine ⟨b, o, cells, e, ?_, ed_rows l ps cells h.len h.parts hr, hc⟩
  rcases hD with hD | hD
  · exact hD.elim
  · exact hD.2
end
end Go.Proofs.YtegcedboeemedaaGreatDoor

/-
The library's slices at the types of documents: Clone, Delete.
-/
namespace Go.Proofs.YtegcedboeemedaaGreatDoor
open Go.RowKit Go.Cl
attribute [local go_sem ↓] Go.wp_at_zero Go.wp_at_succ

/-- slices.Clone: a row of its own that reads as the same. -/
theorem cloneDA (A : Option Addr) (n c : Nat) (xs : List DAttr) (w : World) (B : Nat) (hl : Sl tDA w (lt B) A n c xs) (hB : B ≤ w.heap.size) :
    Calls Tryz.prog 119 #[.slice A n c] w fun e w' => ∃ A' c', e = .returned (.slice A' n c') ∧ Below w.heap.size w w' ∧ Own tDA w' w.heap.size 141 (lt B) (.slice A' n c') n xs := by
  have hn1 := hl.small
  have hbt : n * 32 ≤ 140737488355328 := hl.hb
  have heq := fun (a : Option Addr) (k q : Nat) (wx : World) => Lib.run_eql_slice_nil (P := Tryz.prog) wx 44 141 a k q 0 0 Tryz.underlying44
  cases A with
  | none =>
    obtain rfl : c = 0 := hl.nil_ rfl
    obtain rfl : n = 0 := by have := hl.hc; omega
    obtain rfl : xs = [] := List.eq_nil_of_length_eq_zero hl.hn.symm
    go_enter Tryz.func119, Tryz.ntmps119
    go_wp2_with fail
    go_ret
    exact ⟨none, 0, rfl, Below.refl _ _, Own.nil _ _ _ _⟩
  | some ad =>
    go_enter Tryz.func119, Tryz.ntmps119
    go_wp2_with (at_builtin; refine wpList_apo _ rfl (.tmp 5) (.tmp 6) 44 rfl elemDA (v := .slice (some ⟨w.heap.size, 0, none⟩) 0 0) (xs := []) (D := fun _ => False) rfl ⟨[], World.ownsRow_made w #[] 0 (Nat.le_refl _) (by simp) (by simp), Row.nil⟩ (fun _ h => h.elim) rfl (hl.al hB _) (fun b hb => ⟨by have h1 : b < B := hb; simp; omega, by have h1 : b < B := hb; simp only [Value.ownBlock, ne_eq, Option.some.injEq]; omega⟩) (by omega) (by omega) (by simp) ?_; intro v1 w1 hown1 hgr1 hbl1 _)
    obtain ⟨A1, c1, rfl⟩ := hown1.form
    have h1 := (hown1.more (D' := lt B) fun b hb => hb.elim False.elim id)
    have h2 := ((Below.refl _ w).alloc (Nat.le_refl _) _).trans hbl1
    rw [Nat.zero_add, List.nil_append] at h1
    clear hown1 hgr1 hbl1
    rw [Nat.zero_add]
    go_wp2_with fail
    go_ret
    exact ⟨A1, c1, rfl, h2, h1⟩

end Go.Proofs.YtegcedboeemedaaGreatDoor

/-
Rows of ints that the call owns: one is put in, one is taken out.
-/
namespace Go.Proofs.YtegcedboeemedaaGreatDoor
open Go.RowKit Go.Cl
attribute [local go_sem ↓] Go.wp_at_zero Go.wp_at_succ

theorem ints_row {w : World} {D : Nat → Prop} : ∀ ys : List Int, (∀ x ∈ ys, (Lit.int .i64 x).wf = true) → Row (tInt .i64) w D ys (ys.map (Value.int .i64)) := by
  intro ys
  induction ys with
  | nil => intro _; exact Row.nil
  | cons y ys ih => intro hy; exact ⟨[.int .i64 y], _, rfl, ⟨rfl, hy y (by simp)⟩, ih (fun x hx => hy x (by simp [hx]))⟩
theorem row_ints {w : World} {D : Nat → Prop} : ∀ (ys : List Int) (cells : List Value), Row (tInt .i64) w D ys cells → cells = ys.map (Value.int .i64) ∧ ∀ x ∈ ys, (Lit.int .i64 x).wf = true := by
  intro ys
  induction ys with
  | nil => intro cells h; exact ⟨h, fun x hx => by cases hx⟩
  | cons y ys ih =>
    intro cells h
    obtain ⟨c1, c2, rfl, ⟨rfl, hw⟩, h2⟩ := h
    obtain ⟨e, h3⟩ := ih c2 h2
    refine ⟨by rw [e]; rfl, fun x hx => ?_⟩
    rcases List.mem_cons.1 hx with rfl | hx
    · exact hw
    · exact h3 x hx
/-- What an owned row of ints is. -/
theorem own_ints {w : World} {base g n c : Nat} {xs : List Int} (h : OwnF (tInt .i64) w base 3 (.slice (some ⟨g, 0, none⟩) n c) n xs) :
    ∃ cur, w.heap[g]? = some (.cells cur 3 (0, 0)) ∧ base ≤ g ∧ n = xs.length ∧ n ≤ c ∧ c ≤ maxLen ∧ cur.size = c ∧ cur.toList.take n = xs.map (Value.int .i64) ∧ ∀ x ∈ xs, (Lit.int .i64 x).wf = true := by
  have hln := Own.len h (by decide)
  obtain ⟨cells, h1, h2⟩ := h
  obtain ⟨e, hwf⟩ := row_ints _ _ h2
  rcases h1.2 with ⟨hv, h0⟩ | ⟨g', cap, cur, hv, hb, hh, hnc, hcm, hsz, htk⟩
  · cases hv
  · simp only [Value.slice.injEq, Option.some.injEq, Addr.mk.injEq, and_true, true_and] at hv
    obtain ⟨rfl, rfl⟩ := hv
    have hs1 : (tInt .i64).size = 1 := rfl
    rw [hs1, Nat.mul_one] at hsz htk
    exact ⟨cur, hh, hb, hln, hnc, hcm, hsz, by rw [htk, e], hwf⟩
theorem own_of {W : World} {base g m c : Nat} {ys : List Int} {cur : Array Value} (hh : W.heap[g]? = some (.cells cur 3 (0, 0))) (hb : base ≤ g) (hm : m = ys.length) (hc : m ≤ c) (hcm : c ≤ maxLen) (hsz : cur.size = c) (htk : cur.toList.take m = ys.map (Value.int .i64)) (hwf : ∀ x ∈ ys, (Lit.int .i64 x).wf = true) :
    OwnF (tInt .i64) W base 3 (.slice (some ⟨g, 0, none⟩) m c) m ys := by
  have hs1 : (tInt .i64).size = 1 := rfl
  refine ⟨ys.map (Value.int .i64), ⟨by rw [List.length_map, hs1, Nat.mul_one, hm], .inr ⟨g, c, cur, rfl, hb, hh, hc, hcm, by rw [hs1, Nat.mul_one]; exact hsz, by rw [hs1, Nat.mul_one]; exact htk⟩⟩, ints_row ys hwf⟩
theorem ints_at {w : World} {g n : Nat} {cur : Array Value} {xs : List Int} (hh : w.heap[g]? = some (.cells cur 3 (0, 0))) (htk : cur.toList.take n = xs.map (Value.int .i64)) : ∀ (j : Nat) v, (xs.map (Value.int .i64))[j]? = some v → w.cell? ⟨g, 0 + j, none⟩ = some v := fun j v hv => by
  rw [Nat.zero_add]
  rw [← htk, List.getElem?_take] at hv
  split at hv
  · exact cell_blk hh (by simpa using hv)
  · cases hv

theorem grown_drew (w : World) (row : Option Nat) : w.grownBy w.drew row := ⟨rfl, rfl, rfl, Nat.le_refl _, fun _ _ _ => rfl⟩
theorem grown_al (w : World) (o : Obj) (row : Option Nat) : w.grownBy (w.alloc o) row := ⟨rfl, rfl, rfl, by simp, fun k hk _ => Lib.alloc_old w o k hk⟩
/-- Stores into a block that is new leave what was there. -/
theorem grown_new {a b : World} {g : Nat} (hg : a.heap.size ≤ g) (row : Option Nat) (h : a.grownBy b row) (vs : List Value) (o : Nat) : a.grownBy (b.setCells g o vs) row := by
  have k := grown_setCells g vs o b
  exact ⟨k.os.trans h.os, k.tape.trans h.tape, k.output.trans h.output, Nat.le_trans h.size k.size, fun i hi hn => (k.block i (Nat.lt_of_lt_of_le hi h.size) (fun e => by simp at e; omega)).trans (h.block i hi hn)⟩
theorem grown_row {a b : World} {g : Nat} (h : a.grownBy b (some g)) (vs : List Value) (o : Nat) : a.grownBy (b.setCells g o vs) (some g) := grownBy.trans' h (grown_setCells g vs o b)

/-- slices.Insert of one int: the row's own block, or a new one. -/
theorem insertI (A : Option Addr) (n c i : Nat) (xs : List Int) (y : Int) (vb : Nat) (w : World) (base : Nat) (hown : OwnF (tInt .i64) w base 3 (.slice A n c) n xs) (hi : i ≤ n) (hn : n ≤ 1000000000) (hbase : base ≤ w.heap.size) (hy : (Lit.int .i64 y).wf = true)
    (hv : w.heap[vb]? = some (.cells #[.int .i64 y] 3 (0, 0))) (hne : (Value.slice A n c).ownBlock ≠ some vb) :
    Calls Tryz.prog 158 #[.slice A n c, .int .i64 (i : Int), .slice (some ⟨vb, 0, none⟩) 1 1] w fun e w' => ∃ v', e = .returned v' ∧ OwnF (tInt .i64) w' base 3 v' (n + 1) (xs.take i ++ y :: xs.drop i) ∧ w.grownBy w' (Value.slice A n c).ownBlock ∧ (v'.ownBlock = (Value.slice A n c).ownBlock ∨ v'.ownBlock = some w.heap.size) := by
  have hvs : ∀ (j : Nat) v, ([.int .i64 y] : List Value)[j]? = some v → w.cell? ⟨vb, 0 + j, none⟩ = some v := fun j v hj => by
    rw [Nat.zero_add]
    exact cell_blk hv (by simpa using hj)
  have ht3 : Tryz.laysInsert_ren.t 3 = 3 := rfl
  have hzc : ∀ k, (Builtin.zeroCells (Value.int .i64 0).cells k).size = k := fun k => by simp [Builtin.zeroCells, Value.cells]
  have h1v : ∀ v ∈ ([.int .i64 y] : List Value), v.oneCell' = true := fun v hv => by
    obtain rfl : v = .int .i64 y := by simpa using hv
    rfl
  have hwf' : ∀ {zs : List Int}, (∀ x ∈ zs, (Lit.int .i64 x).wf = true) → ∀ x ∈ zs.take i ++ y :: zs.drop i, (Lit.int .i64 x).wf = true := fun h x hx => by
    rw [List.perm_middle.mem_iff, List.take_append_drop] at hx
    rcases List.mem_cons.1 hx with rfl | hx
    · exact hy
    · exact h x hx
  rcases A with _ | ⟨g, go, gs⟩
  · have hx0 : n = 0 ∧ c = 0 ∧ xs = [] := by
      have hln := Own.len hown (by decide)
      obtain ⟨_, h1, _⟩ := hown
      rcases h1.2 with ⟨hv', h0⟩ | ⟨g', cap, cur, hv', _⟩
      · injection hv' with _ e1 e2
        exact ⟨e1, e2, List.eq_nil_of_length_eq_zero (by omega)⟩
      · injection hv' with e1
        cases e1
    obtain ⟨rfl, rfl, rfl⟩ := hx0
    obtain rfl : i = 0 := by omega
    refine (Any2.slices_Insert_int_end_grow Tryz.laysInsert none 0 0 vb 0 1 1 [] [.int .i64 y] w (by omega) (by omega) (by omega) (by omega) rfl rfl (fun _ => rfl) (fun a e => by cases e) hvs h1v).mono ?_
    rintro e w' ⟨rfl, rfl⟩
    refine ⟨_, rfl, ?_, grownBy.trans' (grown_drew w _) (grown_al _ _ _), Or.inr rfl⟩
    rw [ht3]
    have hge := grownCap_ge w (0 + 1) 0 3
    have hle := grownCap_le_maxLen w (0 + 1) 0 3 (by unfold maxLen; omega)
    refine own_of (heap_alloc_new _ _) hbase (by simp) hge hle ?_ ?_ (hwf' (by simp))
    · rw [Array.size_append, hzc]
      exact Nat.add_sub_cancel' hge
    · simp
  · obtain ⟨rfl, rfl⟩ : go = 0 ∧ gs = none := by
      obtain ⟨_, h1, _⟩ := hown
      rcases h1.2 with ⟨hv', _⟩ | ⟨g', cap, cur, hv', _⟩
      · cases hv'
      · injection hv' with e1
        simp at e1
        exact ⟨e1.2.1, e1.2.2⟩
    obtain ⟨cur, hh, hb, hln, hnc, hcm, hsz, htk, hwf⟩ := own_ints hown
    have hm := hcm
    unfold maxLen at hm
    have hcell := ints_at hh htk
    have hgl := (Array.getElem?_eq_some_iff.1 hh).1
    have hlm : (xs.map (Value.int .i64)).length = n := by rw [List.length_map]; omega
    have h1c : ∀ v ∈ xs.map (Value.int .i64), v.oneCell' = true := fun v hv => by
      obtain ⟨z, _, rfl⟩ := List.mem_map.1 hv
      rfl
    have hlen : n + 1 = (xs.take i ++ y :: xs.drop i).length := by
      rw [List.perm_middle.length_eq, List.take_append_drop, List.length_cons]
      omega
    have hclen : cur.toList.length = c := by simpa using hsz
    by_cases hin : i < n
    · by_cases hroom : n + 1 ≤ c
      · refine (Any2.slices_Insert_int_shift Tryz.laysInsert g 0 n c i vb 0 1 1 (xs.map (Value.int .i64)) [.int .i64 y] w hin (by omega) hroom (by omega) (fun e => hne (by rw [e]; rfl)) hlm rfl hcell
          (fun j hj => by rw [Nat.zero_add, cell_blk hh (Array.getElem?_eq_getElem (by omega))]; rfl) (fun j _ => free_blk hh) hvs h1c h1v 3 3 1 c (by simp [World.shape?, hv]) (by simp [World.shape?, hh, hsz]) (by omega) (free_blk hv) (free_blk hv)).mono ?_
        rintro e w' ⟨rfl, rfl⟩
        have hdl : ((xs.map (Value.int .i64)).drop i).length = n - i := by rw [List.length_drop, hlm]
        obtain ⟨cur1, a1, a2, a3⟩ := heap_setCells ((xs.map (Value.int .i64)).drop i) (0 + (i + 1)) w.drew cur hh (by rw [hdl]; omega)
        obtain ⟨cur2, b1, b2, b3⟩ := heap_setCells [.int .i64 y] (0 + i) _ cur1 a1 (by simp; omega)
        refine ⟨_, rfl, own_of b1 hb hlen hroom hcm (by omega) ?_ (hwf' hwf), grown_row (grown_row (grown_drew w _) _ _) _ _, Or.inl rfl⟩
        rw [b3, a3, Nat.zero_add, Nat.zero_add]
        have l1 : (cur.toList.take (i + 1)).length = i + 1 := by rw [List.length_take]; omega
        have t1 : (cur.toList.take (i + 1) ++ (xs.map (Value.int .i64)).drop i ++ cur.toList.drop (i + 1 + ((xs.map (Value.int .i64)).drop i).length)).take i = (xs.map (Value.int .i64)).take i := by
          rw [List.append_assoc, List.take_append_of_le_length (by omega), List.take_take, ← htk, List.take_take, Nat.min_eq_left (by omega), Nat.min_eq_left (by omega)]
        have t2 : (cur.toList.take (i + 1) ++ (xs.map (Value.int .i64)).drop i ++ cur.toList.drop (i + 1 + ((xs.map (Value.int .i64)).drop i).length)).drop (i + ([Value.int .i64 y] : List Value).length) = (xs.map (Value.int .i64)).drop i ++ cur.toList.drop (i + 1 + ((xs.map (Value.int .i64)).drop i).length) := by
          rw [List.append_assoc]
          exact List.drop_left' l1
        rw [t1, t2, List.append_assoc, List.map_append, List.map_cons, List.map_take, List.map_drop]
        have l2 : ((xs.map (Value.int .i64)).take i).length = i := by rw [List.length_take]; omega
        rw [List.take_append, l2, List.take_of_length_le (by omega)]
        congr 1
        rw [show n + 1 - i = (n - i) + 1 from by omega]
        show Value.int .i64 y :: List.take (n - i) ((xs.map (Value.int .i64)).drop i ++ _) = _
        rw [List.take_append_of_le_length (by omega), List.take_of_length_le (by omega)]
      · refine (Any2.slices_Insert_int_grow Tryz.laysInsert g 0 n c i vb 0 1 1 (xs.map (Value.int .i64)) [.int .i64 y] w hin (by omega) hnc (by omega) (by omega) hlm rfl hcell hvs h1c h1v).mono ?_
        rintro e w' ⟨rfl, rfl⟩
        have hge := grownCap_ge w (n + 1) c 3
        have hle := grownCap_le_maxLen w (n + 1) c 3 (by unfold maxLen; omega)
        have hdl : ((xs.map (Value.int .i64)).drop i).length = n - i := by rw [List.length_drop, hlm]
        have hci : (xs.map (Value.int .i64)).take i = (xs.take i).map (Value.int .i64) := by rw [List.map_take]
        rw [ht3]
        generalize hG : grownCap w (n + 1) c 3 = G at *
        generalize hr : (((xs.map (Value.int .i64)).take i).toArray ++ Builtin.zeroCells (Value.int .i64 0).cells (n + 1 - i) ++ Builtin.zeroCells (Value.int .i64 0).cells (G - (n + 1))) = cur0
        have hs0 : cur0.size = G := by
          rw [← hr, Array.size_append, Array.size_append, hzc, hzc]
          simp
          omega
        have t0 : cur0.toList.take i = (xs.map (Value.int .i64)).take i := by
          rw [← hr, Array.toList_append, Array.toList_append, List.append_assoc, List.take_append_of_le_length (by simp; omega)]
          show List.take i (List.take i _) = _
          rw [List.take_take, Nat.min_self]
        have hh0 : ((w.alloc (.cells cur0 3)).drew).heap[w.heap.size]? = some (.cells cur0 3 (0, 0)) := heap_alloc_new w _
        obtain ⟨cur1, a1, a2, a3⟩ := heap_setCells [.int .i64 y] i _ cur0 hh0 (by simp; omega)
        obtain ⟨cur2, b1, b2, b3⟩ := heap_setCells ((xs.map (Value.int .i64)).drop i) (i + 1) (((w.alloc (.cells cur0 3)).drew.setCells w.heap.size i [.int .i64 y]).drew) cur1 a1 (by rw [hdl]; omega)
        refine ⟨_, rfl, own_of b1 hbase hlen hge hle (by omega) ?_ (hwf' hwf), ?_, Or.inr rfl⟩
        · rw [b3, a3]
          have l2 : (cur0.toList.take i).length = i := by rw [List.length_take]; simp; omega
          have t1 : (cur0.toList.take i ++ [Value.int .i64 y] ++ cur0.toList.drop (i + ([Value.int .i64 y] : List Value).length)).take (i + 1) = (xs.map (Value.int .i64)).take i ++ [.int .i64 y] := by
            rw [List.take_append_of_le_length (by rw [List.length_append, l2]; simp), List.take_of_length_le (by rw [List.length_append, l2]; simp), t0]
          rw [t1, List.append_assoc, List.append_assoc, List.map_append, List.map_cons, List.map_take, List.map_drop]
          have l3 : ((xs.map (Value.int .i64)).take i).length = i := by rw [List.length_take]; omega
          rw [List.take_append, l3, List.take_of_length_le (by omega)]
          congr 1
          rw [show n + 1 - i = (n - i) + 1 from by omega]
          show Value.int .i64 y :: List.take (n - i) ((xs.map (Value.int .i64)).drop i ++ _) = _
          rw [List.take_append_of_le_length (by omega), List.take_of_length_le (by omega)]
        · exact grown_new (Nat.le_refl _) _ (grownBy.trans' (grown_new (Nat.le_refl _) _ (grownBy.trans' (grown_al w _ _) (grown_drew _ _)) _ _) (grown_drew _ _)) _ _
    · obtain rfl : i = n := by omega
      have hins : (xs.take i ++ y :: xs.drop i).map (Value.int .i64) = xs.map (Value.int .i64) ++ [.int .i64 y] := by
        rw [List.take_of_length_le (by omega), List.drop_of_length_le (by omega), List.map_append]
        rfl
      by_cases hroom : i + 1 ≤ c
      · refine (Any2.slices_Insert_int_end_room Tryz.laysInsert g 0 i c vb 0 1 1 [.int .i64 y] w (by omega) hroom (by omega) rfl
          (fun j hj => by rw [Nat.zero_add, cell_blk hh (Array.getElem?_eq_getElem (by omega))]; rfl) (fun j _ => free_blk hh) hvs h1v).mono ?_
        rintro e w' ⟨rfl, rfl⟩
        obtain ⟨cur1, a1, a2, a3⟩ := heap_setCells [.int .i64 y] (0 + i) w cur hh (by simp; omega)
        refine ⟨_, rfl, own_of a1 hb hlen hroom hcm (by omega) ?_ (hwf' hwf), grown_setCells g _ _ w, Or.inl rfl⟩
        rw [a3, hins, Nat.zero_add, List.take_append_of_le_length (by rw [List.length_append, List.length_take]; simp; omega), List.take_of_length_le (by rw [List.length_append, List.length_take]; simp; omega), htk]
      · refine (Any2.slices_Insert_int_end_grow Tryz.laysInsert (some ⟨g, 0, none⟩) i c vb 0 1 1 (xs.map (Value.int .i64)) [.int .i64 y] w (by omega) hnc (by omega) (by omega) hlm rfl (fun e => by cases e) (fun a e j v hj => by
          obtain rfl := Option.some.inj e
          have := hcell j v hj
          rw [Nat.zero_add] at this
          rw [show (⟨g, 0, none⟩ : Addr).add j = ⟨g, j, none⟩ from by unfold Addr.add; split <;> simp_all]
          exact this) hvs h1v).mono ?_
        rintro e w' ⟨rfl, rfl⟩
        rw [ht3]
        have hge := grownCap_ge w (i + 1) c 3
        have hle := grownCap_le_maxLen w (i + 1) c 3 (by unfold maxLen; omega)
        refine ⟨_, rfl, own_of (heap_alloc_new _ _) hbase hlen hge hle ?_ ?_ (hwf' hwf), grownBy.trans' (grown_drew w _) (grown_al _ _ _), Or.inr rfl⟩
        · rw [Array.size_append, hzc]
          have l5 : (xs.map (Value.int .i64) ++ [Value.int .i64 y]).toArray.size = i + 1 := by simp; omega
          rw [l5]
          exact Nat.add_sub_cancel' hge
        · rw [hins, Array.toList_append]
          show ((xs.map (Value.int .i64) ++ [Value.int .i64 y]) ++ _).take (i + 1) = _
          rw [List.take_append_of_le_length (by rw [List.length_append, hlm]; simp), List.take_of_length_le (by rw [List.length_append, hlm]; simp)]
end Go.Proofs.YtegcedboeemedaaGreatDoor

/-
A strings.Builder that a call has made itself: its writing methods (the library's own walks, turned to this translation: the kit does not lay them where the copy check's panic is cut).
-/
namespace Go.Proofs.YtegcedboeemedaaGreatDoor
open Go.RowKit Go.Cl

/-- Whatever is no builder and no row of bytes lies as it lay. -/
structure Spares (w w' : World) : Prop where
  size : w.heap.size ≤ w'.heap.size
  same : ∀ (k : Nat) (o : Obj), w.heap[k]? = some o → (∀ cs t fr, o = .cells cs t fr → t ≠ 64 ∧ t ≠ 5) → w'.heap[k]? = some o
theorem Spares.refl (w : World) : Spares w w := ⟨Nat.le_refl _, fun _ _ h _ => h⟩
theorem Spares.trans {a b c : World} (h : Spares a b) (k : Spares b c) : Spares a c := ⟨Nat.le_trans h.size k.size, fun i o hi ho => k.same i o (h.same i o hi ho) ho⟩
theorem Spares.alloc (w : World) (o : Obj) : Spares w (w.alloc o) := ⟨by rw [World.size_alloc]; omega, fun k x hk _ => (Lib.alloc_old w o k (Array.getElem?_eq_some_iff.1 hk).1).trans hk⟩
theorem Spares.own {w w' : World} {B n : Nat} {v : Value} {xs : List Value} (h : w.ownsRow B 5 1 v n xs) (hg : w.grownBy w' v.ownBlock) : Spares w w' := by
  refine ⟨hg.size, fun k o hk ho => (hg.block k (Array.getElem?_eq_some_iff.1 hk).1 ?_).trans hk⟩
  rcases h.2 with ⟨rfl, _⟩ | ⟨g, cap, cur, rfl, _, hc, _⟩
  · simp [Value.ownBlock]
  · intro e
    simp only [Value.ownBlock, Option.some.injEq] at e
    subst e
    rw [hc] at hk
    exact (ho _ _ _ (Option.some.inj hk).symm).2 rfl
theorem Spares.set {w : World} {b i : Nat} {cs : Array Value} {fr : Nat × Nat} (h : w.heap[b]? = some (.cells cs 64 fr)) (v : Value) : Spares w (w.setCell ⟨b, i, none⟩ v) := by
  refine ⟨by simp [World.setCell], fun k o hk ho => ?_⟩
  rw [Below.heap_setCell w ⟨b, i, none⟩ v k ?_]
  · exact hk
  · intro e
    have e' : b = k := e.symm
    subst e'
    rw [h] at hk
    exact (ho _ _ _ (Option.some.inj hk).symm).1 rfl

set_option maxRecDepth 100000 in
theorem copy_used (b : Nat) (w : World) (h0 : w.cell? ⟨b, 0, none⟩ = some (.pointer (some ⟨b, 0, none⟩))) :
    Calls Tryz.prog 72 #[.pointer (some ⟨b, 0, none⟩)] w fun e w' => e = .returned (.tuple #[]) ∧ w' = w := by
  obtain ⟨j, hj, _⟩ := Option.map_eq_some_iff.1 Tryz.Builder_Extra_169.sizeBuilder
  go_enter Tryz.func72, Tryz.ntmps72
  go_wp2_with fail
  rw [Lib.run_neq_ptr_same w _ Tryz.underlying61 hj]
  go_wp2_with fail
  go_end0
  exact ⟨rfl, rfl⟩

set_option maxRecDepth 100000 in
theorem copy_fresh (b : Nat) (w : World) (h0 : w.cell? ⟨b, 0, none⟩ = some (.pointer none)) (hsh : w.shape? b = some (64, 2)) (hfz : w.frozen? ⟨b, 0, none⟩ = false) :
    Calls Tryz.prog 72 #[.pointer (some ⟨b, 0, none⟩)] w fun e w' => e = .returned (.tuple #[]) ∧ w' = w.setCell ⟨b, 0, none⟩ (.pointer (some ⟨b, 0, none⟩)) := by
  obtain ⟨j, hj, hjs⟩ := Option.map_eq_some_iff.1 Tryz.Builder_Extra_169.sizeBuilder
  go_enter Tryz.func72, Tryz.ntmps72
  go_wp2_with fail
  rw [Lib.run_to_unsafe w ⟨b, 0, none⟩ Tryz.underlying61 Tryz.underlying163 hj (by rw [hjs]; decide) hsh (Nat.zero_lt_succ 1)]
  simp only [Result.andThen]
  rw [Oper.upon_value]
  go_wp2_with fail
  rw [run_callFunc_extern Tryz.func109 (by kernel_rfl) (by kernel_rfl) (by kernel_rfl) (e := Extern.AbiNoEscape.same) (by kernel_rfl)]
  rw [Lib.run_noEscape]
  simp only [Result.andThen]
  rw [Oper.upon_value]
  go_wp2_with fail
  rw [Lib.run_from_unsafe w ⟨b, 0, none⟩ Tryz.underlying163 Tryz.underlying61 hj hsh Tryz.Builder_Extra_169.liesBuilder]
  simp only [Result.andThen]
  rw [Oper.upon_value]
  go_wp2_with fail
  go_end0
  exact ⟨rfl, rfl⟩

/-- A builder of the call's own that has been written. -/
abbrev Bld (B b : Nat) (l : List Value) (w : World) : Prop := Lib.IsBuilder 64 5 B b l w

theorem copy_any (B b : Nat) (bs : List Value) (w : World) (h : Bld B b bs w) :
    Calls Tryz.prog 72 #[.pointer (some ⟨b, 0, none⟩)] w fun e w' => e = .returned (.tuple #[]) ∧ (Lib.BuilderAt 64 5 B b (.pointer (some ⟨b, 0, none⟩)) bs w' ∧ Below B w w' ∧ Spares w w') := by
  rcases h with h | h
  · refine (copy_fresh b w h.cell0 h.shape h.frozen0).mono ?_
    rintro e w' ⟨rfl, rfl⟩
    exact ⟨rfl, h.used _, (Below.refl B w).setCell (p := ⟨b, 0, none⟩) h.1 _, Spares.set h.2.choose_spec.1 _⟩
  · refine (copy_used b w h.cell0).mono ?_
    rintro e w' ⟨rfl, rfl⟩
    exact ⟨rfl, h, Below.refl B _, Spares.refl _⟩

set_option maxRecDepth 100000 in
theorem writeString_sp (B b : Nat) (bs : List Value) (s : ByteArray) (w : World) (h : Bld B b bs w) (hlen : bs.length + s.size ≤ 140737488355328) (hBw : B ≤ w.heap.size) :
    Calls Tryz.prog 39 #[.pointer (some ⟨b, 0, none⟩), .string s] w fun e w' => e = .returned (.tuple #[.int .i64 s.size, .nilIface]) ∧ (Bld B b (bs ++ Lib.strCells s) w' ∧ Below B w w' ∧ Spares w w') := by
  obtain ⟨i0, hi, hz0, hz1, hz2⟩ := info_parts Tryz.Builder_Extra_169.infoByte
  go_enter Tryz.func39, Tryz.ntmps39
  go_wp2_with fail
  refine (copy_any B b bs _ h).mono ?_
  rintro e w1 ⟨rfl, h1, hb1, hs1⟩
  obtain ⟨hB, v, hbk, hown, hne⟩ := h1
  have c0 : w1.cell? ⟨b, 0, none⟩ = some (.pointer (some ⟨b, 0, none⟩)) := by rw [Lib.cell_of_heap hbk]; rfl
  have c1 : w1.cell? ⟨b, 1, none⟩ = some v := by rw [Lib.cell_of_heap hbk]; rfl
  go_wp2_with (at_builtin; refine Lib.wpList_append_own_string _ rfl _ _ 62 9 rfl B 5 i0 Tryz.underlying62 Tryz.underlying9 hi hz0 hz1 hz2 _ _ _ rfl hown s rfl ?c3 ?c4 ?c5 ?_)
  case c3 => unfold maxLen; omega
  case c4 => omega
  case c5 => have := hb1.size; omega
  intro v' w2 hown' hgrow _
  have hlt : b < w1.heap.size := by
    rcases Nat.lt_or_ge b w1.heap.size with h' | h'
    · exact h'
    · simp [Array.getElem?_eq_none h'] at hbk
  have hb2 : w2.heap[b]? = some (.cells #[.pointer (some ⟨b, 0, none⟩), v] 64 (0, 0)) := by
    rw [hgrow.block b hlt (fun e => hne e.symm)]
    exact hbk
  have d0 : w2.cell? ⟨b, 0, none⟩ = some (.pointer (some ⟨b, 0, none⟩)) := by rw [Lib.cell_of_heap hb2]; rfl
  have d1 : w2.cell? ⟨b, 1, none⟩ = some v := by rw [Lib.cell_of_heap hb2]; rfl
  have f1 : w2.frozen? ⟨b, 1, none⟩ = false := Lib.frozen_of_heap hb2 1
  obtain ⟨ao, n', cap, rfl⟩ : ∃ ao n' cap, v' = .slice ao n' cap := by
    rcases hown'.2 with ⟨hv, _⟩ | ⟨g, cap, cur, hv, _⟩
    · exact ⟨_, _, _, hv⟩
    · exact ⟨_, _, _, hv⟩
  go_wp2_with fail
  go_ret2
  refine ⟨rfl, Or.inr ?_, ?_, hs1.trans ((Spares.own hown hgrow).trans (Spares.set hb2 _))⟩
  · exact Lib.BuilderAt.put (T := 64) (e := 5) hB hb2 (bs' := bs ++ Lib.strCells s) (by simpa [Lib.strCells_length] using hown') Tryz.Builder_Extra_169.neB5
  · exact (hb1.grown hgrow (by have := hb1.size; omega) (fun k hk => (hown.lt k hk).1)).setCell (p := ⟨b, 1, none⟩) hB _
theorem writeString_any (B b : Nat) (bs : List Value) (s : ByteArray) (w : World) (h : Bld B b bs w) (hlen : bs.length + s.size ≤ 140737488355328) (hBw : B ≤ w.heap.size) :
    Calls Tryz.prog 39 #[.pointer (some ⟨b, 0, none⟩), .string s] w fun e w' => e = .returned (.tuple #[.int .i64 s.size, .nilIface]) ∧ (Bld B b (bs ++ Lib.strCells s) w' ∧ Below B w w') :=
  (writeString_sp B b bs s w h hlen hBw).mono fun _ _ h => ⟨h.1, h.2.1, h.2.2.1⟩

set_option maxRecDepth 100000 in
theorem writeByte_sp (B b : Nat) (bs : List Value) (c : Int) (w : World) (h : Bld B b bs w) (hlen : bs.length + 1 ≤ 140737488355328) (hBw : B ≤ w.heap.size) :
    Calls Tryz.prog 35 #[.pointer (some ⟨b, 0, none⟩), .int .u8 c] w fun e w' => e = .returned .nilIface ∧ (Bld B b (bs ++ [.int .u8 c]) w' ∧ Below B w w' ∧ Spares w w') := by
  obtain ⟨i0, hi, hz0, hz1, hz2⟩ := info_parts Tryz.Builder_Extra_169.infoByte
  go_enter Tryz.func35, Tryz.ntmps35
  go_wp2_with fail
  refine (copy_any B b bs _ h).mono ?_
  rintro e w1 ⟨rfl, h1, hb1, hs1⟩
  obtain ⟨hB, v, hbk, hown, hne⟩ := h1
  have c0 : w1.cell? ⟨b, 0, none⟩ = some (.pointer (some ⟨b, 0, none⟩)) := by rw [Lib.cell_of_heap hbk]; rfl
  have c1 : w1.cell? ⟨b, 1, none⟩ = some v := by rw [Lib.cell_of_heap hbk]; rfl
  go_wp2_with (at_builtin; refine wpList_append_own _ rfl _ _ 62 rfl B 5 i0 (.int .u8 0) 1 1 Tryz.underlying62 hi hz0 hz1 hz2 rfl (by decide) _ _ _ rfl (hown.alloc _) ⟨w1.heap.size, 0, none⟩ 1 1 [.int .u8 c] rfl rfl ?c1 ?c2 ?c3 ?c4 ?c5 ?_)
  case c1 =>
    intro j u hj
    match j, hj with
    | 0, hj => simp at hj; subst hj; simp [Addr.add]
  case c2 => intro u hu; simp at hu; subst hu; rfl
  case c3 => unfold maxLen; omega
  case c4 => omega
  case c5 => have := hb1.size; simp; omega
  intro v' w2 hown' hgrow _
  have hlt : b < w1.heap.size := by
    rcases Nat.lt_or_ge b w1.heap.size with h' | h'
    · exact h'
    · simp [Array.getElem?_eq_none h'] at hbk
  have hb2 : w2.heap[b]? = some (.cells #[.pointer (some ⟨b, 0, none⟩), v] 64 (0, 0)) := by
    rw [hgrow.block b (by simp; omega) (fun e => hne e.symm), Lib.alloc_old w1 _ b hlt]
    exact hbk
  have d0 : w2.cell? ⟨b, 0, none⟩ = some (.pointer (some ⟨b, 0, none⟩)) := by rw [Lib.cell_of_heap hb2]; rfl
  have d1 : w2.cell? ⟨b, 1, none⟩ = some v := by rw [Lib.cell_of_heap hb2]; rfl
  have f1 : w2.frozen? ⟨b, 1, none⟩ = false := Lib.frozen_of_heap hb2 1
  obtain ⟨g, cap, rfl⟩ : ∃ g cap, v' = .slice (some ⟨g, 0, none⟩) (bs.length + 1) cap := by
    rcases hown'.2 with ⟨_, h0⟩ | ⟨g, cap, cur, hv, _⟩
    · omega
    · exact ⟨g, cap, hv⟩
  go_wp2_with fail
  go_ret
  refine ⟨rfl, Or.inr ?_, ?_, hs1.trans (((Spares.alloc _ _).trans (Spares.own (hown.alloc _) hgrow)).trans (Spares.set hb2 _))⟩
  · exact Lib.BuilderAt.put (T := 64) (e := 5) hB hb2 (bs' := bs ++ [.int .u8 c]) (by simpa using hown') Tryz.Builder_Extra_169.neB5
  · exact ((hb1.alloc (by have := hb1.size; omega) _).grown hgrow (by have := hb1.size; simp; omega) (fun k hk => (hown.lt k hk).1)).setCell (p := ⟨b, 1, none⟩) hB _
set_option maxRecDepth 100000 in
theorem writeRune_sp (B b : Nat) (bs : List Value) (r : Int) (hr0 : -2147483648 ≤ r) (hr1 : r ≤ 2147483647) (w : World) (h : Bld B b bs w) (hlen : bs.length + 4 ≤ 140737488355328) (hBw : B ≤ w.heap.size) :
    Calls Tryz.prog 34 #[.pointer (some ⟨b, 0, none⟩), .int .i32 r] w fun e w' => (∃ k, e = .returned (.tuple #[.int .i64 k, .nilIface])) ∧ (Bld B b (bs ++ Lib.runeCells r) w' ∧ Below B w w' ∧ Spares w w') := by
  go_enter Tryz.func34, Tryz.ntmps34
  go_wp2_with fail
  refine (copy_any B b bs _ h).mono ?_
  rintro e w1 ⟨rfl, h1, hb1, hs1⟩
  obtain ⟨hB, v, hbk, hown, hne⟩ := h1
  have c0 : w1.cell? ⟨b, 0, none⟩ = some (.pointer (some ⟨b, 0, none⟩)) := by rw [Lib.cell_of_heap hbk]; rfl
  obtain ⟨ao, cap, rfl⟩ : ∃ ao cap, v = .slice ao bs.length cap := by
    rcases hown.2 with ⟨hv, h0⟩ | ⟨g, cap, cur, hv, _⟩
    · exact ⟨none, 0, by rw [hv, h0]⟩
    · exact ⟨_, _, hv⟩
  have c1 : w1.cell? ⟨b, 1, none⟩ = some (.slice ao bs.length cap) := by rw [Lib.cell_of_heap hbk]; rfl
  have hz1 := hb1.size
  go_wp2_with fail
  refine (Tryz.utf8_AppendRune_plain B (.slice ao bs.length cap) bs.length bs r hr0 hr1 w1 hown (by omega) (by omega)).mono ?_
  rintro e w2 ⟨v', rfl, hown', o, hgrow⟩
  have hlt : b < w1.heap.size := by
    rcases Nat.lt_or_ge b w1.heap.size with h' | h'
    · exact h'
    · simp [Array.getElem?_eq_none h'] at hbk
  have hb2 : w2.heap[b]? = some (.cells #[.pointer (some ⟨b, 0, none⟩), .slice ao bs.length cap] 64 (0, 0)) := by
    rw [hgrow.block b (by simp; omega) (fun e => hne e.symm), Lib.alloc_old w1 _ b hlt]
    exact hbk
  have d0 : w2.cell? ⟨b, 0, none⟩ = some (.pointer (some ⟨b, 0, none⟩)) := by rw [Lib.cell_of_heap hb2]; rfl
  have d1 : w2.cell? ⟨b, 1, none⟩ = some (.slice ao bs.length cap) := by rw [Lib.cell_of_heap hb2]; rfl
  have f1 : w2.frozen? ⟨b, 1, none⟩ = false := Lib.frozen_of_heap hb2 1
  obtain ⟨ao', n', cap', rfl⟩ : ∃ ao n' cap, v' = .slice ao n' cap := by
    rcases hown'.2 with ⟨hv, _⟩ | ⟨g, cap, cur, hv, _⟩
    · exact ⟨_, _, _, hv⟩
    · exact ⟨_, _, _, hv⟩
  go_wp2_with fail
  go_ret2
  refine ⟨⟨_, rfl⟩, Or.inr ?_, ?_, hs1.trans (((Spares.alloc _ _).trans (Spares.own (hown.alloc _) hgrow)).trans (Spares.set hb2 _))⟩
  · exact Lib.BuilderAt.put (T := 64) (e := 5) hB hb2 (bs' := bs ++ Lib.runeCells r) (by rw [List.length_append]; exact hown') Tryz.Builder_Extra_169.neB5
  · exact ((hb1.alloc (by omega) o).grown hgrow (by simp; omega) (fun k hk => (hown.lt k hk).1)).setCell (p := ⟨b, 1, none⟩) hB _
theorem writeRune_any (B b : Nat) (bs : List Value) (r : Int) (hr0 : -2147483648 ≤ r) (hr1 : r ≤ 2147483647) (w : World) (h : Bld B b bs w) (hlen : bs.length + 4 ≤ 140737488355328) (hBw : B ≤ w.heap.size) :
    Calls Tryz.prog 34 #[.pointer (some ⟨b, 0, none⟩), .int .i32 r] w fun e w' => (∃ k, e = .returned (.tuple #[.int .i64 k, .nilIface])) ∧ (Bld B b (bs ++ Lib.runeCells r) w' ∧ Below B w w') :=
  (writeRune_sp B b bs r hr0 hr1 w h hlen hBw).mono fun _ _ h => ⟨h.1, h.2.1, h.2.2.1⟩

end Go.Proofs.YtegcedboeemedaaGreatDoor

/-
The walks of package chars: write, Encode.
-/
namespace Go.Proofs.YtegcedboeemedaaGreatDoor
open Go.RowKit Go.Cl

/-- The bytes of signs. -/
def encB (l : List Int) : List UInt8 := l.flatMap Lib.encodeRune
theorem enc_snoc (l : List Int) (r : Int) : Lib.byteCells (encB (l ++ [r])) = Lib.byteCells (encB l) ++ Lib.runeCells r := by
  rw [← Lib.byteCells_encodeRune, ← Lib.byteCells_append]
  unfold encB
  simp
theorem enc_rune_le (r : Int) : (Lib.encodeRune r).length ≤ 4 := by rw [← Lib.runeCells_length]; exact (Lib.runeCells_le r).2
theorem enc_le (l : List Int) : (encB l).length ≤ 4 * l.length := by
  induction l with
  | nil => simp [encB]
  | cons r l ih =>
    have h := enc_rune_le r
    simp only [encB, List.flatMap_cons, List.length_append, List.length_cons] at *
    omega
/-- The block of a fresh builder. -/
theorem bld_new (w : World) : Bld w.heap.size w.heap.size [] (w.alloc (.cells #[.pointer none, .slice none 0 0] 64)) := Lib.fresh_isBuilder _ _ w
theorem bld_al {B b : Nat} {l : List Value} {w : World} (h : Bld B b l w) (o : Obj) : Bld B b l (w.alloc o) := by
  rcases h with ⟨hB, v, hb, hown, hne⟩ | ⟨hB, v, hb, hown, hne⟩
  · exact Or.inl ⟨hB, v, (Lib.alloc_old w o b (Lib.BuilderAt.lt ⟨hB, v, hb, hown, hne⟩)).trans hb, hown.alloc _, hne⟩
  · exact Or.inr ⟨hB, v, (Lib.alloc_old w o b (Lib.BuilderAt.lt ⟨hB, v, hb, hown, hne⟩)).trans hb, hown.alloc _, hne⟩

theorem write_any (B b : Nat) (bs : List Value) (r : Int) (hr : (Lit.int .i32 r).wf = true) (w : World) (h : Bld B b bs w) (hlen : bs.length + 4 ≤ 140737488355328) (hBw : B ≤ w.heap.size) :
    Calls Tryz.prog 314 #[.pointer (some ⟨b, 0, none⟩), .int .i32 r] w fun e w' => e = .returned (.tuple #[]) ∧ (Bld B b (bs ++ Lib.runeCells r) w' ∧ Below B w w') := by
  have hr' : -2147483648 ≤ r ∧ r ≤ 2147483647 := by
    have h1 : IntKind.i32.min = -2147483648 := by decide
    have h2 : IntKind.i32.max = 2147483647 := by decide
    simp [Lit.wf, h1, h2] at hr
    omega
  cases hv : Lib.validRune r
  · have hbad : Lib.runeCells r = Lib.runeCells 65533 := by
      have hb : r < 0 ∨ (55296 ≤ r ∧ r ≤ 57343) ∨ 1114111 < r := by
        unfold Lib.validRune at hv
        have := of_decide_eq_false hv
        omega
      unfold Lib.runeCells
      rw [Lib.encodeRuneZ_bad hb]
      rfl
    go_enter Tryz.func314, Tryz.ntmps314
    go_wp2_with fail
    refine (Tryz.utf8_ValidRune r _).mono ?_
    rintro e w1 ⟨rfl, rfl⟩
    rw [hv]
    go_wp2_with fail
    refine (writeRune_any B b bs 65533 (by omega) (by omega) _ h hlen hBw).mono ?_
    rintro e w2 ⟨⟨k, rfl⟩, h2, hb2⟩
    go_wp2_with fail
    go_end0
    exact ⟨rfl, by rw [hbad]; exact h2, hb2⟩
  · go_enter Tryz.func314, Tryz.ntmps314
    go_wp2_with fail
    refine (Tryz.utf8_ValidRune r _).mono ?_
    rintro e w1 ⟨rfl, rfl⟩
    rw [hv]
    go_wp2_with fail
    refine (writeRune_any B b bs r hr'.1 hr'.2 _ h hlen hBw).mono ?_
    rintro e w2 ⟨⟨k, rfl⟩, h2, hb2⟩
    go_wp2_with fail
    go_end0
    exact ⟨rfl, h2, hb2⟩

theorem encode_any (A : Option Addr) (n c : Nat) (l : List Int) (w : World) (B : Nat) (hl : Sl (tInt .i32) w (lt B) A n c l) (hB : B ≤ w.heap.size) :
    Calls Tryz.prog 297 #[.slice A n c] w fun e w' => e = .returned (.string ⟨(encB l).toArray⟩) ∧ Below w.heap.size w w' := by
  have HL := Lib.hid hl.hn
  have hn1 : n * 4 ≤ 140737488355328 := hl.hb
  go_enter Tryz.func297, Tryz.ntmps297
  go_wp2_with fail
  go_loopw [5, 8] (fun _ i wr => ∃ k : Nat, k ≤ n ∧ i = .int .i64 (k : Int) ∧ Below w.heap.size w wr ∧ Bld w.heap.size w.heap.size (Lib.byteCells (encB (l.take k))) wr) (fun _ i _ => n - (intOf i).toNat)
  case atStart => exact ⟨0, Nat.zero_le _, rfl, (Below.refl _ _).alloc (Nat.le_refl _) _, bld_new w⟩
  case round =>
    obtain ⟨k, hk, rfl, hb, hbld⟩ := hrel
    by_cases hlt : k < n
    · obtain ⟨x, hx⟩ : ∃ x, l[k]? = some x := get_some (by have := HL.out; omega)
      obtain ⟨g, o, rfl, hg, hc, hw⟩ := (hl.below hb hB).int hx
      have hsz := hb.size
      have HX := Lib.hid (show l.take (k + 1) = l.take k ++ [x] from by rw [List.take_add_one, hx]; rfl)
      have HW := Lib.hid (write_any w.heap.size w.heap.size _ x hw wr hbld (by
        rw [Lib.byteCells_length]
        have := enc_le (l.take k)
        rw [List.length_take] at this
        omega) hsz)
      clear hx hw
      go_wp2_with fail
      refine HW.out.mono ?_
      rintro e w2 ⟨rfl, h2, hb2⟩
      go_wp2_with fail
      go_roundw
      case rel => exact ⟨k + 1, by omega, by go_num, hb.trans hb2, by rw [HX.out, enc_snoc]; exact h2⟩
      case measure => simp [intOf]; omega
    · have hkn : l.take k = l := List.take_of_length_le (by have := HL.out; omega)
      rw [hkn] at hbld
      have HS := Lib.hid (Tryz.Builder_String_any w.heap.size w.heap.size (encB l) wr hbld hb.size)
      clear hkn hbld
      go_wp2_with fail
      refine HS.out.mono ?_
      rintro e w2 ⟨rfl, hb2⟩
      go_wp2_with fail
      go_ret
      exact ⟨rfl, hb.trans hb2⟩
end Go.Proofs.YtegcedboeemedaaGreatDoor

/-
The walks of package entity: digit, sign, semicolon, word.
-/
namespace Go.Proofs.YtegcedboeemedaaGreatDoor
open Go.RowKit Go.Cl

/-- A byte with the bit 32. -/
def low (b : Int) : Int := bits BinOp.or IntKind.u8 b 32
/-- The number that a digit tells, or -1. -/
def digN (b base : Int) : Int :=
  let n := if 48 ≤ b ∧ b ≤ 57 then b - 48 else if 97 ≤ low b ∧ low b ≤ 102 then low b - 97 + 10 else -1
  if base ≤ n then -1 else n

theorem digit_any (b : UInt8) (base : Int) (w : World) :
    Calls Tryz.prog 267 #[.int .u8 b.toNat, .int .i64 base] w fun e w' => e = .returned (.int .i64 (digN b.toNat base)) ∧ w = w' := by
  go_enter Tryz.func267, Tryz.ntmps267
  go_wp2_with fail
  all_goals
    go_ret
    refine ⟨retI ?_, rfl⟩
    unfold digN low
    dsimp only
    generalize bits BinOp.or IntKind.u8 (b.toNat : Int) 32 = q at *
    repeat' split
    all_goals omega

/-- A sign by its number. -/
def signB (n : Int) : ByteArray := ⟨(Lib.encodeRune (if n = 0 ∨ n = 13 then 65533 else n)).toArray⟩

theorem sign_any (n : Int) (w : World) (h0 : 0 ≤ n) (h1 : n ≤ 2097152) :
    Calls Tryz.prog 268 #[.int .i64 n] w fun e w' => e = .returned (.string (signB n)) ∧ Below w.heap.size w w' := by
  have key : ∀ r : Int, 0 ≤ r → r ≤ 2097152 → signB n = ⟨(Lib.encodeRune r).toArray⟩ → Calls Tryz.prog 297 #[.slice (some ⟨w.heap.size, 0, none⟩) 1 1] (w.alloc (.cells #[.int .i32 r] 21)) fun e w' => e = .returned (.string (signB n)) ∧ Below w.heap.size w w' := by
    intro r hr0 hr1 hs
    have hwf : (Lit.int .i32 r).wf = true := by
      have h1 : IntKind.i32.min = -2147483648 := by decide
      have h2 : IntKind.i32.max = 2147483647 := by decide
      simp [Lit.wf, h1, h2]
      omega
    have hsl : Sl (tInt .i32) (w.alloc (.cells #[.int .i32 r] 21)) (lt (w.heap.size + 1)) (some ⟨w.heap.size, 0, none⟩) 1 1 [r] :=
      { hn := rfl, hc := Nat.le_refl _, hb := by decide, hm := by decide, nil_ := by simp, at_ := fun _ => ⟨w.heap.size, 0, [.int .i32 r], rfl, Nat.lt_succ_self _, ⟨[.int .i32 r], [], rfl, ⟨rfl, hwf⟩, rfl⟩, cell_new w [.int .i32 r] _⟩ }
    refine (encode_any _ 1 1 [r] _ _ hsl (by rw [World.size_alloc]; exact Nat.le_refl _)).mono ?_
    rintro e w1 ⟨rfl, hb⟩
    refine ⟨by rw [hs]; simp [encB], ((Below.refl _ w).alloc (Nat.le_refl _) _).trans (hb.mono (by rw [World.size_alloc]; omega))⟩
  by_cases hn : n = 0 ∨ n = 13
  · have HK := Lib.hid (key 65533 (by omega) (by omega) (by unfold signB; rw [if_pos hn]))
    have ht : (n == 0 || n == 13) = true := by simpa using hn
    clear key
    rcases hn with rfl | rfl
    · go_enter Tryz.func268, Tryz.ntmps268
      go_wp2_with fail
      refine HK.out.mono ?_
      rintro e w1 ⟨rfl, hb⟩
      go_wp2_with fail
      go_ret
      exact ⟨rfl, hb⟩
    · go_enter Tryz.func268, Tryz.ntmps268
      go_wp2_with fail
      refine HK.out.mono ?_
      rintro e w1 ⟨rfl, hb⟩
      go_wp2_with fail
      go_ret
      exact ⟨rfl, hb⟩
  · have HK := Lib.hid (key n (by omega) (by omega) (by unfold signB; rw [if_neg hn]))
    have ht0 : (n == 0) = false := by rw [beq_eq_false_iff_ne]; omega
    have ht1 : (n == 13) = false := by rw [beq_eq_false_iff_ne]; omega
    have hw : IntKind.i32.wrap n = n := IntWalk.i32_in _ (by omega)
    clear key hn
    go_enter Tryz.func268, Tryz.ntmps268
    go_wp2_with fail
    refine HK.out.mono ?_
    rintro e w1 ⟨rfl, hb⟩
    go_wp2_with fail
    go_ret
    exact ⟨rfl, hb⟩

/-- Behind a semicolon, if there is one. -/
def semiN (s : ByteArray) (n : Nat) : Nat := if s.data.toList[n]? = some 59 then n + 1 else n
theorem byte_at {s : ByteArray} {n : Nat} (h : n < s.size) : s.data.toList[n]? = some s[n] := by
  rw [List.getElem?_eq_getElem (by simpa using h)]; rfl

theorem semi_any (s : ByteArray) (n : Nat) (w : World) (hn : n ≤ 1152921504606846976) :
    Calls Tryz.prog 269 #[.string s, .int .i64 n] w fun e w' => e = .returned (.int .i64 (semiN s n)) ∧ w = w' := by
  by_cases h : n < s.size
  · by_cases hc : s[n] = 59
    · have HS := Lib.hid (show semiN s n = n + 1 from by unfold semiN; rw [byte_at h, hc, if_pos rfl])
      have ht : ((s[n].toNat : Int) == 59) = true := by rw [hc]; rfl
      clear hc
      go_enter Tryz.func269, Tryz.ntmps269
      go_wp2_with fail
      go_ret
      exact ⟨by rw [HS.out]; go_num, rfl⟩
    · have HS := Lib.hid (show semiN s n = n from by unfold semiN; rw [byte_at h, if_neg (by simpa using hc)])
      have ht : ((s[n].toNat : Int) == 59) = false := by
        rw [beq_eq_false_iff_ne]
        intro e
        exact hc (UInt8.toNat_inj.1 (by simpa using (by omega : s[n].toNat = 59)))
      clear hc
      go_enter Tryz.func269, Tryz.ntmps269
      go_wp2_with fail
      go_ret
      exact ⟨by rw [HS.out]; rfl, rfl⟩
  · have HS := Lib.hid (show semiN s n = n from by unfold semiN; rw [List.getElem?_eq_none (by simpa using h), if_neg (by simp)])
    go_enter Tryz.func269, Tryz.ntmps269
    go_wp2_with fail
    go_ret
    exact ⟨by rw [HS.out]; rfl, rfl⟩
/-- A letter, a digit or an equals sign? -/
def wordB (b : Int) : Bool := b == 61 || (decide (48 ≤ b) && decide (b ≤ 57)) || (decide (97 ≤ low b) && decide (low b ≤ 122))
theorem word_any (b : UInt8) (w : World) :
    Calls Tryz.prog 271 #[.int .u8 b.toNat] w fun e w' => e = .returned (.bool (wordB b.toNat)) ∧ w = w' := by
  go_enter Tryz.func271, Tryz.ntmps271
  go_wp2_with fail
  all_goals
    go_ret
    refine ⟨retB ?_, rfl⟩
    unfold wordB low
    generalize bits BinOp.or IntKind.u8 (b.toNat : Int) 32 = q at *
    rw [Bool.eq_iff_iff]
    simp only [Bool.or_eq_true, Bool.and_eq_true, decide_eq_true_eq, beq_iff_eq]
    first | omega | (simp_all; done) | (simp_all; omega)
end Go.Proofs.YtegcedboeemedaaGreatDoor

/-
The walk of package entity: number.
-/
namespace Go.Proofs.YtegcedboeemedaaGreatDoor
open Go.RowKit Go.Cl

theorem digN_le (b base : Int) : digN b base ≤ 15 ∧ -1 ≤ digN b base := by
  unfold digN
  dsimp only
  repeat' split
  all_goals omega
/-- The number that digits tell, at most 1<<21, and how many digits there are. -/
def eat (base : Int) : List UInt8 → Int → Int × Nat
  | [], n => (n, 0)
  | b :: r, n => if 0 ≤ digN b.toNat base then ((eat base r (min (base * n + digN b.toNat base) 2097152)).1, (eat base r (min (base * n + digN b.toNat base) 2097152)).2 + 1) else (n, 0)
theorem eat_some {base n : Int} {l : List UInt8} {b : UInt8} {k : Nat} (h : l[k]? = some b) (hd : 0 ≤ digN b.toNat base) :
    eat base (l.drop k) n = ((eat base (l.drop (k + 1)) (min (base * n + digN b.toNat base) 2097152)).1, (eat base (l.drop (k + 1)) (min (base * n + digN b.toNat base) 2097152)).2 + 1) := by
  rw [List.drop_eq_getElem_cons (List.getElem?_eq_some_iff.1 h).1, (List.getElem?_eq_some_iff.1 h).2, eat, if_pos hd]
theorem eat_bad {base n : Int} {l : List UInt8} {b : UInt8} {k : Nat} (h : l[k]? = some b) (hd : ¬ 0 ≤ digN b.toNat base) : eat base (l.drop k) n = (n, 0) := by
  rw [List.drop_eq_getElem_cons (List.getElem?_eq_some_iff.1 h).1, (List.getElem?_eq_some_iff.1 h).2, eat, if_neg hd]
theorem eat_none {base n : Int} {l : List UInt8} {k : Nat} (h : l.length ≤ k) : eat base (l.drop k) n = (n, 0) := by
  rw [List.drop_eq_nil_of_le h]; rfl
theorem eat_le (base : Int) (l : List UInt8) (n : Int) : (eat base l n).2 ≤ l.length := by
  induction l generalizing n with
  | nil => exact Nat.zero_le _
  | cons b r ih =>
    rw [eat]
    split
    · have := ih (min (base * n + digN b.toNat base) 2097152)
      simp only [List.length_cons]
      omega
    · exact Nat.zero_le _

/-- Where digits are told from. -/
def hexB (s : ByteArray) : Bool := match s.data.toList[2]? with | some b => low b.toNat == 120 | none => false
def numE (s : ByteArray) (base : Int) (a : Nat) : ByteArray × Nat :=
  let r := eat base (s.data.toList.drop a) 0
  if r.2 = 0 then (⟨#[]⟩, 0) else (signB r.1, semiN s (a + r.2))
def numB (s : ByteArray) : ByteArray × Nat := if hexB s then numE s 16 3 else numE s 10 2

theorem number_any (s : ByteArray) (w : World) (hs : s.size ≤ 1000000000) :
    Calls Tryz.prog 219 #[.string s] w fun e w' => e = .returned (.tuple #[.string (numB s).1, .int .i64 (numB s).2]) ∧ Below w.heap.size w w' := by
  have hlen : s.data.toList.length = s.size := by simp
  by_cases hh : ∃ h2 : 2 < s.size, low s[2].toNat = 120
  · obtain ⟨h2, hh⟩ := hh
    have HN := Lib.hid (show numB s = numE s 16 3 from by
      have hx : hexB s = true := by
        unfold hexB
        rw [byte_at h2]
        dsimp only
        rw [hh]
        rfl
      unfold numB
      rw [hx]
      rfl)
    have ht : (bits BinOp.or IntKind.u8 (s[2].toNat : Int) 32 == 120) = true := by unfold low at hh; rw [hh]; rfl
    clear hh
    rw [HN.out]
    go_enter Tryz.func219, Tryz.ntmps219
    go_wp2_with fail
    go_loopw [5, 6] (fun i n wr => ∃ (j : Nat) (v : Int), 3 ≤ j ∧ (j = 3 ∨ j ≤ s.size) ∧ i = .int .i64 (j : Int) ∧ n = .int .i64 v ∧ 0 ≤ v ∧ v ≤ 2097152 ∧ w = wr ∧ eat 16 (s.data.toList.drop 3) 0 = ((eat 16 (s.data.toList.drop j) v).1, (eat 16 (s.data.toList.drop j) v).2 + (j - 3))) (fun i _ _ => s.size - (intOf i).toNat)
    case atStart => exact ⟨3, 0, Nat.le_refl _, Or.inl rfl, rfl, rfl, by omega, by omega, rfl, rfl⟩
    case round =>
      obtain ⟨j, v, hj1, hj2, rfl, rfl, hv0, hv1, rfl, he⟩ := hrel
      by_cases hgo : ∃ h : j < s.size, 0 ≤ digN s[j].toNat 16
      · obtain ⟨hlt, hd⟩ := hgo
        have hd15 := (digN_le s[j].toNat 16).1
        have HE := Lib.hid (he.trans (by rw [eat_some (byte_at hlt) hd]))
        have hd' : decide (0 ≤ digN s[j].toNat 16) = true := by simpa using hd
        have HD := Lib.hid (digit_any s[j] 16)
        clear he
        generalize digN (s[j].toNat : Int) 16 = q at *
        go_wp2_with fail
        refine (HD.out _).mono ?_
        rintro e w1 ⟨rfl, rfl⟩
        go_wp2_with fail
        refine (HD.out _).mono ?_
        rintro e w1 ⟨rfl, rfl⟩
        go_wp2_with fail
        go_roundw
        case rel => exact ⟨j + 1, min (16 * v + q) 2097152, by omega, by omega, by go_num, rfl, by omega, by omega, by first | trivial | rfl, HE.out.trans (by congr 1; omega)⟩
        case measure => simp [intOf]; omega
      · have HE := Lib.hid (show eat 16 (s.data.toList.drop 3) 0 = (v, j - 3) from by
          rw [he]
          have h0 : eat 16 (s.data.toList.drop j) v = (v, 0) := by
            by_cases hlt : j < s.size
            · exact eat_bad (byte_at hlt) (fun hd => hgo ⟨hlt, hd⟩)
            · exact eat_none (by omega)
          rw [h0]
          simp)
        have hstop : s.size ≤ j ∨ ∃ h : j < s.size, digN s[j].toNat 16 < 0 := by
          by_cases hlt : j < s.size
          · exact Or.inr ⟨hlt, by have : ¬ 0 ≤ digN s[j].toNat 16 := (fun hd => hgo ⟨hlt, hd⟩); omega⟩
          · exact Or.inl (by omega)
        have hjm : j ≤ 1152921504606846976 := by omega
        clear he hgo
        by_cases hj : j = 3
        · have hj' : ((j : Int) == 3) = true := by simp [hj]
          have HR := Lib.hid (show numE s 16 3 = (⟨#[]⟩, 0) from by unfold numE; rw [HE.out, hj]; rfl)
          clear hj hj2
          rcases hstop with hge | ⟨hlt, hd⟩
          · go_wp2_with fail
            go_ret2
            exact ⟨by rw [HR.out]; rfl, Below.refl _ _⟩
          · have HD := Lib.hid (digit_any s[j] 16)
            have hd' : decide (0 ≤ digN s[j].toNat 16) = false := by simpa using hd
            generalize digN (s[j].toNat : Int) 16 = q at *
            go_wp2_with fail
            refine (HD.out _).mono ?_
            rintro e w1 ⟨rfl, rfl⟩
            go_wp2_with fail
            go_ret2
            exact ⟨by rw [HR.out]; rfl, Below.refl _ _⟩
        · have hj' : ((j : Int) == 3) = false := by rw [beq_eq_false_iff_ne]; omega
          have HR := Lib.hid (show numE s 16 3 = (signB v, semiN s j) from by
            unfold numE
            rw [HE.out]
            dsimp only
            rw [if_neg (by omega), show 3 + (j - 3) = j from by omega])
          have HS := Lib.hid (sign_any v w hv0 hv1)
          have HM := Lib.hid (fun W => semi_any s j W hjm)
          clear hj hj2 hv0 hv1
          rcases hstop with hge | ⟨hlt, hd⟩
          · go_wp2_with fail
            refine HS.out.mono ?_
            rintro e w1 ⟨rfl, hb⟩
            go_wp2_with fail
            refine (HM.out _).mono ?_
            rintro e w2 ⟨rfl, rfl⟩
            go_wp2_with fail
            go_ret2
            exact ⟨by rw [HR.out]; rfl, hb⟩
          · have HD := Lib.hid (digit_any s[j] 16)
            have hd' : decide (0 ≤ digN s[j].toNat 16) = false := by simpa using hd
            generalize digN (s[j].toNat : Int) 16 = q at *
            go_wp2_with fail
            refine (HD.out _).mono ?_
            rintro e w1 ⟨rfl, rfl⟩
            go_wp2_with fail
            refine HS.out.mono ?_
            rintro e w1 ⟨rfl, hb⟩
            go_wp2_with fail
            refine (HM.out _).mono ?_
            rintro e w2 ⟨rfl, rfl⟩
            go_wp2_with fail
            go_ret2
            exact ⟨by rw [HR.out]; rfl, hb⟩

  · have HN := Lib.hid (show numB s = numE s 10 2 from by
      have hx : hexB s = false := by
        unfold hexB
        by_cases h2 : 2 < s.size
        · rw [byte_at h2]
          dsimp only
          rw [beq_eq_false_iff_ne]
          exact fun e => hh ⟨h2, e⟩
        · rw [List.getElem?_eq_none (by omega)]
      unfold numB
      rw [hx]
      rfl)
    rw [HN.out]
    by_cases h2 : 2 < s.size
    · have ht : (bits BinOp.or IntKind.u8 (s[2].toNat : Int) 32 == 120) = false := by
        rw [beq_eq_false_iff_ne]
        exact fun e => hh ⟨h2, e⟩
      clear hh
      go_enter Tryz.func219, Tryz.ntmps219
      go_wp2_with fail
      go_loopw [5, 6] (fun i n wr => ∃ (j : Nat) (v : Int), 2 ≤ j ∧ (j = 2 ∨ j ≤ s.size) ∧ i = .int .i64 (j : Int) ∧ n = .int .i64 v ∧ 0 ≤ v ∧ v ≤ 2097152 ∧ w = wr ∧ eat 10 (s.data.toList.drop 2) 0 = ((eat 10 (s.data.toList.drop j) v).1, (eat 10 (s.data.toList.drop j) v).2 + (j - 2))) (fun i _ _ => s.size - (intOf i).toNat)
      case atStart => exact ⟨2, 0, Nat.le_refl _, Or.inl rfl, rfl, rfl, by omega, by omega, rfl, rfl⟩
      case round =>
        obtain ⟨j, v, hj1, hj2, rfl, rfl, hv0, hv1, rfl, he⟩ := hrel
        by_cases hgo : ∃ h : j < s.size, 0 ≤ digN s[j].toNat 10
        · obtain ⟨hlt, hd⟩ := hgo
          have hd15 := (digN_le s[j].toNat 10).1
          have HE := Lib.hid (he.trans (by rw [eat_some (byte_at hlt) hd]))
          have hd' : decide (0 ≤ digN s[j].toNat 10) = true := by simpa using hd
          have HD := Lib.hid (digit_any s[j] 10)
          clear he
          generalize digN (s[j].toNat : Int) 10 = q at *
          go_wp2_with fail
          refine (HD.out _).mono ?_
          rintro e w1 ⟨rfl, rfl⟩
          go_wp2_with fail
          refine (HD.out _).mono ?_
          rintro e w1 ⟨rfl, rfl⟩
          go_wp2_with fail
          go_roundw
          case rel => exact ⟨j + 1, min (10 * v + q) 2097152, by omega, by omega, by go_num, rfl, by omega, by omega, by first | trivial | rfl, HE.out.trans (by congr 1; omega)⟩
          case measure => simp [intOf]; omega
        · have HE := Lib.hid (show eat 10 (s.data.toList.drop 2) 0 = (v, j - 2) from by
            rw [he]
            have h0 : eat 10 (s.data.toList.drop j) v = (v, 0) := by
              by_cases hlt : j < s.size
              · exact eat_bad (byte_at hlt) (fun hd => hgo ⟨hlt, hd⟩)
              · exact eat_none (by omega)
            rw [h0]
            simp)
          have hstop : s.size ≤ j ∨ ∃ h : j < s.size, digN s[j].toNat 10 < 0 := by
            by_cases hlt : j < s.size
            · exact Or.inr ⟨hlt, by have : ¬ 0 ≤ digN s[j].toNat 10 := (fun hd => hgo ⟨hlt, hd⟩); omega⟩
            · exact Or.inl (by omega)
          have hjm : j ≤ 1152921504606846976 := by omega
          clear he hgo
          by_cases hj : j = 2
          · have hj' : ((j : Int) == 2) = true := by simp [hj]
            have HR := Lib.hid (show numE s 10 2 = (⟨#[]⟩, 0) from by unfold numE; rw [HE.out, hj]; rfl)
            clear hj hj2
            rcases hstop with hge | ⟨hlt, hd⟩
            · go_wp2_with fail
              go_ret2
              exact ⟨by rw [HR.out]; rfl, Below.refl _ _⟩
            · have HD := Lib.hid (digit_any s[j] 10)
              have hd' : decide (0 ≤ digN s[j].toNat 10) = false := by simpa using hd
              generalize digN (s[j].toNat : Int) 10 = q at *
              go_wp2_with fail
              refine (HD.out _).mono ?_
              rintro e w1 ⟨rfl, rfl⟩
              go_wp2_with fail
              go_ret2
              exact ⟨by rw [HR.out]; rfl, Below.refl _ _⟩
          · have hj' : ((j : Int) == 2) = false := by rw [beq_eq_false_iff_ne]; omega
            have HR := Lib.hid (show numE s 10 2 = (signB v, semiN s j) from by
              unfold numE
              rw [HE.out]
              dsimp only
              rw [if_neg (by omega), show 2 + (j - 2) = j from by omega])
            have HS := Lib.hid (sign_any v w hv0 hv1)
            have HM := Lib.hid (fun W => semi_any s j W hjm)
            clear hj hj2 hv0 hv1
            rcases hstop with hge | ⟨hlt, hd⟩
            · go_wp2_with fail
              refine HS.out.mono ?_
              rintro e w1 ⟨rfl, hb⟩
              go_wp2_with fail
              refine (HM.out _).mono ?_
              rintro e w2 ⟨rfl, rfl⟩
              go_wp2_with fail
              go_ret2
              exact ⟨by rw [HR.out]; rfl, hb⟩
            · have HD := Lib.hid (digit_any s[j] 10)
              have hd' : decide (0 ≤ digN s[j].toNat 10) = false := by simpa using hd
              generalize digN (s[j].toNat : Int) 10 = q at *
              go_wp2_with fail
              refine (HD.out _).mono ?_
              rintro e w1 ⟨rfl, rfl⟩
              go_wp2_with fail
              refine HS.out.mono ?_
              rintro e w1 ⟨rfl, hb⟩
              go_wp2_with fail
              refine (HM.out _).mono ?_
              rintro e w2 ⟨rfl, rfl⟩
              go_wp2_with fail
              go_ret2
              exact ⟨by rw [HR.out]; rfl, hb⟩

    · clear hh
      go_enter Tryz.func219, Tryz.ntmps219
      go_wp2_with fail
      go_loopw [5, 6] (fun i n wr => ∃ (j : Nat) (v : Int), 2 ≤ j ∧ (j = 2 ∨ j ≤ s.size) ∧ i = .int .i64 (j : Int) ∧ n = .int .i64 v ∧ 0 ≤ v ∧ v ≤ 2097152 ∧ w = wr ∧ eat 10 (s.data.toList.drop 2) 0 = ((eat 10 (s.data.toList.drop j) v).1, (eat 10 (s.data.toList.drop j) v).2 + (j - 2))) (fun i _ _ => s.size - (intOf i).toNat)
      case atStart => exact ⟨2, 0, Nat.le_refl _, Or.inl rfl, rfl, rfl, by omega, by omega, rfl, rfl⟩
      case round =>
        obtain ⟨j, v, hj1, hj2, rfl, rfl, hv0, hv1, rfl, he⟩ := hrel
        by_cases hgo : ∃ h : j < s.size, 0 ≤ digN s[j].toNat 10
        · obtain ⟨hlt, hd⟩ := hgo
          have hd15 := (digN_le s[j].toNat 10).1
          have HE := Lib.hid (he.trans (by rw [eat_some (byte_at hlt) hd]))
          have hd' : decide (0 ≤ digN s[j].toNat 10) = true := by simpa using hd
          have HD := Lib.hid (digit_any s[j] 10)
          clear he
          generalize digN (s[j].toNat : Int) 10 = q at *
          go_wp2_with fail
          refine (HD.out _).mono ?_
          rintro e w1 ⟨rfl, rfl⟩
          go_wp2_with fail
          refine (HD.out _).mono ?_
          rintro e w1 ⟨rfl, rfl⟩
          go_wp2_with fail
          go_roundw
          case rel => exact ⟨j + 1, min (10 * v + q) 2097152, by omega, by omega, by go_num, rfl, by omega, by omega, by first | trivial | rfl, HE.out.trans (by congr 1; omega)⟩
          case measure => simp [intOf]; omega
        · have HE := Lib.hid (show eat 10 (s.data.toList.drop 2) 0 = (v, j - 2) from by
            rw [he]
            have h0 : eat 10 (s.data.toList.drop j) v = (v, 0) := by
              by_cases hlt : j < s.size
              · exact eat_bad (byte_at hlt) (fun hd => hgo ⟨hlt, hd⟩)
              · exact eat_none (by omega)
            rw [h0]
            simp)
          have hstop : s.size ≤ j ∨ ∃ h : j < s.size, digN s[j].toNat 10 < 0 := by
            by_cases hlt : j < s.size
            · exact Or.inr ⟨hlt, by have : ¬ 0 ≤ digN s[j].toNat 10 := (fun hd => hgo ⟨hlt, hd⟩); omega⟩
            · exact Or.inl (by omega)
          have hjm : j ≤ 1152921504606846976 := by omega
          clear he hgo
          by_cases hj : j = 2
          · have hj' : ((j : Int) == 2) = true := by simp [hj]
            have HR := Lib.hid (show numE s 10 2 = (⟨#[]⟩, 0) from by unfold numE; rw [HE.out, hj]; rfl)
            clear hj hj2
            rcases hstop with hge | ⟨hlt, hd⟩
            · go_wp2_with fail
              go_ret2
              exact ⟨by rw [HR.out]; rfl, Below.refl _ _⟩
            · have HD := Lib.hid (digit_any s[j] 10)
              have hd' : decide (0 ≤ digN s[j].toNat 10) = false := by simpa using hd
              generalize digN (s[j].toNat : Int) 10 = q at *
              go_wp2_with fail
              refine (HD.out _).mono ?_
              rintro e w1 ⟨rfl, rfl⟩
              go_wp2_with fail
              go_ret2
              exact ⟨by rw [HR.out]; rfl, Below.refl _ _⟩
          · have hj' : ((j : Int) == 2) = false := by rw [beq_eq_false_iff_ne]; omega
            have HR := Lib.hid (show numE s 10 2 = (signB v, semiN s j) from by
              unfold numE
              rw [HE.out]
              dsimp only
              rw [if_neg (by omega), show 2 + (j - 2) = j from by omega])
            have HS := Lib.hid (sign_any v w hv0 hv1)
            have HM := Lib.hid (fun W => semi_any s j W hjm)
            clear hj hj2 hv0 hv1
            rcases hstop with hge | ⟨hlt, hd⟩
            · go_wp2_with fail
              refine HS.out.mono ?_
              rintro e w1 ⟨rfl, hb⟩
              go_wp2_with fail
              refine (HM.out _).mono ?_
              rintro e w2 ⟨rfl, rfl⟩
              go_wp2_with fail
              go_ret2
              exact ⟨by rw [HR.out]; rfl, hb⟩
            · have HD := Lib.hid (digit_any s[j] 10)
              have hd' : decide (0 ≤ digN s[j].toNat 10) = false := by simpa using hd
              generalize digN (s[j].toNat : Int) 10 = q at *
              go_wp2_with fail
              refine (HD.out _).mono ?_
              rintro e w1 ⟨rfl, rfl⟩
              go_wp2_with fail
              refine HS.out.mono ?_
              rintro e w1 ⟨rfl, hb⟩
              go_wp2_with fail
              refine (HM.out _).mono ?_
              rintro e w2 ⟨rfl, rfl⟩
              go_wp2_with fail
              go_ret2
              exact ⟨by rw [HR.out]; rfl, hb⟩

end Go.Proofs.YtegcedboeemedaaGreatDoor

/-
The walks of package entity: names, named, Find, read, Text, Value.
-/
namespace Go.Proofs.YtegcedboeemedaaGreatDoor
open Go.RowKit Go.Cl

/-- A name of the table: its word, its sign, and whether it needs no semicolon. -/
abbrev Nam := ByteArray × Int × Bool
def tNam : Ty Nam := tPair tStr (tPair (tInt .i32) tBool)
def namesL : List Nam := [((⟨#[97, 109, 112]⟩ : ByteArray), 38, true), ((⟨#[108, 116]⟩ : ByteArray), 60, true), ((⟨#[103, 116]⟩ : ByteArray), 62, true), ((⟨#[113, 117, 111, 116]⟩ : ByteArray), 34, true), ((⟨#[110, 98, 115, 112]⟩ : ByteArray), 160, true), ((⟨#[99, 111, 112, 121]⟩ : ByteArray), 169, true), ((⟨#[114, 101, 103]⟩ : ByteArray), 174, true), ((⟨#[116, 105, 109, 101, 115]⟩ : ByteArray), 215, true), ((⟨#[100, 105, 118, 105, 100, 101]⟩ : ByteArray), 247, true), ((⟨#[101, 97, 99, 117, 116, 101]⟩ : ByteArray), 233, true), ((⟨#[97, 117, 109, 108]⟩ : ByteArray), 228, true), ((⟨#[111, 117, 109, 108]⟩ : ByteArray), 246, true), ((⟨#[117, 117, 109, 108]⟩ : ByteArray), 252, true), ((⟨#[115, 122, 108, 105, 103]⟩ : ByteArray), 223, true), ((⟨#[121, 101, 110]⟩ : ByteArray), 165, true), ((⟨#[99, 101, 110, 116]⟩ : ByteArray), 162, true), ((⟨#[112, 111, 117, 110, 100]⟩ : ByteArray), 163, true), ((⟨#[115, 101, 99, 116]⟩ : ByteArray), 167, true), ((⟨#[112, 97, 114, 97]⟩ : ByteArray), 182, true), ((⟨#[109, 105, 100, 100, 111, 116]⟩ : ByteArray), 183, true), ((⟨#[110, 111, 116]⟩ : ByteArray), 172, true), ((⟨#[100, 101, 103]⟩ : ByteArray), 176, true), ((⟨#[102, 114, 97, 99, 49, 50]⟩ : ByteArray), 189, true), ((⟨#[102, 114, 97, 99, 49, 52]⟩ : ByteArray), 188, true), ((⟨#[97, 112, 111, 115]⟩ : ByteArray), 39, false), ((⟨#[104, 101, 108, 108, 105, 112]⟩ : ByteArray), 8230, false), ((⟨#[109, 100, 97, 115, 104]⟩ : ByteArray), 8212, false), ((⟨#[110, 100, 97, 115, 104]⟩ : ByteArray), 8211, false), ((⟨#[108, 115, 113, 117, 111]⟩ : ByteArray), 8216, false), ((⟨#[114, 115, 113, 117, 111]⟩ : ByteArray), 8217, false), ((⟨#[108, 100, 113, 117, 111]⟩ : ByteArray), 8220, false), ((⟨#[114, 100, 113, 117, 111]⟩ : ByteArray), 8221, false), ((⟨#[98, 117, 108, 108]⟩ : ByteArray), 8226, false), ((⟨#[101, 117, 114, 111]⟩ : ByteArray), 8364, false), ((⟨#[116, 114, 97, 100, 101]⟩ : ByteArray), 8482, false), ((⟨#[108, 97, 114, 114]⟩ : ByteArray), 8592, false), ((⟨#[114, 97, 114, 114]⟩ : ByteArray), 8594, false), ((⟨#[105, 110, 102, 105, 110]⟩ : ByteArray), 8734, false), ((⟨#[110, 101]⟩ : ByteArray), 8800, false), ((⟨#[108, 101]⟩ : ByteArray), 8804, false), ((⟨#[103, 101]⟩ : ByteArray), 8805, false), ((⟨#[110, 111, 116, 105, 110]⟩ : ByteArray), 8713, false), ((⟨#[97, 108, 112, 104, 97]⟩ : ByteArray), 945, false), ((⟨#[98, 101, 116, 97]⟩ : ByteArray), 946, false), ((⟨#[112, 105]⟩ : ByteArray), 960, false), ((⟨#[115, 117, 109]⟩ : ByteArray), 8721, false), ((⟨#[109, 105, 110, 117, 115]⟩ : ByteArray), 8722, false), ((⟨#[108, 97, 110, 103]⟩ : ByteArray), 10216, false)]
def namCells (x : Nam) : List Value := [.string x.1, .int .i32 x.2.1, .bool x.2.2]
def namesC : List Value := namesL.flatMap namCells
theorem nam_row (w : World) (D : Nat → Prop) (l : List Nam) (h : ∀ x ∈ l, x.1.size ≤ 1152921504606846976 ∧ (Lit.int .i32 x.2.1).wf = true) : Row tNam w D l (l.flatMap namCells) := by
  induction l with
  | nil => rfl
  | cons x l ih =>
    have hx := h x (List.mem_cons_self ..)
    exact ⟨namCells x, l.flatMap namCells, rfl, ⟨[.string x.1], [.int .i32 x.2.1, .bool x.2.2], rfl, ⟨rfl, hx.1⟩, [.int .i32 x.2.1], [.bool x.2.2], rfl, ⟨rfl, hx.2⟩, rfl⟩, ih (fun y hy => h y (List.mem_cons_of_mem _ hy))⟩
theorem nam_good : ∀ x ∈ namesL, x.1.size ≤ 1152921504606846976 ∧ (Lit.int .i32 x.2.1).wf = true ∧ 0 ≤ x.2.1 ∧ x.2.1 ≤ 2097152 := by decide +kernel
theorem nam_len : namesL.length = 48 := by decide +kernel

set_option maxHeartbeats 4000000 in
set_option maxRecDepth 100000 in
theorem names_any (w : World) :
    Calls Tryz.prog 270 #[] w fun e w' => e = .returned (.slice (some ⟨w.heap.size, 0, none⟩) 48 48) ∧ w' = w.alloc (.cells namesC.toArray 283) := by
  have hI : ((Tryz.prog).info? 283).map (fun i => (i.zero, i.size, i.bytes)) = some (some (.agg #[.string ⟨#[]⟩, .int .i32 0, .bool false]), 3, 24) := by kernel_rfl
  obtain ⟨i0, hi, hz0, hz1, hz2⟩ := info_parts hI
  go_enter Tryz.func270, Tryz.ntmps270
  go_wp2_with (refine wpList_buildSlice rfl 280 283 48 _ rfl namesC.toArray i0 _ Tryz.underlying280 hi hz0 (by rw [hz1]; decide) (by rw [hz1]; decide) (by rw [hz1]; kernel_rfl) ?_)
  go_ret
  exact ⟨rfl, rfl⟩
end Go.Proofs.YtegcedboeemedaaGreatDoor

/-
The walks of package entity: named, Find.
-/
namespace Go.Proofs.YtegcedboeemedaaGreatDoor
open Go.RowKit Go.Cl

/-- One name tried. -/
def nstep (s : ByteArray) (a : ByteArray × Nat) (x : Nam) : ByteArray × Nat :=
  if Lib.hasPrefix (s.data.toList.drop 1) x.1.data.toList then
    (if (semiN s (x.1.size + 1) == x.1.size + 1 && !x.2.2) || decide (semiN s (x.1.size + 1) ≤ a.2) then a else (signB x.2.1, semiN s (x.1.size + 1)))
  else a
def namedF (s : ByteArray) : ByteArray × Nat := namesL.foldl (nstep s) (⟨#[]⟩, 0)
/-- Is it no reference in an attribute's value? -/
def cutB (s : ByteArray) (n : Nat) : Bool := s.data.toList[n - 1]? != some 59 && (match s.data.toList[n]? with | some b => wordB b.toNat | none => false)
def namedB (s : ByteArray) (attr : Bool) : ByteArray × Nat := if attr && decide (0 < (namedF s).2) && cutB s (namedF s).2 then (⟨#[]⟩, 0) else namedF s
theorem drop_one (s : ByteArray) : (s.extract 1 s.size).data.toList = s.data.toList.drop 1 := by
  rw [ByteArray.data_extract, Array.toList_extract, List.extract_eq_take_drop]
  exact List.take_of_length_le (by simp)
theorem prefix_size {s : ByteArray} {p : ByteArray} (h1 : 1 ≤ s.size) (h : Lib.hasPrefix (s.data.toList.drop 1) p.data.toList = true) : p.size + 1 ≤ s.size := by
  unfold Lib.hasPrefix at h
  have := (List.isPrefixOf_iff_prefix.1 h).length_le
  simp at this
  omega
theorem step_skip {s : ByteArray} {a : ByteArray × Nat} {x : Nam} (h : Lib.hasPrefix (s.data.toList.drop 1) x.1.data.toList = true → (semiN s (x.1.size + 1) = x.1.size + 1 ∧ x.2.2 = false) ∨ semiN s (x.1.size + 1) ≤ a.2) : nstep s a x = a := by
  unfold nstep
  split
  · rename_i hp
    rw [if_pos]
    rcases h hp with ⟨h1, h2⟩ | h1
    · rw [h1, h2]; simp
    · simp [h1]
  · rfl
theorem step_take {s : ByteArray} {a : ByteArray × Nat} {x : Nam} (hp : Lib.hasPrefix (s.data.toList.drop 1) x.1.data.toList = true) (h1 : ¬ (semiN s (x.1.size + 1) = x.1.size + 1 ∧ x.2.2 = false)) (h2 : ¬ semiN s (x.1.size + 1) ≤ a.2) : nstep s a x = (signB x.2.1, semiN s (x.1.size + 1)) := by
  unfold nstep
  rw [if_pos hp, if_neg]
  simp only [Bool.or_eq_true, Bool.and_eq_true, beq_iff_eq, Bool.not_eq_true', decide_eq_true_eq, not_or]
  exact ⟨h1, h2⟩
theorem semi_le {s : ByteArray} {n : Nat} (h : n ≤ s.size) : semiN s n ≤ s.size ∧ n ≤ semiN s n := by
  unfold semiN
  split
  · rename_i h1
    have := (List.getElem?_eq_some_iff.1 h1).1
    simp at this
    omega
  · exact ⟨h, Nat.le_refl _⟩
theorem below_dr {B : Nat} {a w : World} (h : Below B a w) (n : Nat) : Below B a (w.drewN n) := h.trans ⟨rfl, rfl, rfl, Nat.le_refl _, fun _ _ => rfl⟩
theorem fold_snoc (s : ByteArray) {k : Nat} {x : Nam} (hx : namesL[k]? = some x) : (namesL.take (k + 1)).foldl (nstep s) (⟨#[]⟩, 0) = nstep s ((namesL.take k).foldl (nstep s) (⟨#[]⟩, 0)) x := by
  rw [List.take_add_one, hx, List.foldl_append]
  rfl

set_option maxRecDepth 100000 in
theorem named_any (s : ByteArray) (attr : Bool) (w : World) (h1 : 1 ≤ s.size) (hs : s.size ≤ 1000000000) :
    Calls Tryz.prog 220 #[.string s, .bool attr] w fun e w' => e = .returned (.tuple #[.string (namedB s attr).1, .int .i64 (namedB s attr).2]) ∧ Below w.heap.size w w' := by
  go_enter Tryz.func220, Tryz.ntmps220
  go_wp2_with fail
  refine (names_any w).mono ?_
  rintro e w1 ⟨rfl, rfl⟩
  have hb1 : Below w.heap.size w (w.alloc (.cells namesC.toArray 283)) := (Below.refl _ _).alloc (Nat.le_refl _) _
  have hz1 : (w.alloc (.cells namesC.toArray 283)).heap.size = w.heap.size + 1 := World.size_alloc _ _
  have HN : Hid (∀ (j : Nat) (u : Value), namesC[j]? = some u → (w.alloc (.cells namesC.toArray 283)).cell? ⟨w.heap.size, j, none⟩ = some u) := fun j u hu => by
    have := cell_new w namesC 283 j u hu
    rwa [Nat.zero_add] at this
  generalize w.alloc (.cells namesC.toArray 283) = w1 at *
  go_wp2_with fail
  go_loopw [6, 7, 9, 10, 11, 14] (fun t m _ _ _ i wr => ∃ (k : Nat) (a : ByteArray × Nat), k ≤ 48 ∧ i = .int .i64 (k : Int) ∧ t = .string a.1 ∧ m = .int .i64 (a.2 : Int) ∧ a = (namesL.take k).foldl (nstep s) (⟨#[]⟩, 0) ∧ a.2 ≤ s.size ∧ Below w1.heap.size w1 wr) (fun _ _ _ _ _ i _ => 48 - (intOf i).toNat)
  case atStart => exact ⟨0, (⟨#[]⟩, 0), Nat.zero_le _, rfl, rfl, rfl, rfl, Nat.zero_le _, Below.refl _ _⟩
  case round =>
    obtain ⟨k, a, hk, rfl, rfl, rfl, ha, ham, hb⟩ := hrel
    by_cases hlt : k < 48
    · obtain ⟨x, hx⟩ : ∃ x, namesL[k]? = some x := get_some (by rw [nam_len]; exact hlt)
      obtain ⟨cs, hcs, hcj⟩ := (nam_row w1 (fun _ => True) namesL (fun x hx => ⟨(nam_good x hx).1, (nam_good x hx).2.1⟩)).at_ hx
      have hxg := nam_good x (List.mem_of_getElem? hx)
      obtain ⟨c1, c2, rfl, ⟨rfl, _⟩, c3, c4, rfl, ⟨rfl, _⟩, rfl⟩ := hcs
      have hlt1 : w.heap.size < w1.heap.size := by omega
      have n0 : wr.cell? ⟨w.heap.size, k * 3, none⟩ = some (.string x.1) := (hb.cell hlt1).trans (HN.out _ _ (hcj 0 _ rfl))
      have n1 : wr.cell? ⟨w.heap.size, k * 3 + 1, none⟩ = some (.int .i32 x.2.1) := (hb.cell hlt1).trans (HN.out _ _ (hcj 1 _ rfl))
      have n2 : wr.cell? ⟨w.heap.size, k * 3 + 2, none⟩ = some (.bool x.2.2) := (hb.cell hlt1).trans (HN.out _ _ (hcj 2 _ rfl))
      have HF := Lib.hid (fold_snoc s hx)
      rw [← ha] at HF
      clear hcj hx ha
      have hw0 : Below w1.heap.size w1 (wr.alloc (.cells #[.string x.1, .int .i32 x.2.1, .bool x.2.2] 283)) := hb.alloc hb.size _
      cases hp : Lib.hasPrefix (s.data.toList.drop 1) x.1.data.toList
      · have HP : Hid (∀ W, Calls Tryz.prog 76 #[.string (s.extract 1 s.size), .string x.1] W fun e w' => e = .returned (.bool false) ∧ w' = W) := fun W => by
          have h := Tryz.strings_HasPrefix (s.extract 1 s.size) x.1 W
          rwa [drop_one, hp] at h
        have HS := Lib.hid (step_skip (s := s) (a := a) (x := x) (by rw [hp]; intro h; cases h))
        clear hp
        go_wp2_with fail
        go_quiet ((go_at_call 76; exact Calls.quiet_of_same (HP.out _)))
        go_wp2_with fail
        go_roundw
        case rel => exact ⟨k + 1, a, by omega, by go_num, rfl, rfl, by rw [HF.out, HS.out], ham, below_dr hw0 _⟩
        case measure => simp [intOf]; omega
      · have HP : Hid (∀ W, Calls Tryz.prog 76 #[.string (s.extract 1 s.size), .string x.1] W fun e w' => e = .returned (.bool true) ∧ w' = W) := fun W => by
          have h := Tryz.strings_HasPrefix (s.extract 1 s.size) x.1 W
          rwa [drop_one, hp] at h
        have hps := prefix_size h1 hp
        obtain ⟨hq1, hq2⟩ := semi_le hps
        have HSK := Lib.hid (step_skip (s := s) (a := a) (x := x))
        have HST := Lib.hid (step_take (s := s) (a := a) (x := x) hp)
        have HM := Lib.hid (fun W => semi_any s (x.1.size + 1) W (by omega))
        clear hp
        generalize semiN s (x.1.size + 1) = q at *
        go_wp2_with fail
        go_quiet ((go_at_call 76; exact Calls.quiet_of_same (HP.out _)))
        go_wp2_with fail
        refine (HM.out _).mono ?_
        rintro e w2 ⟨rfl, rfl⟩
        have HW := Lib.hid (show ∀ b : Bool, Below w1.heap.size w1 ((wr.alloc (.cells #[.string x.1, .int .i32 x.2.1, .bool b] 283)).drewN nq) from fun b => below_dr (hb.alloc hb.size _) nq)
        have hz0 : (wr.alloc (.cells #[.string x.1, .int .i32 x.2.1, .bool x.2.2] 283)).heap.size = wr.heap.size + 1 := World.size_alloc _ _
        have HSG := Lib.hid (fun b : Bool => sign_any x.2.1 ((wr.alloc (.cells #[.string x.1, .int .i32 x.2.1, .bool b] 283)).drewN nq) hxg.2.2.1 hxg.2.2.2)
        have hsg := hxg.2.2
        by_cases hle : q ≤ a.2
        · have HS := Lib.hid (HSK.out (fun _ => Or.inr hle))
          go_wp2_with fail
          all_goals
            go_roundw
            case rel => exact ⟨k + 1, a, by omega, by go_num, rfl, rfl, by rw [HF.out, HS.out], ham, HW.out _⟩
            case measure => simp [intOf]; omega
        · by_cases hqe : q = x.1.size + 1 ∧ x.2.2 = false
          · have HS := Lib.hid (HSK.out (fun _ => Or.inl hqe))
            obtain ⟨hq3, hq4⟩ := hqe
            rw [hq4]
            go_wp2_with fail
            all_goals
              go_roundw
              case rel => exact ⟨k + 1, a, by omega, by go_num, rfl, rfl, by rw [HF.out, HS.out], ham, HW.out _⟩
              case measure => simp [intOf]; omega
          · have HS := Lib.hid (HST.out hqe hle)
            by_cases hq3 : q = x.1.size + 1
            · have hq4 : x.2.2 = true := by
                cases h : x.2.2
                · exact absurd ⟨hq3, h⟩ hqe
                · rfl
              rw [hq4]
              go_wp2_with fail
              refine (HSG.out _).mono ?_
              rintro e w3 ⟨rfl, hb3⟩
              go_wp2_with fail
              go_roundw
              case rel => exact ⟨k + 1, (signB x.2.1, q), by omega, by go_num, rfl, by show _ = Value.int IntKind.i64 (q : Int); rw [hq3]; rfl, by rw [HF.out, HS.out], hq1, (HW.out _).trans (hb3.mono (HW.out _).size)⟩
              case measure => simp [intOf]; omega
            · go_wp2_with fail
              refine (HSG.out _).mono ?_
              rintro e w3 ⟨rfl, hb3⟩
              go_wp2_with fail
              go_roundw
              case rel => exact ⟨k + 1, (signB x.2.1, q), by omega, by go_num, rfl, rfl, by rw [HF.out, HS.out], hq1, (HW.out _).trans (hb3.mono (HW.out _).size)⟩
              case measure => simp [intOf]; omega
    · have hk48 : namesL.take k = namesL := List.take_of_length_le (by rw [nam_len]; omega)
      rw [hk48] at ha
      have HNF := Lib.hid (show namedF s = a from ha.symm)
      have HB := Lib.hid (hb1.trans (hb.mono (by omega)))
      clear hb ha hk48 hb1 hz1 HN
      obtain ⟨t, m⟩ := a
      have ham' : m ≤ s.size := ham
      clear ham
      cases attr
      · have HR := Lib.hid (show namedB s false = (t, m) from by unfold namedB; rw [HNF.out]; rfl)
        go_wp2_with fail
        go_ret2
        exact ⟨by rw [HR.out]; rfl, HB.out⟩
      · by_cases hm0 : m = 0
        · have HR := Lib.hid (show namedB s true = (t, m) from by unfold namedB; rw [HNF.out, hm0]; rfl)
          go_wp2_with fail
          go_ret2
          exact ⟨by rw [HR.out]; rfl, HB.out⟩
        · obtain ⟨j, rfl⟩ : ∃ j, m = j + 1 := ⟨m - 1, by omega⟩
          have hj : j < s.size := by omega
          by_cases h59 : s[j] = 59
          · have HR := Lib.hid (show namedB s true = (t, j + 1) from by unfold namedB cutB; rw [HNF.out]; simp [byte_at hj, h59])
            have hne : ((s[j].toNat : Int) != 59) = false := by rw [h59]; rfl
            go_wp2_with fail
            go_ret2
            exact ⟨by rw [HR.out]; rfl, HB.out⟩
          · have hne : ((s[j].toNat : Int) != 59) = true := by
              rw [bne_iff_ne]
              intro e
              exact h59 (UInt8.toNat_inj.1 (by simpa using (by omega : s[j].toNat = 59)))
            by_cases hlt : j + 1 < s.size
            · have HWD := Lib.hid (word_any s[j + 1])
              cases hwd : wordB s[j + 1].toNat
              · have HR := Lib.hid (show namedB s true = (t, j + 1) from by unfold namedB cutB; rw [HNF.out]; simp [byte_at hlt, hwd])
                clear h59
                go_wp2_with fail
                refine (HWD.out _).mono ?_
                rintro e w3 ⟨rfl, rfl⟩
                rw [hwd]
                go_wp2_with fail
                go_ret2
                exact ⟨by rw [HR.out]; rfl, HB.out⟩
              · have HR := Lib.hid (show namedB s true = (⟨#[]⟩, 0) from by unfold namedB cutB; rw [HNF.out]; simp [byte_at hlt, byte_at hj, hwd, h59])
                clear h59
                go_wp2_with fail
                refine (HWD.out _).mono ?_
                rintro e w3 ⟨rfl, rfl⟩
                rw [hwd]
                go_wp2_with fail
                go_ret2
                exact ⟨by rw [HR.out]; rfl, HB.out⟩
            · have HR := Lib.hid (show namedB s true = (t, j + 1) from by unfold namedB cutB; rw [HNF.out]; simp [List.getElem?_eq_none (show s.data.toList.length ≤ j + 1 by simp; omega)])
              clear h59
              go_wp2_with fail
              go_ret2
              exact ⟨by rw [HR.out]; rfl, HB.out⟩
end Go.Proofs.YtegcedboeemedaaGreatDoor

/-
The walks of package entity: Find, read, Text, Value.
-/
namespace Go.Proofs.YtegcedboeemedaaGreatDoor
open Go.RowKit Go.Cl

/-- A reference at the beginning. -/
def findB (s : ByteArray) (attr : Bool) : ByteArray × Nat :=
  if s.data.toList[0]? = some 38 then (if s.data.toList[1]? = some 35 then numB s else namedB s attr) else (⟨#[]⟩, 0)

theorem sign_size (n : Int) : (signB n).size ≤ 4 := by
  have h : ∀ r : Int, (ByteArray.mk (Lib.encodeRune r).toArray).size ≤ 4 := fun r => by
    have := enc_rune_le r
    simpa [ByteArray.size] using this
  exact h _
theorem numE_le (s : ByteArray) (base : Int) (a : Nat) : (numE s base a).2 ≤ s.size ∧ (numE s base a).1.size ≤ 4 := by
  unfold numE
  dsimp only
  split
  · exact ⟨Nat.zero_le _, by decide⟩
  · have h := eat_le base (s.data.toList.drop a) 0
    simp at h
    exact ⟨(semi_le (by omega)).1, sign_size _⟩
theorem num_le (s : ByteArray) : (numB s).2 ≤ s.size ∧ (numB s).1.size ≤ 4 := by
  unfold numB
  split <;> exact numE_le _ _ _
theorem step_le {s : ByteArray} (h1 : 1 ≤ s.size) {a : ByteArray × Nat} (x : Nam) (h : a.2 ≤ s.size ∧ a.1.size ≤ 4) : (nstep s a x).2 ≤ s.size ∧ (nstep s a x).1.size ≤ 4 := by
  unfold nstep
  split
  · rename_i hp
    split
    · exact h
    · exact ⟨(semi_le (prefix_size h1 hp)).1, sign_size _⟩
  · exact h
theorem fold_le {s : ByteArray} (h1 : 1 ≤ s.size) (l : List Nam) (a : ByteArray × Nat) (h : a.2 ≤ s.size ∧ a.1.size ≤ 4) : (l.foldl (nstep s) a).2 ≤ s.size ∧ (l.foldl (nstep s) a).1.size ≤ 4 := by
  induction l generalizing a with
  | nil => exact h
  | cons x l ih => exact ih _ (step_le h1 x h)
theorem named_le {s : ByteArray} (h1 : 1 ≤ s.size) (attr : Bool) : (namedB s attr).2 ≤ s.size ∧ (namedB s attr).1.size ≤ 4 := by
  unfold namedB
  split
  · exact ⟨Nat.zero_le _, by decide⟩
  · exact fold_le h1 namesL _ ⟨Nat.zero_le _, by decide⟩
theorem find_le {s : ByteArray} (h1 : 1 ≤ s.size) (attr : Bool) : (findB s attr).2 ≤ s.size ∧ (findB s attr).1.size ≤ 4 := by
  unfold findB
  split
  · split
    · exact num_le s
    · exact named_le h1 attr
  · exact ⟨Nat.zero_le _, by decide⟩

theorem empty_of {s : ByteArray} (h : s.size = 0) : s.toList.isEmpty = true := by
  rw [ByteArray.toList_eq]
  have : s.data.toList.length = 0 := by simpa using h
  rw [List.eq_nil_of_length_eq_zero this]; rfl
theorem nempty_of {s : ByteArray} (h : 0 < s.size) : s.toList.isEmpty = false := by
  rw [ByteArray.toList_eq]
  cases hl : s.data.toList with
  | nil => have : s.data.toList.length = s.size := by simp
           rw [hl] at this; simp at this; omega
  | cons => rfl
theorem byte_test {b : UInt8} {k : Nat} (hk : k < 256) (h : b ≠ k.toUInt8) : ((b.toNat : Int) == (k : Int)) = false := by
  rw [beq_eq_false_iff_ne]
  intro e
  apply h
  apply UInt8.toNat_inj.1
  have : b.toNat = k := by omega
  rw [this]
  simp
  omega

theorem find_any (s : ByteArray) (attr : Bool) (w : World) (hs : s.size ≤ 1000000000) :
    Calls Tryz.prog 176 #[.string s, .bool attr] w fun e w' => e = .returned (.tuple #[.string (findB s attr).1, .int .i64 (findB s attr).2]) ∧ Below w.heap.size w w' := by
  by_cases h0 : 0 < s.size
  · have he := nempty_of h0
    by_cases ha : s[0] = 38
    · have ht : ((s[0].toNat : Int) != 38) = false := by rw [ha]; rfl
      by_cases h1 : ∃ h : 1 < s.size, s[1] = 35
      · obtain ⟨h1, hb⟩ := h1
        have HR := Lib.hid (show findB s attr = numB s from by unfold findB; rw [byte_at h0, byte_at h1, ha, hb]; rfl)
        have ht1 : ((s[1].toNat : Int) == 35) = true := by rw [hb]; rfl
        have HN := Lib.hid (fun W => number_any s W hs)
        clear ha hb
        go_enter Tryz.func176, Tryz.ntmps176
        go_wp2_with fail
        refine (HN.out _).mono ?_
        rintro e w1 ⟨rfl, hb⟩
        go_wp2_with fail
        go_ret2
        exact ⟨by rw [HR.out]; rfl, hb⟩
      · have HR := Lib.hid (show findB s attr = namedB s attr from by
          unfold findB
          rw [byte_at h0, ha, if_pos rfl, if_neg]
          intro h
          have h2 := (List.getElem?_eq_some_iff.1 h).1
          have h3 : 1 < s.size := by simpa using h2
          rw [byte_at h3] at h
          exact h1 ⟨h3, by simpa using h⟩)
        have HN := Lib.hid (fun W => named_any s attr W h0 hs)
        clear ha
        by_cases h2 : 1 < s.size
        · have ht1 : ((s[1].toNat : Int) == 35) = false := byte_test (k := 35) (by decide) (fun e => h1 ⟨h2, e⟩)
          clear h1
          go_enter Tryz.func176, Tryz.ntmps176
          go_wp2_with fail
          refine (HN.out _).mono ?_
          rintro e w1 ⟨rfl, hb⟩
          go_wp2_with fail
          go_ret2
          exact ⟨by rw [HR.out]; rfl, hb⟩
        · clear h1
          go_enter Tryz.func176, Tryz.ntmps176
          go_wp2_with fail
          refine (HN.out _).mono ?_
          rintro e w1 ⟨rfl, hb⟩
          go_wp2_with fail
          go_ret2
          exact ⟨by rw [HR.out]; rfl, hb⟩
    · have ht : ((s[0].toNat : Int) != 38) = true := by
        have := byte_test (k := 38) (by decide) ha
        simpa [bne] using this
      have HR := Lib.hid (show findB s attr = (⟨#[]⟩, 0) from by unfold findB; rw [byte_at h0, if_neg (by simpa using ha)])
      clear ha
      go_enter Tryz.func176, Tryz.ntmps176
      go_wp2_with fail
      go_ret2
      exact ⟨by rw [HR.out]; rfl, Below.refl _ _⟩
  · have he := empty_of (show s.size = 0 by omega)
    have hlen : s.data.toList.length ≤ 0 := by
      have : s.data.toList.length = s.size := by simp
      omega
    have HR := Lib.hid (show findB s attr = (⟨#[]⟩, 0) from by unfold findB; rw [List.getElem?_eq_none hlen, if_neg (by simp)])
    go_enter Tryz.func176, Tryz.ntmps176
    go_wp2_with fail
    go_ret2
    exact ⟨by rw [HR.out]; rfl, Below.refl _ _⟩

theorem bld_below {B b : Nat} {l : List Value} {w w' : World} (h : Bld B b l w) (hb : Below w.heap.size w w') : Bld B b l w' := by
  have hg : w.grownBy w' none := ⟨hb.os, hb.tape, hb.output, hb.size, fun k hk _ => hb.block k hk⟩
  have hn : ∀ v : Value, v.ownBlock = none ∨ v.ownBlock ≠ none := fun v => by cases v.ownBlock <;> simp
  rcases h with ⟨hB, v, hbk, hown, hne⟩ | ⟨hB, v, hbk, hown, hne⟩
  · exact Or.inl ⟨hB, v, (hb.block b (Lib.BuilderAt.lt ⟨hB, v, hbk, hown, hne⟩)).trans hbk, hown.kept hg (hn v), hne⟩
  · exact Or.inr ⟨hB, v, (hb.block b (Lib.BuilderAt.lt ⟨hB, v, hbk, hown, hne⟩)).trans hbk, hown.kept hg (hn v), hne⟩
/-- One step of reading: a reference, or a byte. -/
def stepB (s : ByteArray) (attr : Bool) : ByteArray × Nat := if (findB s attr).2 = 0 then (s.extract 0 1, 1) else findB s attr
def readN : Nat → ByteArray → Bool → List UInt8
  | 0, _, _ => []
  | f + 1, s, attr => if s.size = 0 then [] else (stepB s attr).1.data.toList ++ readN f (s.extract (stepB s attr).2 s.size) attr
def readL (s : ByteArray) (attr : Bool) : List UInt8 := readN s.size s attr
theorem stepB_le {s : ByteArray} (h1 : 1 ≤ s.size) (attr : Bool) : 1 ≤ (stepB s attr).2 ∧ (stepB s attr).2 ≤ s.size ∧ (stepB s attr).1.size ≤ 4 := by
  have h := find_le h1 attr
  unfold stepB
  split
  · refine ⟨Nat.le_refl _, h1, ?_⟩
    show (s.extract 0 1).size ≤ 4
    rw [ByteArray.size_extract]
    omega
  · exact ⟨by omega, h⟩
theorem cut_size (s : ByteArray) (n : Nat) : (s.extract n s.size).size = s.size - n := by rw [ByteArray.size_extract]; omega
theorem readN_more (f : Nat) : ∀ (s : ByteArray) (attr : Bool) (g : Nat), s.size ≤ f → s.size ≤ g → readN f s attr = readN g s attr := by
  induction f with
  | zero =>
    intro s attr g h hg
    cases g with
    | zero => rfl
    | succ g => rw [readN, readN, if_pos (by omega)]
  | succ f ih =>
    intro s attr g h hg
    by_cases h0 : s.size = 0
    · rw [readN, if_pos h0]
      cases g with
      | zero => rfl
      | succ g => rw [readN, if_pos h0]
    · obtain ⟨k, rfl⟩ : ∃ k, g = k + 1 := ⟨g - 1, by omega⟩
      have hs := stepB_le (show 1 ≤ s.size by omega) attr
      have hc := cut_size s (stepB s attr).2
      rw [readN, if_neg h0, readN, if_neg h0, ih _ attr k (by omega) (by omega)]
theorem readL_step {s : ByteArray} (h1 : 1 ≤ s.size) (attr : Bool) : readL s attr = (stepB s attr).1.data.toList ++ readL (s.extract (stepB s attr).2 s.size) attr := by
  obtain ⟨k, hk⟩ : ∃ k, s.size = k + 1 := ⟨s.size - 1, by omega⟩
  have hs := stepB_le h1 attr
  have hc := cut_size s (stepB s attr).2
  show readN s.size s attr = _
  rw [hk, readN, if_neg (by omega), readN_more k _ attr (s.extract (stepB s attr).2 s.size).size (by omega) (Nat.le_refl _), ← hk]
  rfl
theorem readL_nil {s : ByteArray} (h : s.size = 0) (attr : Bool) : readL s attr = [] := by
  unfold readL
  rw [h]
  rfl

theorem read_any (s : ByteArray) (attr : Bool) (w : World) (hs : s.size ≤ 1000000000) :
    Calls Tryz.prog 141 #[.string s, .bool attr] w fun e w' => e = .returned (.string ⟨(readL s attr).toArray⟩) ∧ Below w.heap.size w w' := by
  go_enter Tryz.func141, Tryz.ntmps141
  go_wp2_with fail
  go_loopw [0, 6, 7, 10] (fun t _ _ _ wr => ∃ (r : ByteArray) (l : List UInt8), t = .string r ∧ r.size ≤ s.size ∧ l.length + 4 * r.size ≤ 4 * s.size ∧ readL s attr = l ++ readL r attr ∧ Below w.heap.size w wr ∧ Bld w.heap.size w.heap.size (Lib.byteCells l) wr) (fun t _ _ _ _ => (match t with | .string r => r.size | _ => 0))
  case atStart => exact ⟨s, [], rfl, Nat.le_refl _, by simp, rfl, (Below.refl _ _).alloc (Nat.le_refl _) _, bld_new w⟩
  case round =>
    obtain ⟨r, l, rfl, hr, hl, he, hb, hbld⟩ := hrel
    by_cases h1 : 1 ≤ r.size
    · have hne := nempty_of h1
      have hse := stepB_le h1 attr
      have HE := Lib.hid (he.trans (by rw [readL_step h1 attr, ← List.append_assoc]))
      have HF := Lib.hid (fun W => find_any r attr W (by omega))
      have hsz := hb.size
      clear he
      by_cases h0 : (findB r attr).2 = 0
      · have hst : stepB r attr = (r.extract 0 1, 1) := by unfold stepB; rw [if_pos h0]
        rw [hst] at HE hse
        have hx1 : (r.extract 0 1).size = 1 := by rw [ByteArray.size_extract]; omega
        have HW := Lib.hid (fun W (h : Bld w.heap.size w.heap.size (Lib.byteCells l) W) (hW : w.heap.size ≤ W.heap.size) => writeString_any w.heap.size w.heap.size (Lib.byteCells l) (r.extract 0 1) W h (by rw [Lib.byteCells_length]; omega) hW)
        have ht : (((findB r attr).2 : Int) == 0) = true := by rw [h0]; rfl
        go_wp2_with fail
        refine (HF.out _).mono ?_
        rintro e w1 ⟨rfl, hb1⟩
        have hb2 := bld_below hbld hb1
        have hz1 := hb1.size
        go_wp2_with fail
        refine (HW.out _ hb2 (by omega)).mono ?_
        rintro e w2 ⟨rfl, hb3, hb4⟩
        go_wp2_with fail
        go_roundw
        case rel => exact ⟨r.extract 1 r.size, l ++ (r.extract 0 1).data.toList, rfl, by rw [cut_size]; omega, by rw [cut_size, List.length_append, show (r.extract 0 1).data.toList.length = (r.extract 0 1).size from by simp, hx1]; omega, HE.out, (hb.trans (hb1.mono hsz)).trans hb4, by rw [Lib.byteCells_append]; exact hb3⟩
        case measure =>
          show (r.extract 1 r.size).size < r.size
          rw [cut_size]
          omega
      · have hst : stepB r attr = findB r attr := by unfold stepB; rw [if_neg h0]
        rw [hst] at HE hse
        have HW := Lib.hid (fun W (h : Bld w.heap.size w.heap.size (Lib.byteCells l) W) (hW : w.heap.size ≤ W.heap.size) => writeString_any w.heap.size w.heap.size (Lib.byteCells l) (findB r attr).1 W h (by rw [Lib.byteCells_length]; omega) hW)
        have ht : (((findB r attr).2 : Int) == 0) = false := by rw [beq_eq_false_iff_ne]; omega
        generalize findB r attr = q at *
        obtain ⟨q1, q2⟩ := q
        clear hst
        dsimp only at *
        go_wp2_with fail
        refine (HF.out _).mono ?_
        rintro e w1 ⟨rfl, hb1⟩
        have hb2 := bld_below hbld hb1
        have hz1 := hb1.size
        go_wp2_with fail
        refine (HW.out _ hb2 (by omega)).mono ?_
        rintro e w2 ⟨rfl, hb3, hb4⟩
        go_wp2_with fail
        go_roundw
        case rel => exact ⟨r.extract q2 r.size, l ++ q1.data.toList, rfl, by rw [cut_size]; omega, by rw [cut_size, List.length_append, show q1.data.toList.length = q1.size from by simp]; omega, HE.out, (hb.trans (hb1.mono hsz)).trans hb4, by rw [Lib.byteCells_append]; exact hb3⟩
        case measure =>
          show (r.extract q2 r.size).size < r.size
          rw [cut_size]
          omega
    · have hem := empty_of (show r.size = 0 by omega)
      rw [readL_nil (show r.size = 0 by omega), List.append_nil] at he
      have HS := Lib.hid (Tryz.Builder_String_any w.heap.size w.heap.size l wr hbld hb.size)
      have HE := Lib.hid he
      clear he hbld
      go_wp2_with fail
      refine HS.out.mono ?_
      rintro e w2 ⟨rfl, hb2⟩
      go_wp2_with fail
      go_ret
      exact ⟨by rw [HE.out]; rfl, hb.trans hb2⟩

theorem text_any (s : ByteArray) (w : World) (hs : s.size ≤ 1000000000) :
    Calls Tryz.prog 103 #[.string s] w fun e w' => e = .returned (.string ⟨(readL s false).toArray⟩) ∧ Below w.heap.size w w' := by
  go_enter Tryz.func103, Tryz.ntmps103
  go_wp2_with fail
  refine (read_any s false _ hs).mono ?_
  rintro e w1 ⟨rfl, hb⟩
  go_wp2_with fail
  go_ret
  exact ⟨rfl, hb⟩
theorem value_any (s : ByteArray) (w : World) (hs : s.size ≤ 1000000000) :
    Calls Tryz.prog 181 #[.string s] w fun e w' => e = .returned (.string ⟨(readL s true).toArray⟩) ∧ Below w.heap.size w w' := by
  go_enter Tryz.func181, Tryz.ntmps181
  go_wp2_with fail
  refine (read_any s true _ hs).mono ?_
  rintro e w1 ⟨rfl, hb⟩
  go_wp2_with fail
  go_ret
  exact ⟨rfl, hb⟩
end Go.Proofs.YtegcedboeemedaaGreatDoor

/-
What reading does with plain text; entityBegun.
-/
namespace Go.Proofs.YtegcedboeemedaaGreatDoor
open Go.RowKit Go.Cl

theorem ba_ext {a b : ByteArray} (h : a.data.toList = b.data.toList) : a = b := ByteArray.ext (Array.ext' h)
theorem find_plain {s : ByteArray} {b : UInt8} {l : List UInt8} (h : s.data.toList = b :: l) (hb : b ≠ 38) (attr : Bool) : stepB s attr = (⟨#[b]⟩, 1) := by
  have hf : findB s attr = (⟨#[]⟩, 0) := by
    unfold findB
    rw [h, if_neg (by simpa using hb)]
  unfold stepB
  rw [hf, if_pos rfl]
  congr 1
  apply ba_ext
  rw [ByteArray.data_extract, Array.toList_extract, List.extract_eq_take_drop, h]
  rfl
theorem read_cons (b : UInt8) (l : List UInt8) (hb : b ≠ 38) (attr : Bool) : readL ⟨(b :: l).toArray⟩ attr = b :: readL ⟨l.toArray⟩ attr := by
  have hs : (ByteArray.mk (b :: l).toArray).size = l.length + 1 := by simp [ByteArray.size]
  rw [readL_step (by omega), find_plain (l := l) (b := b) rfl hb]
  show [b] ++ _ = _
  have : (ByteArray.mk (b :: l).toArray).extract 1 (ByteArray.mk (b :: l).toArray).size = ⟨l.toArray⟩ := by
    apply ba_ext
    rw [drop_one]
    rfl
  rw [this]
  rfl
theorem read_app (l t : List UInt8) (hl : ∀ b ∈ l, b ≠ 38) (attr : Bool) : readL ⟨(l ++ t).toArray⟩ attr = l ++ readL ⟨t.toArray⟩ attr := by
  induction l with
  | nil => rfl
  | cons b l ih =>
    rw [List.cons_append, read_cons b (l ++ t) (hl b (List.mem_cons_self ..)), ih (fun x hx => hl x (List.mem_cons_of_mem _ hx))]
    rfl
theorem read_plain {p : ByteArray} (hp : ∀ b ∈ p.data.toList, b ≠ 38) (attr : Bool) : (ByteArray.mk (readL p attr).toArray) = p := by
  apply ba_ext
  have h := read_app p.data.toList [] hp attr
  rw [List.append_nil] at h
  have h0 : readL ⟨[].toArray⟩ attr = [] := readL_nil rfl attr
  rw [h0, List.append_nil] at h
  exact h
theorem readN_len (f : Nat) : ∀ (s : ByteArray) (attr : Bool), s.size ≤ f → (readN f s attr).length ≤ 4 * s.size := by
  induction f with
  | zero => intro s attr _; exact Nat.zero_le _
  | succ f ih =>
    intro s attr h
    rw [readN]
    split
    · exact Nat.zero_le _
    · have hs := stepB_le (show 1 ≤ s.size by omega) attr
      have hc := cut_size s (stepB s attr).2
      have h1 := ih (s.extract (stepB s attr).2 s.size) attr (by omega)
      rw [List.length_append, show (stepB s attr).1.data.toList.length = (stepB s attr).1.size from by simp]
      omega
theorem readL_len (s : ByteArray) (attr : Bool) : (ByteArray.mk (readL s attr).toArray).size ≤ 4 * s.size := by
  show (readL s attr).toArray.size ≤ 4 * s.size
  rw [List.size_toArray]
  exact readN_len s.size s attr (Nat.le_refl _)

end Go.Proofs.YtegcedboeemedaaGreatDoor

/-
Tokens in plain words: what is read of a text, and what is shown. No program in sight.
-/
namespace Go.Proofs.YtegcedboeemedaaGreatDoor
open Go.RowKit Go.Cl

def bs (l : List UInt8) : ByteArray := ⟨l.toArray⟩
theorem bs_list (l : List UInt8) : (bs l).data.toList = l := rfl
theorem bs_size (l : List UInt8) : (bs l).size = l.length := rfl
theorem bs_of {s : ByteArray} {l : List UInt8} (h : s.data.toList = l) : s = bs l := by rw [← h]; rfl
/-! ### signs -/
def blankB (b : UInt8) : Bool := b == 32 || b == 9 || b == 10 || b == 12 || b == 13
def letterB (b : UInt8) : Bool := decide (97 ≤ low b.toNat) && decide (low b.toNat ≤ 122)
def nameB (b : UInt8) : UInt8 :=
  if 65 ≤ b.toNat ∧ b.toNat ≤ 90 then b + 32
  else if (97 ≤ b.toNat ∧ b.toNat ≤ 122) ∨ (48 ≤ b.toNat ∧ b.toNat ≤ 57) ∨ b = 45 ∨ b = 95 ∨ b = 58 then b else 95
def nameL (l : List UInt8) : List UInt8 := (l.take 40).map nameB
def dashB (b : UInt8) : Bool := letterB b || b == 45
def attrL (l : List UInt8) : List UInt8 := match nameL l with
  | [] => []
  | c :: t => if dashB c then c :: t else 95 :: t
def rawN (nm : List UInt8) : Nat := if nm = ([115, 99, 114, 105, 112, 116] : List UInt8) ∨ nm = ([115, 116, 121, 108, 101] : List UInt8) then 1 else if nm = ([116, 101, 120, 116, 97, 114, 101, 97] : List UInt8) ∨ nm = ([116, 105, 116, 108, 101] : List UInt8) then 2 else 0
def skipB (b : UInt8) : Bool := blankB b || b == 47
def tagB (b : UInt8) : Bool := !(blankB b || b == 47 || b == 62)
def anB (b : UInt8) : Bool := !(blankB b || b == 47 || b == 62 || b == 61)
def valB (b : UInt8) : Bool := !(blankB b || b == 62)
/-! ### a token -/
structure Tk where
  kind : Int
  name : ByteArray
  attrs : List DAttr
  text : ByteArray
  self : Bool
def entT (l : List UInt8) : List UInt8 := readL (bs l) false
def entV (l : List UInt8) : List UInt8 := readL (bs l) true
/-! ### attributes -/
def valueF (r : List UInt8) : List UInt8 × List UInt8 :=
  match r.dropWhile blankB with
  | [] => ([], [])
  | q :: t => if q = 34 ∨ q = 39 then ((Lib.cut t [q]).1, (Lib.cut t [q]).2.1) else ((q :: t).takeWhile valB, (q :: t).dropWhile valB)
def attrEnd (t : List UInt8) : List UInt8 := (t.dropWhile anB).dropWhile blankB
def attrF (b : UInt8) (t : List UInt8) : DAttr × List UInt8 :=
  if (attrEnd t).head? = some 61 then ((bs (attrL (b :: t.takeWhile anB)), bs (entV (valueF (attrEnd t).tail).1)), (valueF (attrEnd t).tail).2)
  else ((bs (attrL (b :: t.takeWhile anB)), ⟨#[]⟩), attrEnd t)
def addA (acc : List DAttr) (a : DAttr) : List DAttr := if acc.any (fun b => b.1.toList == a.1.toList) then acc else acc ++ [a]
/-- The rest of a tag behind its name: its attributes, whether it closes itself, what is behind it. -/
def tagF (acc : List DAttr) (r : List UInt8) : Option (List DAttr × Bool × List UInt8) :=
  match r.dropWhile skipB with
  | [] => none
  | b :: t => if b = 62 then some (acc, (r.takeWhile skipB).getLast? == some 47, t)
    else if _h : (attrF b t).2.length < r.length then tagF (addA acc (attrF b t).1) (attrF b t).2 else none
termination_by r.length
/-! ### comments and their like -/
def tkC (x : List UInt8) : Tk := ⟨4, ⟨#[]⟩, [], bs x, false⟩
def tkD (x : List UInt8) : Tk := ⟨5, bs (nameL x), [], ⟨#[]⟩, false⟩
def tkT (x : ByteArray) : Tk := ⟨3, ⟨#[]⟩, [], x, false⟩
def comF (mark r : List UInt8) : Tk × Bool × List UInt8 := (tkC (Lib.cut r mark).1, (Lib.cut r mark).2.2, (Lib.cut r mark).2.1)
def docN (r : List UInt8) : List UInt8 := ((Lib.cut r [62]).1.dropWhile blankB).takeWhile fun b => !blankB b
def declF (r : List UInt8) : Tk × Bool × List UInt8 :=
  if Lib.hasPrefix r ([60, 33, 45, 45] : List UInt8) then
    if Lib.hasPrefix (r.drop 4) [62] then (tkC [], true, r.drop 5)
    else if Lib.hasPrefix (r.drop 4) [45, 62] then (tkC [], true, r.drop 6)
    else comF [45, 45, 62] (r.drop 4)
  else if 9 ≤ r.length ∧ Lib.equalFold (r.take 9) ([60, 33, 100, 111, 99, 116, 121, 112, 101] : List UInt8) = true then (tkD (docN (r.drop 9)), (Lib.cut (r.drop 9) [62]).2.2, (Lib.cut (r.drop 9) [62]).2.1)
  else comF [62] (r.drop 2)
/-- Which markup begins here; 0: none. -/
def markF : List UInt8 → UInt8
  | c :: b :: t => if c ≠ 60 then 0 else if letterB b then 97 else if b = 33 ∨ b = 63 then b else if b = 47 ∧ t ≠ [] then b else 0
  | _ => 0
theorem mark_cons (c b : UInt8) (t : List UInt8) : markF (c :: b :: t) = if c ≠ 60 then 0 else if letterB b then 97 else if b = 33 ∨ b = 63 then b else if b = 47 ∧ t ≠ [] then b else 0 := rfl
/-- A tag: of a kind, with its name and all. -/
def tagT (kind : Int) (r : List UInt8) : Option (Tk × List UInt8) :=
  (tagF [] (r.dropWhile tagB)).map fun x => (if kind = 1 then ⟨1, bs (nameL (r.takeWhile tagB)), x.1, ⟨#[]⟩, x.2.1⟩ else ⟨kind, bs (nameL (r.takeWhile tagB)), [], ⟨#[]⟩, false⟩, x.2.2)
/-- The next markup: a token or none; whether it ends; what is behind. None at all: a tag without an end. -/
def nextF (r : List UInt8) : Option (Option Tk × Bool × List UInt8) :=
  if markF r = 33 then some (some (declF r).1, (declF r).2)
  else if markF r = 63 then some (some (comF [62] (r.drop 1)).1, (comF [62] (r.drop 1)).2)
  else if markF r = 97 then (tagT 1 (r.drop 1)).map fun x => (some x.1, true, x.2)
  else match r.drop 2 with
    | [] => none
    | b :: t => if b = 62 then some (none, true, t)
      else if letterB b then (tagT 2 (b :: t)).map fun x => (some x.1, true, x.2)
      else some (some (comF [62] (b :: t)).1, (comF [62] (b :: t)).2)
/-! ### texts -/
def textF : List UInt8 → List UInt8 × List UInt8
  | [] => ([], [])
  | b :: t => if markF (b :: t) = 0 then (b :: (textF t).1, (textF t).2) else ([], b :: t)
def closesF (nm r : List UInt8) : Bool :=
  decide (2 + nm.length < r.length) && (r.take 2 == [60, 47]) && Lib.equalFold ((r.drop 2).take nm.length) nm && (match r[2 + nm.length]? with | some b => blankB b || b == 47 || b == 62 | none => false)
def rawF (nm : List UInt8) : List UInt8 → List UInt8 × List UInt8
  | [] => ([], [])
  | b :: t => if closesF nm (b :: t) then ([], b :: t) else (b :: (rawF nm t).1, (rawF nm t).2)
/-- A token, and how much is left where it begins and where it ends. -/
abbrev Pl := Tk × Nat × Nat
def putT (x : List UInt8) (y : ByteArray) (a b : Nat) : List Pl := if x = [] then [] else [(tkT y, a, b)]
def putM (t : Option Tk) (a b : Nat) : List Pl := match t with
  | none => []
  | some t => [(t, a, b)]
/-- The name of the raw text that begins behind a token. -/
def rawOf (t : Option Tk) : List UInt8 := match t with
  | none => []
  | some t => if t.kind = 1 then t.name.data.toList else []
/-- What is behind a markup, up to the next one: a raw text, and a text. -/
def afterF (t : Option Tk) (r : List UInt8) : List Pl × List UInt8 :=
  if 0 < rawN (rawOf t) then
    (putT (rawF (rawOf t) r).1 (bs (if rawN (rawOf t) = 2 then entT (rawF (rawOf t) r).1 else (rawF (rawOf t) r).1)) r.length (rawF (rawOf t) r).2.length
      ++ putT (textF (rawF (rawOf t) r).2).1 (bs (entT (textF (rawF (rawOf t) r).2).1)) (rawF (rawOf t) r).2.length (textF (rawF (rawOf t) r).2).2.length, (textF (rawF (rawOf t) r).2).2)
  else (putT (textF r).1 (bs (entT (textF r).1)) r.length (textF r).2.length, (textF r).2)
/-- From one markup on: tokens, and how much is left where the last one that has an end of its own ended. -/
def readM (r : List UInt8) : List Pl × Option Nat :=
  if r = [] then ([], none) else match nextF r with
    | none => ([], none)
    | some (t, e, r2) =>
      if _h : (afterF t r2).2.length < r.length then
        (putM t r.length r2.length ++ (afterF t r2).1 ++ (readM (afterF t r2).2).1, (readM (afterF t r2).2).2.or (if e = true ∧ t.isSome = true then some r2.length else none))
      else ([], none)
termination_by r.length
def readF (r : List UInt8) : List Pl × Option Nat :=
  (putT (textF r).1 (bs (entT (textF r).1)) r.length (textF r).2.length ++ (readM (textF r).2).1, (readM (textF r).2).2)
/-! ### how much is taken -/
theorem dropW_le (p : UInt8 → Bool) (r : List UInt8) : (r.dropWhile p).length ≤ r.length := by
  have := congrArg List.length (List.takeWhile_append_dropWhile (p := p) (l := r))
  rw [List.length_append] at this
  omega
theorem cut_le (r mark : List UInt8) : (Lib.cut r mark).2.1.length ≤ r.length := by
  unfold Lib.cut
  split
  · rw [List.length_drop]; omega
  · exact Nat.zero_le _
theorem value_le (r : List UInt8) : (valueF r).2.length ≤ r.length := by
  unfold valueF
  have h := dropW_le blankB r
  cases hd : r.dropWhile blankB with
  | nil => exact Nat.zero_le _
  | cons q t =>
    rw [hd, List.length_cons] at h
    dsimp only
    split
    · have := cut_le t [q]; dsimp only; omega
    · have := dropW_le valB (q :: t); rw [List.length_cons] at this; dsimp only; omega
theorem attr_le (b : UInt8) (t : List UInt8) : (attrF b t).2.length ≤ t.length := by
  have h1 := dropW_le blankB (t.dropWhile anB)
  have h2 := dropW_le anB t
  unfold attrF attrEnd
  split
  · have h3 := value_le ((t.dropWhile anB).dropWhile blankB).tail
    rw [List.length_tail] at h3
    dsimp only
    omega
  · dsimp only
    omega
theorem tagF_step (acc : List DAttr) (r : List UInt8) : tagF acc r = match r.dropWhile skipB with
    | [] => none
    | b :: t => if b = 62 then some (acc, (r.takeWhile skipB).getLast? == some 47, t) else tagF (addA acc (attrF b t).1) (attrF b t).2 := by
  rw [tagF]
  cases hd : r.dropWhile skipB with
  | nil => rfl
  | cons b t =>
    have h1 := dropW_le skipB r
    have h2 := attr_le b t
    rw [hd, List.length_cons] at h1
    dsimp only
    split
    · rfl
    · rw [dif_pos (by omega)]
theorem tagF_le {acc : List DAttr} {r : List UInt8} {x : List DAttr × Bool × List UInt8} (h : tagF acc r = some x) : x.2.2.length < r.length := by
  induction hn : r.length using Nat.strongRecOn generalizing acc r with
  | ind n ih =>
    subst hn
    rw [tagF_step] at h
    have h1 := dropW_le skipB r
    cases hd : r.dropWhile skipB with
    | nil => rw [hd] at h; cases h
    | cons b t =>
      rw [hd] at h h1
      rw [List.length_cons] at h1
      dsimp only at h
      split at h
      · cases h; dsimp only; omega
      · have h2 := attr_le b t
        have := ih _ (by omega) h rfl
        omega
theorem tagT_le {kind : Int} {r : List UInt8} {x : Tk × List UInt8} (h : tagT kind r = some x) : x.2.length < r.length := by
  unfold tagT at h
  cases ht : tagF [] (r.dropWhile tagB) with
  | none => rw [ht] at h; cases h
  | some y =>
    rw [ht] at h
    cases h
    have h1 := tagF_le ht
    have h2 := dropW_le tagB r
    dsimp only
    omega
theorem com_le (mark r : List UInt8) : (comF mark r).2.2.length ≤ r.length := cut_le r mark
theorem pre_len {r p : List UInt8} (h : Lib.hasPrefix r p = true) : p.length ≤ r.length := by
  unfold Lib.hasPrefix at h
  exact (List.isPrefixOf_iff_prefix.1 h).length_le
theorem decl_le {r : List UInt8} (h : 2 ≤ r.length) : (declF r).2.2.length < r.length := by
  unfold declF
  split
  · rename_i h4
    have := pre_len h4
    simp only [List.length_cons, List.length_nil] at this
    split
    · simp only [List.length_drop]; omega
    · split
      · simp only [List.length_drop]; omega
      · have := com_le [45, 45, 62] (r.drop 4)
        rw [List.length_drop] at this
        omega
  · split
    · have := cut_le (r.drop 9) [62]
      rw [List.length_drop] at this
      dsimp only
      omega
    · have := com_le [62] (r.drop 2)
      rw [List.length_drop] at this
      omega
theorem mark_two {r : List UInt8} (h : markF r ≠ 0) : ∃ b t, r = 60 :: b :: t := by
  match r with
  | [] => exact absurd rfl h
  | [_] => exact absurd rfl h
  | c :: b :: t =>
    by_cases hc : c = 60
    · exact ⟨b, t, by rw [hc]⟩
    · exact absurd (by rw [mark_cons]; rw [if_pos hc]) h
theorem next_le {r : List UInt8} {x : Option Tk × Bool × List UInt8} (hm : markF r ≠ 0) (h : nextF r = some x) : x.2.2.length < r.length := by
  obtain ⟨b, t, rfl⟩ := mark_two hm
  unfold nextF at h
  split at h
  · cases h; exact decl_le (by simp)
  · split at h
    · cases h
      have := com_le [62] (List.drop 1 (60 :: b :: t))
      simp only [List.drop_succ_cons, List.drop_zero, List.length_cons] at this ⊢
      omega
    · split at h
      · cases ht : tagT 1 (List.drop 1 (60 :: b :: t)) with
        | none => rw [ht] at h; cases h
        | some y =>
          rw [ht] at h
          cases h
          have := tagT_le ht
          simp only [List.drop_succ_cons, List.drop_zero, List.length_cons] at this ⊢
          omega
      · simp only [List.drop_succ_cons, List.drop_zero] at h
        cases t with
        | nil => cases h
        | cons c t =>
          dsimp only at h
          split at h
          · cases h; simp only [List.length_cons]; omega
          · split at h
            · cases ht : tagT 2 (c :: t) with
              | none => rw [ht] at h; cases h
              | some y =>
                rw [ht] at h
                cases h
                have := tagT_le ht
                simp only [List.length_cons] at this ⊢
                omega
            · cases h
              have := com_le [62] (c :: t)
              simp only [List.length_cons] at this ⊢
              omega
theorem text_split (r : List UInt8) : (textF r).1 ++ (textF r).2 = r := by
  induction r with
  | nil => rfl
  | cons b t ih =>
    unfold textF
    split
    · rw [List.cons_append, ih]
    · rfl
theorem text_le (r : List UInt8) : (textF r).2.length ≤ r.length := by
  have := congrArg List.length (text_split r)
  rw [List.length_append] at this
  omega
theorem raw_split (nm r : List UInt8) : (rawF nm r).1 ++ (rawF nm r).2 = r := by
  induction r with
  | nil => rfl
  | cons b t ih =>
    unfold rawF
    split
    · rfl
    · rw [List.cons_append, ih]
theorem raw_le (nm r : List UInt8) : (rawF nm r).2.length ≤ r.length := by
  have := congrArg List.length (raw_split nm r)
  rw [List.length_append] at this
  omega
theorem after_le (t : Option Tk) (r : List UInt8) : (afterF t r).2.length ≤ r.length := by
  unfold afterF
  split
  · have h1 := raw_le (rawOf t) r
    have h2 := text_le (rawF (rawOf t) r).2
    dsimp only
    omega
  · exact text_le r
/-- Behind a text there is a markup, or nothing. -/
theorem text_mark (r : List UInt8) : (textF r).2 = [] ∨ markF (textF r).2 ≠ 0 := by
  induction r with
  | nil => exact .inl rfl
  | cons b t ih =>
    unfold textF
    split
    · exact ih
    · rename_i h; exact .inr h
theorem after_mark (t : Option Tk) (r : List UInt8) : (afterF t r).2 = [] ∨ markF (afterF t r).2 ≠ 0 := by
  unfold afterF
  split
  · exact text_mark _
  · exact text_mark _
theorem readM_nil : readM [] = ([], none) := by rw [readM, if_pos rfl]
theorem readM_step {r : List UInt8} (hm : markF r ≠ 0) : readM r = match nextF r with
    | none => ([], none)
    | some (t, e, r2) => (putM t r.length r2.length ++ (afterF t r2).1 ++ (readM (afterF t r2).2).1, (readM (afterF t r2).2).2.or (if e = true ∧ t.isSome = true then some r2.length else none)) := by
  rw [readM, if_neg (by intro e; subst e; exact hm rfl)]
  cases hn : nextF r with
  | none => rfl
  | some x =>
    obtain ⟨t, e, r2⟩ := x
    dsimp only
    have h1 := next_le hm hn
    have h2 := after_le t r2
    dsimp only at h1
    rw [dif_pos (by omega)]
end Go.Proofs.YtegcedboeemedaaGreatDoor

/-
The tree that is built, in plain words: its state, and what each of the tree's own functions makes of it.
-/
namespace Go.Proofs.YtegcedboeemedaaGreatDoor
open Go.RowKit Go.Cl
/-- The state of a parser. -/
structure PS where
  nodes : List Nd
  opens : List Int
  items : List Item
  foster : Bool
  mode : Int
  back : Int
  head : Int
  form : Int
  quirks : Bool
  context : ByteArray
  fresh : Bool
namespace PS
variable (P : PS)
def nd (n : Int) : Nd := P.nodes.getD n.toNat ⟨0, ⟨#[]⟩, [], ⟨#[]⟩, 0, []⟩
def name (n : Int) : ByteArray := (P.nd n).name
def top : Int := P.opens.getLastD 0
def current : ByteArray := P.name P.top
def names : List ByteArray := P.opens.map P.name
def inS (nm : ByteArray) (scope : Int) : Bool := hasB nm scope P.names.reverse
def anyIn (list : ByteArray) (scope : Int) : Bool := P.names.any fun nm => oneB nm list && P.inS nm scope
def pop : PS := if 1 < P.opens.length then { P with opens := P.opens.dropLast } else P
/-- Pop so many times. -/
def pops : Nat → PS → PS
  | 0, P => P
  | k + 1, P => pops k P.pop
/-- Pop until one of a list of names is popped. -/
def untilN : Nat → ByteArray → PS → PS
  | 0, _, P => P
  | k + 1, list, P => if 1 < P.opens.length then (if oneB P.current list then P.pop else untilN k list P.pop) else P
def until_ (list : ByteArray) : PS := untilN P.opens.length list P
def clearN : Nat → ByteArray → PS → PS
  | 0, _, P => P
  | k + 1, list, P => if 1 < P.opens.length ∧ oneB P.current list = false then clearN k list P.pop else P
def clear (list : ByteArray) : PS := clearN P.opens.length list P
def implied (but : ByteArray) : PS := pops (endsN but P.names.reverse) P
def closed (but list : ByteArray) : PS := (P.implied but).until_ list
def closeP : PS := if P.inS (⟨#[112]⟩ : ByteArray) 3 then P.closed (⟨#[112]⟩ : ByteArray) (⟨#[32, 112, 32]⟩ : ByteArray) else P
/-- Behind all kids. -/
def behind (n : Int) : Int × Nat := (n, (P.nd n).kids.length)
def tabled (nm : ByteArray) : Bool := oneB nm (⟨#[32, 116, 97, 98, 108, 101, 32, 116, 98, 111, 100, 121, 32, 116, 102, 111, 111, 116, 32, 116, 104, 101, 97, 100, 32, 116, 114, 32]⟩ : ByteArray)
/-- The place ahead of the last table that is open: over what is open, from its end. -/
def fosterRev (P : PS) : List Int → Option (Int × Nat)
  | [] => none
  | table :: r => if (P.name table).toList == ((⟨#[116, 97, 98, 108, 101]⟩ : ByteArray)).toList then (if 0 ≤ (P.nd table).parent then some ((P.nd table).parent, ((P.nd (P.nd table).parent).kids.idxOf table)) else match r with
      | [] => none
      | below :: _ => some (P.behind below)) else fosterRev P r
def place (current : Int) : Int × Nat :=
  if P.foster = false ∨ tabled (P.name current) = false then P.behind current
  else (fosterRev P P.opens.reverse).getD (P.behind (P.opens.headD 0))
def setNd (n : Int) (x : Nd) : PS := { P with nodes := P.nodes.set n.toNat x }
def put (at_ : Int × Nat) (n : Int) : PS :=
  let Q := P.setNd at_.1 { P.nd at_.1 with kids := (P.nd at_.1).kids.take at_.2 ++ n :: (P.nd at_.1).kids.drop at_.2 }
  Q.setNd n { Q.nd n with parent := at_.1 }
def leave (n : Int) : PS :=
  if 0 ≤ (P.nd n).parent then
    let p := (P.nd n).parent
    let Q := P.setNd p { P.nd p with kids := (P.nd p).kids.eraseIdx ((P.nd p).kids.idxOf n) }
    Q.setNd n { Q.nd n with parent := -1 }
  else P
def make (x : Nd) : PS := { P with nodes := P.nodes ++ [{ x with parent := -1 }] }
/-- The node that make makes. -/
def next : Int := (P.nodes.length : Int)
def text (s : ByteArray) : PS :=
  let at_ := P.place P.top
  let l := (P.nd at_.1).kids
  if at_.1 = 0 ∨ s.size = 0 then P
  else if 0 < at_.2 ∧ (P.nd (l.getD (at_.2 - 1) 0)).kind = 3 then
    P.setNd (l.getD (at_.2 - 1) 0) { P.nd (l.getD (at_.2 - 1) 0) with text := (P.nd (l.getD (at_.2 - 1) 0)).text ++ s }
  else (P.make ⟨3, ⟨#[]⟩, [], s, -1, []⟩).put at_ P.next
def comment (at_ : Int × Nat) (s : ByteArray) : PS := (P.make ⟨4, ⟨#[]⟩, [], s, -1, []⟩).put at_ P.next
def element (at_ : Int × Nat) (nm : ByteArray) (ats : List DAttr) : PS :=
  let Q := (P.make ⟨2, nm, ats, ⟨#[]⟩, -1, []⟩).put at_ P.next
  { Q with opens := Q.opens ++ [P.next] }
def start (nm : ByteArray) (ats : List DAttr) : PS := P.element (P.place P.top) nm ats
/-- The items from a place on are made again. -/
def reopenN : Nat → Nat → PS → PS
  | 0, _, P => P
  | k + 1, i, P => match P.items[i]? with
    | none => P
    | some x => reopenN k (i + 1) { P.start x.name x.attrs with items := P.items.set i { x with node := P.next } }
def reopen : PS := reopenN P.items.length (missRev P.opens P.items.reverse) P
def format (nm : ByteArray) (ats : List DAttr) : PS := { P.start nm ats with items := pushedL P.items ⟨P.next, nm, ats⟩ }
def mark : PS := { P with items := pushedL P.items ⟨-1, ⟨#[]⟩, []⟩ }
def unmark : PS := { P with items := P.items.take (lastN P.items - 1) }
def item (n : Int) : Int := match P.items.findIdx? fun x => x.node == n with
  | some i => (i : Int)
  | none => -1
def forget (n : Int) : PS := if 0 ≤ P.item n then { P with items := P.items.eraseIdx (P.item n).toNat } else P
def shut (n : Int) : PS := if P.opens.contains n then { P with opens := P.opens.eraseIdx (P.opens.idxOf n) } else P
def barred (i : Nat) : Bool := (P.opens.drop (i + 1)).any fun n => barB (P.name n) 1
end PS
end Go.Proofs.YtegcedboeemedaaGreatDoor

/-
The parser of tokens, in plain words: what each mode makes of a token; true: the token is taken once more.
-/
namespace Go.Proofs.YtegcedboeemedaaGreatDoor
open Go.RowKit Go.Cl
namespace PS
abbrev keepsL : ByteArray := (⟨#[32, 104, 101, 97, 100, 32, 98, 111, 100, 121, 32, 104, 116, 109, 108, 32, 98, 114, 32]⟩ : ByteArray)
abbrev rowsL : ByteArray := (⟨#[32, 116, 98, 111, 100, 121, 32, 116, 102, 111, 111, 116, 32, 116, 104, 101, 97, 100, 32]⟩ : ByteArray)
abbrev cellsL : ByteArray := (⟨#[32, 99, 97, 112, 116, 105, 111, 110, 32, 99, 111, 108, 32, 99, 111, 108, 103, 114, 111, 117, 112, 32, 116, 98, 111, 100, 121, 32, 116, 100, 32, 116, 102, 111, 111, 116, 32, 116, 104, 32, 116, 104, 101, 97, 100, 32, 116, 114, 32]⟩ : ByteArray)
abbrev headsL : ByteArray := (⟨#[32, 98, 97, 115, 101, 32, 108, 105, 110, 107, 32, 109, 101, 116, 97, 32]⟩ : ByteArray)
abbrev rawsL : ByteArray := (⟨#[32, 116, 105, 116, 108, 101, 32, 115, 116, 121, 108, 101, 32, 115, 99, 114, 105, 112, 116, 32]⟩ : ByteArray)
abbrev blocksL : ByteArray := (⟨#[32, 97, 100, 100, 114, 101, 115, 115, 32, 97, 114, 116, 105, 99, 108, 101, 32, 97, 115, 105, 100, 101, 32, 98, 108, 111, 99, 107, 113, 117, 111, 116, 101, 32, 100, 101, 116, 97, 105, 108, 115, 32, 100, 105, 97, 108, 111, 103, 32, 100, 105, 114, 32, 100, 105, 118, 32, 100, 108, 32, 102, 105, 101, 108, 100, 115, 101, 116, 32, 102, 105, 103, 99, 97, 112, 116, 105, 111, 110, 32, 102, 105, 103, 117, 114, 101, 32, 102, 111, 111, 116, 101, 114, 32, 104, 101, 97, 100, 101, 114, 32, 109, 97, 105, 110, 32, 109, 101, 110, 117, 32, 110, 97, 118, 32, 111, 108, 32, 115, 101, 99, 116, 105, 111, 110, 32, 115, 101, 97, 114, 99, 104, 32, 115, 117, 109, 109, 97, 114, 121, 32, 117, 108, 32]⟩ : ByteArray)
abbrev headingL : ByteArray := (⟨#[32, 104, 49, 32, 104, 50, 32, 104, 51, 32, 104, 52, 32, 104, 53, 32, 104, 54, 32]⟩ : ByteArray)
def st (t : Tk) (list : ByteArray) : Bool := t.kind == 1 && oneB t.name list
def en (t : Tk) (list : ByteArray) : Bool := t.kind == 2 && oneB t.name list
def over (t : Tk) : Bool := t.kind == 0
def headT (t : Tk) : List UInt8 := if t.kind = 3 then t.text.data.toList.takeWhile blankB else []
def restT (t : Tk) : List UInt8 := if t.kind = 3 then t.text.data.toList.dropWhile blankB else []
variable (P : PS)
def into (m : Int) (again : Bool) : Bool × PS := (again, { P with mode := m })
def merge (i : Nat) (t : Tk) : PS :=
  if P.context.size ≠ 0 then P else
  let n := P.opens.getD i 0
  P.setNd n { P.nd n with attrs := t.attrs.foldl (fun acc a => if acc.any fun b => b.1.toList == a.1.toList then acc else acc ++ [a]) (P.nd n).attrs }
/-- A comment is put, or html's attributes; whether it was so. -/
def said (t : Tk) : Bool × PS :=
  if t.kind = 4 then (true, P.comment (P.place P.top) t.text)
  else if st t (⟨#[32, 104, 116, 109, 108, 32]⟩ : ByteArray) then (true, P.merge 0 t)
  else (false, P)
def html (ats : List DAttr) : PS := { P with opens := [] }.element (P.behind 0) (⟨#[104, 116, 109, 108]⟩ : ByteArray) ats
def lone (nm : ByteArray) (ats : List DAttr) : PS := (P.start nm ats).pop
def rawText (t : Tk) : PS := { P.start t.name t.attrs with back := P.mode, mode := 4 }
def initial (t : Tk) : Bool × PS :=
  if headT t ≠ [] then (false, P)
  else if t.kind = 4 then (false, P.comment (P.behind 0) t.text)
  else if t.kind = 5 then (false, { (P.make ⟨5, t.name, [], ⟨#[]⟩, -1, []⟩).put (P.behind 0) P.next with quirks := !(t.name.toList == ((⟨#[104, 116, 109, 108]⟩ : ByteArray)).toList), mode := 1 })
  else (true, { P with quirks := true, mode := 1 })
def beforeHTML (t : Tk) : Bool × PS :=
  if headT t ≠ [] then (false, P)
  else if t.kind = 4 then (false, P.comment (P.behind 0) t.text)
  else if st t (⟨#[32, 104, 116, 109, 108, 32]⟩ : ByteArray) then (P.html t.attrs).into 2 false
  else if t.kind = 2 ∧ en t keepsL = false then (false, P)
  else (P.html []).into 2 true
def beforeHead (t : Tk) : Bool × PS :=
  if headT t ≠ [] then (false, P)
  else if (P.said t).1 then (false, (P.said t).2)
  else if st t (⟨#[32, 104, 101, 97, 100, 32]⟩ : ByteArray) then { P.start t.name t.attrs with head := P.next }.into 3 false
  else if t.kind = 2 ∧ en t keepsL = false then (false, P)
  else { P.start (⟨#[104, 101, 97, 100]⟩ : ByteArray) [] with head := P.next }.into 3 true
def inHead (t : Tk) : Bool × PS :=
  if headT t ≠ [] then (false, P.text (bs (headT t)))
  else if (P.said t).1 then (false, (P.said t).2)
  else if st t (⟨#[32, 104, 101, 97, 100, 32]⟩ : ByteArray) then (false, P)
  else if st t headsL then (false, P.lone t.name t.attrs)
  else if st t rawsL then (false, P.rawText t)
  else if en t (⟨#[32, 104, 101, 97, 100, 32]⟩ : ByteArray) then P.pop.into 5 false
  else if t.kind = 2 ∧ en t (⟨#[32, 98, 111, 100, 121, 32, 104, 116, 109, 108, 32, 98, 114, 32]⟩ : ByteArray) = false then (false, P)
  else P.pop.into 5 true
def raw (t : Tk) : Bool × PS :=
  if t.kind = 3 then (false, P.text t.text)
  else P.pop.into P.back (over t)
def afterHead (t : Tk) : Bool × PS :=
  if headT t ≠ [] then (false, P.text (bs (headT t)))
  else if (P.said t).1 then (false, (P.said t).2)
  else if st t (⟨#[32, 104, 101, 97, 100, 32]⟩ : ByteArray) then (false, P)
  else if st t (⟨#[32, 98, 111, 100, 121, 32]⟩ : ByteArray) then (P.start t.name t.attrs).into 6 false
  else if st t headsL || st t rawsL then (false, ({ P with opens := P.opens ++ [P.head] }.inHead t).2.shut P.head)
  else if t.kind = 2 ∧ en t (⟨#[32, 98, 111, 100, 121, 32, 104, 116, 109, 108, 32, 98, 114, 32]⟩ : ByteArray) = false then (false, P)
  else (P.start (⟨#[98, 111, 100, 121]⟩ : ByteArray) []).into 6 true
/-! ### adoption -/
/-- A block behind a place of what is open; -1: there is none. -/
def block (i : Nat) : Int := match (P.opens.drop (i + 1)).findIdx? fun n => specialB (P.name n) with
  | some k => ((i + 1 + k : Nat) : Int)
  | none => -1
def popUntil : Nat → Int → PS → PS
  | 0, _, P => P
  | k + 1, n, P => if 1 < P.opens.length ∧ P.opens.contains n = true then popUntil k n P.pop else P
def otherRev (nm : ByteArray) : PS → List Int → PS
  | P, [] => P
  | P, n :: r => if (P.name n).toList == nm.toList then popUntil P.opens.length n (P.implied nm) else if specialB (P.name n) then P else otherRev nm P r
def other (nm : ByteArray) : PS := otherRev nm P P.opens.reverse
/-- Up from the block to the one: what is last then, the mark, and the state. -/
def climbN (one block : Int) : Nat → Nat → Nat → Int → Nat → PS → Int × Nat × PS
  | 0, _, _, last, mark, P => (last, mark, P)
  | f + 1, k, many, last, mark, P =>
    let k := k - 1
    let n := P.opens.getD k 0
    if n = one then (last, mark, P)
    else
      let i := P.item n
      let far := decide (0 ≤ i) && decide (3 < many)
      let mark := if far && decide (i < (mark : Int)) then mark - 1 else mark
      let P := if far then P.forget n else P
      let i := if far then -1 else i
      if i < 0 then climbN one block f k (many + 1) last mark (P.shut n)
      else match P.items[i.toNat]? with
        | none => (last, mark, P)
        | some x =>
          let again := P.next
          let P := P.make ⟨2, x.name, x.attrs, ⟨#[]⟩, -1, []⟩
          let P := { P with items := P.items.set i.toNat { x with node := again }, opens := P.opens.set k again }
          let mark := if last = block then i.toNat + 1 else mark
          let P := P.leave last
          let P := P.put (P.behind again) last
          climbN one block f k (many + 1) again mark P
def climb (one : Int) (k mark : Nat) : Int × Nat × PS := climbN one (P.opens.getD k 0) (k + 1) k 1 (P.opens.getD k 0) mark P
def move (one block : Int) (mark : Nat) : PS :=
  let i := P.item one
  match P.items[i.toNat]? with
  | none => P
  | some x =>
    let again := P.next
    let Q := P.make ⟨2, x.name, x.attrs, ⟨#[]⟩, -1, []⟩
    let Q := (Q.nd block).kids.foldl (fun Q k => let Q := Q.leave k; Q.put (Q.behind again) k) Q
    let Q := Q.put (Q.behind block) again
    let Q := Q.forget one
    let mark := if i < (mark : Int) then mark - 1 else mark
    let Q := { Q with items := Q.items.take mark ++ { x with node := again } :: Q.items.drop mark }
    let Q := Q.shut one
    { Q with opens := Q.opens.take (Q.opens.idxOf block + 1) ++ again :: Q.opens.drop (Q.opens.idxOf block + 1) }
/-- An item is adopted; false: that is all. -/
def once (i : Nat) : Bool × PS := match P.items[i]? with
  | none => (false, P)
  | some x =>
    let one := x.node
    if P.opens.contains one = false then (false, P.forget one)
    else
      let at_ := P.opens.idxOf one
      if P.barred at_ then (false, P)
      else if P.block at_ < 0 then (false, { P with opens := P.opens.take (max at_ 1) }.forget one)
      else
        let k := (P.block at_).toNat
        let blk := P.opens.getD k 0
        let above := P.opens.getD (at_ - 1) 0
        let r := P.climb one k i
        let Q := r.2.2.leave r.1
        let Q := Q.put (Q.place above) r.1
        (true, Q.move one blk r.2.1)
def adoptN : Nat → ByteArray → PS → PS
  | 0, _, P => P
  | f + 1, nm, P =>
    let i := foundRev nm P.items.reverse
    if i < 0 then P.other nm
    else if (P.once i.toNat).1 then adoptN f nm (P.once i.toNat).2 else (P.once i.toNat).2
def adopt (nm : ByteArray) : PS := if P.current.toList == nm.toList ∧ P.item P.top < 0 then P.pop else adoptN 8 nm P
/-! ### in a body -/
def blockS (t : Tk) : PS := P.closeP.start t.name t.attrs
def itemRev (list : ByteArray) : PS → List Int → PS
  | P, [] => P
  | P, n :: r => if oneB (P.name n) list then P.closed (P.name n) (⟨#[32]⟩ ++ P.name n ++ ⟨#[32]⟩) else if specialB (P.name n) && !oneB (P.name n) (⟨#[32, 97, 100, 100, 114, 101, 115, 115, 32, 100, 105, 118, 32, 112, 32]⟩ : ByteArray) then P else itemRev list P r
def itemS (t : Tk) (list : ByteArray) : PS := (itemRev list P P.opens.reverse).blockS t
def formatted (t : Tk) : PS :=
  let P := if t.name.toList == ((⟨#[97]⟩ : ByteArray)).toList then (match P.items[(foundRev (⟨#[97]⟩ : ByteArray) P.items.reverse).toNat]? with
    | some x => if 0 ≤ foundRev (⟨#[97]⟩ : ByteArray) P.items.reverse then ((P.adopt (⟨#[97]⟩ : ByteArray)).forget x.node).shut x.node else P
    | none => P) else P
  let P := P.reopen
  let P := if (t.name.toList == ((⟨#[110, 111, 98, 114]⟩ : ByteArray)).toList) && P.inS (⟨#[110, 111, 98, 114]⟩ : ByteArray) 1 then (P.adopt (⟨#[110, 111, 98, 114]⟩ : ByteArray)).reopen else P
  P.format t.name t.attrs
def bodyOther (t : Tk) : Bool × PS :=
  if st t (⟨#[32, 116, 97, 98, 108, 101, 32]⟩ : ByteArray) then ((if P.quirks then P else P.closeP).start t.name t.attrs).into 7 false
  else if st t (⟨#[32, 115, 111, 117, 114, 99, 101, 32, 116, 114, 97, 99, 107, 32, 112, 97, 114, 97, 109, 32]⟩ : ByteArray) then (false, P.lone t.name t.attrs)
  else if st t cellsL || st t (⟨#[32, 104, 101, 97, 100, 32]⟩ : ByteArray) then (false, P)
  else
    let P := if st t (⟨#[32, 111, 112, 116, 103, 114, 111, 117, 112, 32, 111, 112, 116, 105, 111, 110, 32]⟩ : ByteArray) && (P.current.toList == ((⟨#[111, 112, 116, 105, 111, 110]⟩ : ByteArray)).toList) then P.pop else P
    let P := P.reopen
    if st t (⟨#[32, 105, 109, 97, 103, 101, 32]⟩ : ByteArray) then (false, P.lone (⟨#[105, 109, 103]⟩ : ByteArray) t.attrs)
    else if st t (⟨#[32, 97, 114, 101, 97, 32, 98, 114, 32, 101, 109, 98, 101, 100, 32, 105, 109, 103, 32, 105, 110, 112, 117, 116, 32, 119, 98, 114, 32]⟩ : ByteArray) then (false, P.lone t.name t.attrs)
    else
      let P := P.start t.name t.attrs
      if t.name.toList == ((⟨#[115, 101, 108, 101, 99, 116]⟩ : ByteArray)).toList then (if P.mode = 7 ∨ P.mode = 8 ∨ P.mode = 10 ∨ P.mode = 11 ∨ P.mode = 12 then P.into 14 false else P.into 13 false)
      else (false, P)
def bodyStart (t : Tk) : Bool × PS :=
  if st t headsL || st t rawsL then P.inHead t
  else if st t (⟨#[32, 98, 111, 100, 121, 32]⟩ : ByteArray) then (false, if 1 < P.opens.length ∧ (P.name (P.opens.getD 1 0)).toList == ((⟨#[98, 111, 100, 121]⟩ : ByteArray)).toList then P.merge 1 t else P)
  else if st t blocksL || st t (⟨#[32, 112, 32]⟩ : ByteArray) then (false, P.blockS t)
  else if st t headingL then
    let P := P.closeP
    let P := if headingB P.current then P.pop else P
    (false, P.start t.name t.attrs)
  else if st t (⟨#[32, 112, 114, 101, 32]⟩ : ByteArray) then (false, { P.blockS t with fresh := true })
  else if st t (⟨#[32, 102, 111, 114, 109, 32]⟩ : ByteArray) then (false, if P.form < 0 then { P.blockS t with form := (P.blockS t).top } else P)
  else if st t (⟨#[32, 108, 105, 32]⟩ : ByteArray) then (false, P.itemS t (⟨#[32, 108, 105, 32]⟩ : ByteArray))
  else if st t (⟨#[32, 100, 100, 32, 100, 116, 32]⟩ : ByteArray) then (false, P.itemS t (⟨#[32, 100, 100, 32, 100, 116, 32]⟩ : ByteArray))
  else if st t (⟨#[32, 98, 117, 116, 116, 111, 110, 32]⟩ : ByteArray) then
    let P := if P.inS (⟨#[98, 117, 116, 116, 111, 110]⟩ : ByteArray) 1 then P.closed ⟨#[]⟩ (⟨#[32, 98, 117, 116, 116, 111, 110, 32]⟩ : ByteArray) else P
    (false, P.reopen.start t.name t.attrs)
  else if formattingB t.name then (false, P.formatted t)
  else if st t (⟨#[32, 104, 114, 32]⟩ : ByteArray) then (false, P.closeP.lone t.name t.attrs)
  else if st t (⟨#[32, 116, 101, 120, 116, 97, 114, 101, 97, 32]⟩ : ByteArray) then (false, { P with fresh := true }.rawText t)
  else P.bodyOther t
def endForm : PS :=
  let n := P.form
  let Q := { P with form := -1 }
  match (List.range P.opens.length).find? fun i => (P.opens.getD i 0 == n) && !P.barred i with
  | some _ => (Q.implied ⟨#[]⟩).shut n
  | none => Q
def bodyEnd (t : Tk) : Bool × PS :=
  let list := ⟨#[32]⟩ ++ t.name ++ ⟨#[32]⟩
  if en t (⟨#[32, 98, 111, 100, 121, 32, 104, 116, 109, 108, 32]⟩ : ByteArray) then (if P.inS (⟨#[98, 111, 100, 121]⟩ : ByteArray) 1 then P.into 15 (t.name.toList == ((⟨#[104, 116, 109, 108]⟩ : ByteArray)).toList) else (false, P))
  else if en t blocksL || en t (⟨#[32, 112, 114, 101, 32, 98, 117, 116, 116, 111, 110, 32]⟩ : ByteArray) then (false, if P.inS t.name 1 then P.closed ⟨#[]⟩ list else P)
  else if en t (⟨#[32, 102, 111, 114, 109, 32]⟩ : ByteArray) then (false, P.endForm)
  else if en t (⟨#[32, 112, 32]⟩ : ByteArray) then (false, (if P.inS (⟨#[112]⟩ : ByteArray) 3 then P else P.start (⟨#[112]⟩ : ByteArray) []).closeP)
  else if en t (⟨#[32, 108, 105, 32]⟩ : ByteArray) then (false, if P.inS t.name 2 then P.closed t.name list else P)
  else if en t (⟨#[32, 100, 100, 32, 100, 116, 32]⟩ : ByteArray) then (false, if P.inS t.name 1 then P.closed t.name list else P)
  else if en t headingL then (false, if P.anyIn headingL 1 then P.closed ⟨#[]⟩ headingL else P)
  else if formattingB t.name then (false, P.adopt t.name)
  else if en t (⟨#[32, 98, 114, 32]⟩ : ByteArray) then (false, P.reopen.lone (⟨#[98, 114]⟩ : ByteArray) [])
  else (false, P.other t.name)
def inBody (t : Tk) : Bool × PS :=
  if t.kind = 3 then (false, P.reopen.text t.text)
  else if (P.said t).1 then (false, (P.said t).2)
  else if over t then (false, P)
  else if t.kind = 1 then P.bodyStart t
  else P.bodyEnd t
def afterBody (t : Tk) : Bool × PS :=
  if headT t ≠ [] then P.inBody t
  else if t.kind = 4 then (false, P.comment (P.behind (P.opens.headD 0)) t.text)
  else if (P.said t).1 then (false, (P.said t).2)
  else if over t then (false, P)
  else if en t (⟨#[32, 104, 116, 109, 108, 32]⟩ : ByteArray) then (false, if P.context.size = 0 then { P with mode := 16 } else P)
  else P.into 6 true
def afterAfter (t : Tk) : Bool × PS :=
  if headT t ≠ [] then P.inBody t
  else if t.kind = 4 then (false, P.comment (P.behind 0) t.text)
  else if (P.said t).1 then (false, (P.said t).2)
  else if over t then (false, P)
  else P.into 6 true
end PS
end Go.Proofs.YtegcedboeemedaaGreatDoor

/-
The parser of tokens, in plain words: tables, selects, the modes together, all tokens, a document.
-/
namespace Go.Proofs.YtegcedboeemedaaGreatDoor
open Go.RowKit Go.Cl
namespace PS
variable (P : PS)
def fostered (t : Tk) : Bool × PS := let r := { P with foster := true }.inBody t; (r.1, { r.2 with foster := false })
/-- The value of an attribute of a name, or none. -/
def ofL (ats : List DAttr) (nm : ByteArray) : ByteArray := match ats.find? fun a => a.1.toList == nm.toList with
  | some a => a.2
  | none => ⟨#[]⟩
def hidden (t : Tk) : Bool := st t (⟨#[32, 105, 110, 112, 117, 116, 32]⟩ : ByteArray) && Lib.equalFold (ofL t.attrs (⟨#[116, 121, 112, 101]⟩ : ByteArray)).data.toList ([104, 105, 100, 100, 101, 110] : List UInt8)
def up (nm : ByteArray) : Bool × PS := if P.inS nm 4 then (true, P.until_ (⟨#[32]⟩ ++ nm ++ ⟨#[32]⟩)) else (false, P)
def above (nm : ByteArray) (i : Nat) : Bool := (P.opens.take i).any fun n => (P.name n).toList == nm.toList
/-- The mode that a name tells at a place of what is open; -1: none. -/
def resets (nm : ByteArray) (i : Nat) : Int :=
  if (nm.toList == ((⟨#[115, 101, 108, 101, 99, 116]⟩ : ByteArray)).toList) && decide (0 < i) && P.above (⟨#[116, 97, 98, 108, 101]⟩ : ByteArray) i then 14
  else if nm.toList == ((⟨#[115, 101, 108, 101, 99, 116]⟩ : ByteArray)).toList then 13
  else if oneB nm (⟨#[32, 116, 100, 32, 116, 104, 32]⟩ : ByteArray) && decide (0 < i) then 12
  else if nm.toList == ((⟨#[116, 114]⟩ : ByteArray)).toList then 11
  else if oneB nm rowsL then 10
  else if nm.toList == ((⟨#[99, 97, 112, 116, 105, 111, 110]⟩ : ByteArray)).toList then 8
  else if nm.toList == ((⟨#[99, 111, 108, 103, 114, 111, 117, 112]⟩ : ByteArray)).toList then 9
  else if nm.toList == ((⟨#[116, 97, 98, 108, 101]⟩ : ByteArray)).toList then 7
  else if (nm.toList == ((⟨#[104, 101, 97, 100]⟩ : ByteArray)).toList) && decide (0 < i) then 3
  else if nm.toList == ((⟨#[98, 111, 100, 121]⟩ : ByteArray)).toList then 6
  else if (nm.toList == ((⟨#[104, 116, 109, 108]⟩ : ByteArray)).toList) && decide (P.head < 0) then 2
  else if nm.toList == ((⟨#[104, 116, 109, 108]⟩ : ByteArray)).toList then 5
  else -1
def resetName (i : Nat) : ByteArray := if i = 0 ∧ P.context.size ≠ 0 then P.context else P.name (P.opens.getD i 0)
def resetN : Nat → Int
  | 0 => 6
  | k + 1 => if 0 ≤ P.resets (P.resetName k) k then P.resets (P.resetName k) k else resetN k
def reset : PS := { P with mode := P.resetN P.opens.length }
def tablePart (t : Tk) : Bool × PS :=
  let P := P.clear (⟨#[32, 116, 97, 98, 108, 101, 32]⟩ : ByteArray)
  if st t (⟨#[32, 99, 97, 112, 116, 105, 111, 110, 32]⟩ : ByteArray) then (P.mark.start t.name t.attrs).into 8 false
  else if st t (⟨#[32, 99, 111, 108, 103, 114, 111, 117, 112, 32]⟩ : ByteArray) then (P.start t.name t.attrs).into 9 false
  else if st t (⟨#[32, 99, 111, 108, 32]⟩ : ByteArray) then (P.start (⟨#[99, 111, 108, 103, 114, 111, 117, 112]⟩ : ByteArray) []).into 9 true
  else if st t rowsL then (P.start t.name t.attrs).into 10 false
  else (P.start (⟨#[116, 98, 111, 100, 121]⟩ : ByteArray) []).into 10 true
def inTable (t : Tk) : Bool × PS :=
  if t.kind = 3 ∧ restT t = [] ∧ Lib.contains ((⟨#[32, 116, 97, 98, 108, 101, 32, 116, 98, 111, 100, 121, 32, 116, 102, 111, 111, 116, 32, 116, 104, 101, 97, 100, 32, 116, 114, 32]⟩ : ByteArray)).data.toList ((⟨#[32]⟩ ++ P.current ++ ⟨#[32]⟩ : ByteArray)).data.toList = true then (false, P.text t.text)
  else if t.kind = 4 then (!(P.said t).1, (P.said t).2)
  else if st t cellsL then P.tablePart t
  else if st t (⟨#[32, 116, 97, 98, 108, 101, 32]⟩ : ByteArray) then (if (P.up (⟨#[116, 97, 98, 108, 101]⟩ : ByteArray)).1 then (true, (P.up (⟨#[116, 97, 98, 108, 101]⟩ : ByteArray)).2.reset) else (false, (P.up (⟨#[116, 97, 98, 108, 101]⟩ : ByteArray)).2))
  else if en t (⟨#[32, 116, 97, 98, 108, 101, 32]⟩ : ByteArray) then (false, if (P.up (⟨#[116, 97, 98, 108, 101]⟩ : ByteArray)).1 then (P.up (⟨#[116, 97, 98, 108, 101]⟩ : ByteArray)).2.reset else (P.up (⟨#[116, 97, 98, 108, 101]⟩ : ByteArray)).2)
  else if en t cellsL || en t (⟨#[32, 98, 111, 100, 121, 32, 104, 116, 109, 108, 32]⟩ : ByteArray) then (false, P)
  else if st t (⟨#[32, 115, 116, 121, 108, 101, 32, 115, 99, 114, 105, 112, 116, 32]⟩ : ByteArray) then P.inHead t
  else if hidden t then (false, P.lone t.name t.attrs)
  else if st t (⟨#[32, 102, 111, 114, 109, 32]⟩ : ByteArray) then (false, if P.form < 0 then { P.start t.name t.attrs with form := P.next }.pop else P)
  else P.fostered t
def inCaption (t : Tk) : Bool × PS :=
  if en t (⟨#[32, 99, 97, 112, 116, 105, 111, 110, 32, 116, 97, 98, 108, 101, 32]⟩ : ByteArray) || st t cellsL then
    (if P.inS (⟨#[99, 97, 112, 116, 105, 111, 110]⟩ : ByteArray) 4 = false then (false, P) else (P.closed ⟨#[]⟩ (⟨#[32, 99, 97, 112, 116, 105, 111, 110, 32]⟩ : ByteArray)).unmark.into 7 (!en t (⟨#[32, 99, 97, 112, 116, 105, 111, 110, 32]⟩ : ByteArray)))
  else if en t cellsL || en t (⟨#[32, 98, 111, 100, 121, 32, 104, 116, 109, 108, 32]⟩ : ByteArray) then (false, P)
  else P.inBody t
def inColumns (t : Tk) : Bool × PS :=
  if headT t ≠ [] then (false, P.text (bs (headT t)))
  else if (P.said t).1 then (false, (P.said t).2)
  else if over t || en t (⟨#[32, 99, 111, 108, 32]⟩ : ByteArray) then (false, P)
  else if st t (⟨#[32, 99, 111, 108, 32]⟩ : ByteArray) then (false, P.lone t.name t.attrs)
  else if (P.current.toList == ((⟨#[99, 111, 108, 103, 114, 111, 117, 112]⟩ : ByteArray)).toList) = false then (false, P)
  else P.pop.into 7 (!en t (⟨#[32, 99, 111, 108, 103, 114, 111, 117, 112, 32]⟩ : ByteArray))
def inRows (t : Tk) : Bool × PS :=
  if st t (⟨#[32, 116, 114, 32]⟩ : ByteArray) then ((P.clear rowsL).start t.name t.attrs).into 11 false
  else if st t (⟨#[32, 116, 100, 32, 116, 104, 32]⟩ : ByteArray) then ((P.clear rowsL).start (⟨#[116, 114]⟩ : ByteArray) []).into 11 true
  else if en t rowsL then (if P.inS t.name 4 = false then (false, P) else (P.clear rowsL).pop.into 7 false)
  else if st t cellsL || en t (⟨#[32, 116, 97, 98, 108, 101, 32]⟩ : ByteArray) then (if P.anyIn rowsL 4 = false then (false, P) else (P.clear rowsL).pop.into 7 true)
  else if en t cellsL || en t (⟨#[32, 98, 111, 100, 121, 32, 104, 116, 109, 108, 32]⟩ : ByteArray) then (false, P)
  else P.inTable t
def inRow (t : Tk) : Bool × PS :=
  if st t (⟨#[32, 116, 100, 32, 116, 104, 32]⟩ : ByteArray) then (((P.clear (⟨#[32, 116, 114, 32]⟩ : ByteArray)).start t.name t.attrs).mark).into 12 false
  else if en t (⟨#[32, 116, 114, 32, 116, 97, 98, 108, 101, 32]⟩ : ByteArray) || st t cellsL || en t rowsL then
    (if P.inS (⟨#[116, 114]⟩ : ByteArray) 4 = false ∨ (en t rowsL = true ∧ P.inS t.name 4 = false) then (false, P) else (P.clear (⟨#[32, 116, 114, 32]⟩ : ByteArray)).pop.into 10 (!en t (⟨#[32, 116, 114, 32]⟩ : ByteArray)))
  else if en t cellsL || en t (⟨#[32, 98, 111, 100, 121, 32, 104, 116, 109, 108, 32]⟩ : ByteArray) then (false, P)
  else P.inTable t
def endCell (list : ByteArray) : PS := { (P.closed ⟨#[]⟩ list).unmark with mode := 11 }
def inCell (t : Tk) : Bool × PS :=
  if en t (⟨#[32, 116, 100, 32, 116, 104, 32]⟩ : ByteArray) then (false, if P.inS t.name 4 then P.endCell (⟨#[32]⟩ ++ t.name ++ ⟨#[32]⟩) else P)
  else if st t cellsL then (if P.anyIn (⟨#[32, 116, 100, 32, 116, 104, 32]⟩ : ByteArray) 4 then (true, P.endCell (⟨#[32, 116, 100, 32, 116, 104, 32]⟩ : ByteArray)) else (false, P))
  else if en t (⟨#[32, 98, 111, 100, 121, 32, 99, 97, 112, 116, 105, 111, 110, 32, 99, 111, 108, 32, 99, 111, 108, 103, 114, 111, 117, 112, 32, 104, 116, 109, 108, 32]⟩ : ByteArray) then (false, P)
  else if en t (⟨#[32, 116, 97, 98, 108, 101, 32, 116, 98, 111, 100, 121, 32, 116, 102, 111, 111, 116, 32, 116, 104, 101, 97, 100, 32, 116, 114, 32]⟩ : ByteArray) then (if P.inS t.name 4 then (true, P.endCell (⟨#[32, 116, 100, 32, 116, 104, 32]⟩ : ByteArray)) else (false, P))
  else P.inBody t
def endSelect : Bool × PS := if P.inS (⟨#[115, 101, 108, 101, 99, 116]⟩ : ByteArray) 5 then (true, (P.until_ (⟨#[32, 115, 101, 108, 101, 99, 116, 32]⟩ : ByteArray)).reset) else (false, P)
def popIf (nm : ByteArray) : PS := if P.current.toList == nm.toList then P.pop else P
def inSelect (t : Tk) : Bool × PS :=
  if t.kind = 3 then (false, P.text t.text)
  else if (P.said t).1 then (false, (P.said t).2)
  else if over t then (false, P)
  else if st t (⟨#[32, 111, 112, 116, 105, 111, 110, 32, 111, 112, 116, 103, 114, 111, 117, 112, 32, 104, 114, 32]⟩ : ByteArray) then
    let P := P.popIf (⟨#[111, 112, 116, 105, 111, 110]⟩ : ByteArray)
    let P := if t.name.toList == ((⟨#[111, 112, 116, 105, 111, 110]⟩ : ByteArray)).toList then P else P.popIf (⟨#[111, 112, 116, 103, 114, 111, 117, 112]⟩ : ByteArray)
    let P := P.start t.name t.attrs
    (false, if t.name.toList == ((⟨#[104, 114]⟩ : ByteArray)).toList then P.pop else P)
  else if en t (⟨#[32, 111, 112, 116, 103, 114, 111, 117, 112, 32]⟩ : ByteArray) then
    let P := if 1 < P.opens.length ∧ (P.name (P.opens.getD (P.opens.length - 2) 0)).toList == ((⟨#[111, 112, 116, 103, 114, 111, 117, 112]⟩ : ByteArray)).toList then P.popIf (⟨#[111, 112, 116, 105, 111, 110]⟩ : ByteArray) else P
    (false, P.popIf (⟨#[111, 112, 116, 103, 114, 111, 117, 112]⟩ : ByteArray))
  else if en t (⟨#[32, 111, 112, 116, 105, 111, 110, 32]⟩ : ByteArray) then (false, P.popIf (⟨#[111, 112, 116, 105, 111, 110]⟩ : ByteArray))
  else if st t (⟨#[32, 115, 101, 108, 101, 99, 116, 32]⟩ : ByteArray) || en t (⟨#[32, 115, 101, 108, 101, 99, 116, 32]⟩ : ByteArray) then (false, P.endSelect.2)
  else if st t (⟨#[32, 105, 110, 112, 117, 116, 32, 116, 101, 120, 116, 97, 114, 101, 97, 32]⟩ : ByteArray) then P.endSelect
  else if st t (⟨#[32, 115, 99, 114, 105, 112, 116, 32]⟩ : ByteArray) then P.inHead t
  else (false, P)
abbrev selL : ByteArray := (⟨#[32, 99, 97, 112, 116, 105, 111, 110, 32, 116, 97, 98, 108, 101, 32, 116, 98, 111, 100, 121, 32, 116, 102, 111, 111, 116, 32, 116, 104, 101, 97, 100, 32, 116, 114, 32, 116, 100, 32, 116, 104, 32]⟩ : ByteArray)
def inSelectTable (t : Tk) : Bool × PS :=
  if st t selL || (en t selL && P.inS t.name 4) then (true, (P.until_ (⟨#[32, 115, 101, 108, 101, 99, 116, 32]⟩ : ByteArray)).reset)
  else if en t selL then (false, P)
  else P.inSelect t
/-- A token, by a mode. -/
def take (mode : Int) (t : Tk) : Bool × PS :=
  if mode = 0 then P.initial t
  else if mode = 1 then P.beforeHTML t
  else if mode = 2 then P.beforeHead t
  else if mode = 3 then P.inHead t
  else if mode = 4 then P.raw t
  else if mode = 5 then P.afterHead t
  else if mode = 6 then P.inBody t
  else if mode = 7 then P.inTable t
  else if mode = 8 then P.inCaption t
  else if mode = 9 then P.inColumns t
  else if mode = 10 then P.inRows t
  else if mode = 11 then P.inRow t
  else if mode = 12 then P.inCell t
  else if mode = 13 then P.inSelect t
  else if mode = 14 then P.inSelectTable t
  else if mode = 15 then P.afterBody t
  else P.afterAfter t
def parts (mode : Int) : Bool := decide (mode ≤ 2) || mode == 3 || mode == 5 || mode == 9 || decide (15 ≤ mode)
/-- The blanks ahead of a text alone. -/
def onlyT (t : Tk) : Tk := { t with text := bs (headT t) }
def restTk (t : Tk) : Tk := { t with text := bs (restT t) }
/-- The same, none where so many times are not enough. -/
def takesO : Nat → Tk → PS → Option PS
  | 0, _, _ => none
  | f + 1, t, P => if (P.take P.mode t).1 then takesO f t (P.take P.mode t).2 else some (P.take P.mode t).2
def parted (P : PS) (t : Tk) : Bool := parts P.mode && !(headT t).isEmpty && !(restT t).isEmpty
def oneO : Nat → Tk → PS → Option PS
  | 0, _, _ => none
  | f + 1, t, P =>
    if P.parted t then (takesO f (onlyT t) P).bind (oneO f (restTk t))
    else if (P.take P.mode t).1 then oneO f t (P.take P.mode t).2 else some (P.take P.mode t).2
def freshTk (t : Tk) (fresh : Bool) : Tk := if fresh && (t.kind == 3) then { t with text := bs (match t.text.data.toList with | 10 :: r => r | r => r) } else t
def overT : Tk := ⟨0, ⟨#[]⟩, [], ⟨#[]⟩, false⟩
def one_ (f : Nat) (t : Tk) : Option PS :=
  let u := freshTk t P.fresh
  let Q := { P with fresh := false }
  if (u.kind = 3 ∧ u.text.size = 0) ∨ (u.kind = 5 ∧ P.mode ≠ 0) then some Q else oneO f u Q
def onesO (f : Nat) : List Tk → PS → Option PS
  | [], P => some P
  | t :: l, P => (P.one_ f t).bind (onesO f l)
def allO (f : Nat) (l : List Tk) : Option PS := (onesO f l P).bind fun Q => Q.one_ f overT
/-- A parser ahead of a document. -/
def begun : PS := ⟨[⟨1, ⟨#[]⟩, [], ⟨#[]⟩, -1, []⟩], [0], [], false, 0, 0, -1, -1, false, ⟨#[]⟩, false⟩
end PS
end Go.Proofs.YtegcedboeemedaaGreatDoor

/-
A document of the call's own: a node more, what lies elsewhere turns (as in EdWalksB, for the builder's seats).
-/
namespace Go.Proofs.YtegcedboeemedaaGreatDoor
open Go.RowKit Go.Cl
attribute [local go_sem ↓] Go.wp_at_zero Go.wp_at_succ
theorem app_last {α : Type} (l : List α) (a : α) : (l ++ [a])[l.length]? = some a := by
  rw [List.getElem?_append_right (Nat.le_refl _), Nat.sub_self]
  rfl

section
variable {w w1 : World} {base : Nat} {l : List Nd} {ps : List (Value × Value)}
theorem Parts.grown {x : Nd} {p : Value × Value} {v : Value} {n : Nat} {xs : List (List Value)} (hP : Parts w base x p) (hrow : OwnF tN6 w base 46 v n xs) (hg : w.grownBy w1 v.ownBlock) : Parts w1 base x p :=
  ⟨ownF_kept hP.attrs hg (own_ne (by decide) hP.attrs hrow), ownF_kept hP.kids hg (own_ne (by decide) hP.kids hrow), hP.ok⟩
/-- Rows of unlike blocks. -/
def Apart (p q : Value × Value) : Prop := (p.1.ownBlock = none ∨ p.1.ownBlock ≠ q.1.ownBlock) ∧ (p.2.ownBlock = none ∨ p.2.ownBlock ≠ q.2.ownBlock)
/-- A node more. -/
theorem Ed.app {A v' : Value} {y : Nd} {p : Value × Value} (h : Ed w base A l ps) (hP : Parts w base y p) (hap : ∀ (i : Nat) q, ps[i]? = some q → Apart q p ∧ Apart p q) (hl : l.length < 1000000000) (hg : w.grownBy w1 A.ownBlock) (hrow : OwnF tN6 w1 base 46 v' (l.length + 1) (List.zipWith ndRow l ps ++ [ndRow y p])) :
    Ed w1 base v' (l ++ [y]) (ps ++ [p]) := by
  have hlen := h.len
  have key : ∀ (i : Nat) q, (ps ++ [p])[i]? = some q → (i < l.length ∧ ps[i]? = some q) ∨ (i = l.length ∧ q = p) := fun i q hq => by
    by_cases hi : i < ps.length
    · rw [List.getElem?_append_left hi] at hq
      exact Or.inl ⟨by omega, hq⟩
    · have := (List.getElem?_eq_some_iff.1 hq).1
      rw [List.length_append, List.length_singleton] at this
      have e : i = ps.length := by omega
      subst e
      rw [app_last] at hq
      exact Or.inr ⟨by omega, (Option.some.inj hq).symm⟩
  refine ⟨by simp [hlen], by rw [List.length_append, List.length_singleton]; omega, ?_, fun i x q hx hq => ?_, fun i j a b ha hb hij => ?_⟩
  · rw [List.zipWith_append hlen.symm, List.length_append]
    exact hrow
  · rcases key i q hq with ⟨hi, hq⟩ | ⟨rfl, rfl⟩
    · rw [List.getElem?_append_left hi] at hx
      exact (h.parts i x q hx hq).grown h.row hg
    · rw [app_last] at hx
      obtain rfl := Option.some.inj hx
      exact hP.grown h.row hg
  · rcases key i a ha with ⟨hi, ha2⟩ | ⟨hi, ea⟩
    · rcases key j b hb with ⟨hj, hb2⟩ | ⟨hj, eb⟩
      · exact h.apart i j a b ha2 hb2 hij
      · rw [eb]
        exact (hap i a ha2).1
    · rcases key j b hb with ⟨hj, hb2⟩ | ⟨hj, eb⟩
      · rw [ea]
        exact (hap j b hb2).2
      · omega
/-- What lies elsewhere turns. -/
theorem Ed.other {A : Value} {k : Nat} {cs : Array Value} {e' : TypeId} {fr : Nat × Nat} (h : Ed w base A l ps) (hk : w.heap[k]? = some (.cells cs e' fr)) (h1 : 46 ≠ e') (h2 : 141 ≠ e') (h3 : 3 ≠ e') (hg : w.grownBy w1 (some k)) : Ed w1 base A l ps :=
  ⟨h.len, h.few, ownF_kept h.row hg (Or.inr (own_ne_block h1 h.row hk)), fun i x p hx hp =>
    have hP := h.parts i x p hx hp
    ⟨ownF_kept hP.attrs hg (Or.inr (own_ne_block h2 hP.attrs hk)), ownF_kept hP.kids hg (Or.inr (own_ne_block h3 hP.kids hk)), hP.ok⟩, h.apart⟩
end
theorem elemN6 : ElemOf Tryz.prog 31 46 tN6.size 96 := elemNd
theorem cell_far {w : World} {E i k j : Nat} {v : Value} (h : E ≠ k) (hv : w.cell? ⟨k, j, none⟩ = some v) (u : Value) : (w.setCell ⟨E, i, none⟩ u).cell? ⟨k, j, none⟩ = some v := (World.cell?_setCell_other _ _ _ _ (fun e => h (congrArg Addr.block e))).trans hv
end Go.Proofs.YtegcedboeemedaaGreatDoor

/-
The parser in memory: its box, its rows, and what a store makes of it.
-/
namespace Go.Proofs.YtegcedboeemedaaGreatDoor
open Go.RowKit Go.Cl
attribute [local go_sem ↓] Go.wp_at_zero Go.wp_at_succ
theorem Ed.keptBy {w w1 : World} {base : Nat} {A : Value} {l : List Nd} {ps : List (Value × Value)} {row : Option Nat} (h : Ed w base A l ps) (hg : w.grownBy w1 row) (hA : A.ownBlock = none ∨ A.ownBlock ≠ row)
    (hP : ∀ (i : Nat) p, ps[i]? = some p → (p.1.ownBlock = none ∨ p.1.ownBlock ≠ row) ∧ (p.2.ownBlock = none ∨ p.2.ownBlock ≠ row)) : Ed w1 base A l ps :=
  ⟨h.len, h.few, ownF_kept h.row hg hA, fun i x p hx hp =>
    have hQ := h.parts i x p hx hp
    ⟨ownF_kept hQ.attrs hg (hP i p hp).1, ownF_kept hQ.kids hg (hP i p hp).2, hQ.ok⟩, h.apart⟩
/-- From a on, below b. -/
def rg (a b : Nat) : Nat → Prop := fun k => a ≤ k ∧ k < b
/-- The parser's cells, over its three slices. -/
abbrev psCells (P : PS) (nV oV iV : Value) : Array Value := #[nV, oV, iV, .bool P.foster, .int .i64 P.mode, .int .i64 P.back, .int .i64 P.head, .int .i64 P.form, .bool P.quirks, .string P.context, .bool P.fresh]
/-- A row's own block lies ahead of what was read, or behind it. -/
def OutB (Bp Bt : Nat) (v : Value) : Prop := ∀ k, v.ownBlock = some k → k < Bp ∨ Bt ≤ k
theorem OutB.same {Bp Bt : Nat} {v v' : Value} (h : OutB Bp Bt v) (he : v'.ownBlock = v.ownBlock) : OutB Bp Bt v' := fun k hk => h k (he ▸ hk)
theorem OutB.none {Bp Bt : Nat} {v : Value} (h : v.ownBlock = none) : OutB Bp Bt v := fun k hk => by rw [h] at hk; cases hk
/-- The parser in its box, each of its rows its own; what was read between two bounds lies as it lay in wt. -/
structure PAt (wt w : World) (X base Bp : Nat) (P : PS) (nV oV iV : Value) (ps : List (Value × Value)) : Prop where
  box : w.heap[X]? = some (.cells (psCells P nV oV iV) 88 (0, 0))
  ed : Ed w base nV P.nodes ps
  op : OwnF (tInt .i64) w base 3 oV P.opens.length P.opens
  it : Own tItem w base 289 (rg Bp wt.heap.size) iV P.items.length P.items
  opk : ∀ (i : Nat) p, ps[i]? = some p → p.2.ownBlock = none ∨ p.2.ownBlock ≠ oV.ownBlock
  outN : OutB Bp wt.heap.size nV
  outP : ∀ (i : Nat) p, ps[i]? = some p → OutB Bp wt.heap.size p.1 ∧ OutB Bp wt.heap.size p.2
  outO : OutB Bp wt.heap.size oV
  outI : OutB Bp wt.heap.size iV
  kept : ∀ b, rg Bp wt.heap.size b → w.heap[b]? = wt.heap[b]?
  hX : base ≤ X
  hXB : X < Bp
  hb : base ≤ Bp
  ht : wt.heap.size ≤ w.heap.size
section
variable {wt w w' : World} {X base Bp : Nat} {P : PS} {nV oV iV : Value} {ps : List (Value × Value)}
theorem PAt.low (h : PAt wt w X base Bp P nV oV iV ps) : X < w.heap.size := (Array.getElem?_eq_some_iff.1 h.box).1
theorem PAt.cell (h : PAt wt w X base Bp P nV oV iV ps) (i : Nat) {v : Value} (hv : (psCells P nV oV iV)[i]? = some v) : w.cell? ⟨X, i, none⟩ = some v := cell_blk h.box hv
theorem PAt.fr (h : PAt wt w X base Bp P nV oV iV ps) (i : Nat) : w.frozen? ⟨X, i, none⟩ = false := free_blk h.box
theorem PAt.next (h : PAt wt w X base Bp P nV oV iV ps) (hbw : Below w.heap.size w w') : PAt wt w' X base Bp P nV oV iV ps :=
  ⟨(hbw.block X h.low).trans h.box, h.ed.next hbw, OwnF.below h.op hbw (Nat.le_refl _), Own.below h.it hbw (fun k hk => (Own.lt h.it k hk).2) (fun _ hb => Nat.lt_of_lt_of_le hb.2 h.ht), h.opk, h.outN, h.outP, h.outO, h.outI,
    fun b hb => (hbw.block b (Nat.lt_of_lt_of_le hb.2 h.ht)).trans (h.kept b hb), h.hX, h.hXB, h.hb, Nat.le_trans h.ht hbw.size⟩
theorem PAt.drewN (h : PAt wt w X base Bp P nV oV iV ps) (k : Nat) : PAt wt (w.drewN k) X base Bp P nV oV iV ps := h.next (below_dN (Below.refl _ _) k)
/-- A field of the box alone is stored. -/
theorem PAt.field (h : PAt wt w X base Bp P nV oV iV ps) {Q : PS} {i : Nat} {v : Value} (hi : psCells Q nV oV iV = (psCells P nV oV iV).setIfInBounds i v) (h1 : Q.nodes = P.nodes) (h2 : Q.opens = P.opens) (h3 : Q.items = P.items) : PAt wt (w.setCell ⟨X, i, none⟩ v) X base Bp Q nV oV iV ps := by
  have hg := grown_set w X i v
  have hne : ∀ b, Bp ≤ b → b ≠ X := fun b hb e => by have := h.hXB; omega
  refine ⟨by rw [set_blk h.box, hi], ?_, ?_, ?_, h.opk, h.outN, h.outP, h.outO, h.outI, fun b hb => (hg.block b (Nat.lt_of_lt_of_le hb.2 h.ht) (fun e => by injection e with e; exact hne b hb.1 e)).trans (h.kept b hb), h.hX, h.hXB, h.hb, Nat.le_trans h.ht hg.size⟩
  · rw [h1]; exact h.ed.other h.box (by decide) (by decide) (by decide) hg
  · rw [h2]; exact ownF_kept h.op hg (Or.inr (own_ne_block (by decide) h.op h.box))
  · rw [h3]; exact Own.kept h.it hg (Or.inr (own_ne_block (by decide) h.it h.box)) (fun b hb => ⟨Nat.lt_of_lt_of_le hb.2 h.ht, fun e => by injection e with e; exact hne b hb.1 e⟩)
/-- What is open is turned: a row of its own, old or new, and then the box's cell. -/
theorem PAt.opens (h : PAt wt w X base Bp P nV oV iV ps) {w1 : World} {v : Value} {xs : List Int} (hg : w.grownBy w1 oV.ownBlock) (hv : OwnF (tInt .i64) w1 base 3 v xs.length xs) (hb : v.ownBlock = oV.ownBlock ∨ v.ownBlock = none ∨ ∃ k, v.ownBlock = some k ∧ w.heap.size ≤ k) :
    PAt wt (w1.setCell ⟨X, 1, none⟩ v) X base Bp { P with opens := xs } nV v iV ps := by
  have hXo : oV.ownBlock ≠ some X := own_ne_block (by decide) h.op h.box
  have hA : nV.ownBlock = none ∨ nV.ownBlock ≠ oV.ownBlock := own_ne (by decide) h.ed.row h.op
  have hI : iV.ownBlock = none ∨ iV.ownBlock ≠ oV.ownBlock := own_ne (by decide) h.it h.op
  have hbox : w1.heap[X]? = some (.cells (psCells P nV oV iV) 88 (0, 0)) := (hg.block X h.low (fun e => hXo e.symm)).trans h.box
  have hout : OutB Bp wt.heap.size v := fun k hk => by
    rcases hb with hb | hb | ⟨k', hb, hle⟩
    · exact h.outO k (hb ▸ hk)
    · rw [hb] at hk; cases hk
    · rw [hb] at hk
      injection hk with hk
      subst hk
      exact .inr (Nat.le_trans h.ht hle)
  have hrg : ∀ b, rg Bp wt.heap.size b → some b ≠ oV.ownBlock := fun b hb e => by
    rcases h.outO b e.symm with h1 | h1
    · exact absurd hb.1 (by omega)
    · exact absurd hb.2 (by omega)
  have h1 : PAt wt w1 X base Bp { P with opens := xs } nV v iV ps → True := fun _ => trivial
  clear h1
  have hed : Ed w1 base nV P.nodes ps := h.ed.keptBy hg hA fun i p hp => by
    obtain ⟨x, hx⟩ : ∃ x, P.nodes[i]? = some x := by
      have := (List.getElem?_eq_some_iff.1 hp).1
      rw [h.ed.len] at this
      exact ⟨_, List.getElem?_eq_getElem this⟩
    exact ⟨own_ne (by decide) (h.ed.parts i x p hx hp).attrs h.op, h.opk i p hp⟩
  have hit : Own tItem w1 base 289 (rg Bp wt.heap.size) iV P.items.length P.items := Own.kept h.it hg hI fun b hb => ⟨Nat.lt_of_lt_of_le hb.2 h.ht, hrg b hb⟩
  have hg2 := grown_set w1 X 1 v
  have hne : ∀ b, Bp ≤ b → b ≠ X := fun b hb e => by have := h.hXB; omega
  have hk1 : ∀ b, rg Bp wt.heap.size b → w1.heap[b]? = wt.heap[b]? := fun b hb => (hg.block b (Nat.lt_of_lt_of_le hb.2 h.ht) (hrg b hb)).trans (h.kept b hb)
  have ht1 : wt.heap.size ≤ w1.heap.size := Nat.le_trans h.ht hg.size
  refine ⟨by rw [set_blk hbox]; rfl, hed.other hbox (by decide) (by decide) (by decide) hg2, ownF_kept hv hg2 (Or.inr (own_ne_block (by decide) hv hbox)), Own.kept hit hg2 (Or.inr (own_ne_block (by decide) hit hbox)) (fun b hb => ⟨Nat.lt_of_lt_of_le hb.2 ht1, fun e => by injection e with e; exact hne b hb.1 e⟩), fun i p hp => ?_, h.outN, h.outP, hout, h.outI,
    fun b hb => (hg2.block b (Nat.lt_of_lt_of_le hb.2 ht1) (fun e => by injection e with e; exact hne b hb.1 e)).trans (hk1 b hb), h.hX, h.hXB, h.hb, Nat.le_trans ht1 hg2.size⟩
  obtain ⟨x, hx⟩ : ∃ x, P.nodes[i]? = some x := by
    have := (List.getElem?_eq_some_iff.1 hp).1
    rw [h.ed.len] at this
    exact ⟨_, List.getElem?_eq_getElem this⟩
  rcases hb with hb | hb | ⟨k', hb, hle⟩
  · rw [hb]; exact h.opk i p hp
  · rw [hb]
    cases hq : p.2.ownBlock with
    | none => exact .inl rfl
    | some _ => exact .inr (by simp)
  · rw [hb]
    cases hq : p.2.ownBlock with
    | none => exact .inl rfl
    | some k2 =>
      right
      intro e
      injection e with e
      have := (Own.lt (h.ed.parts i x p hx hp).kids k2 hq).2
      omega
end
/-- Blocks of other types than the parser's own rows have lie as they lay. -/
def KeepT (w w' : World) : Prop := ∀ (b : Nat) (cs : Array Value) (e : TypeId) (fr : Nat × Nat), w.heap[b]? = some (.cells cs e fr) → e ≠ 88 → e ≠ 46 → e ≠ 3 → e ≠ 289 → e ≠ 141 → w'.heap[b]? = some (.cells cs e fr)
theorem KeepT.refl (w : World) : KeepT w w := fun _ _ _ _ h _ _ _ _ _ => h
theorem KeepT.trans {a b c : World} (h : KeepT a b) (k : KeepT b c) : KeepT a c := fun i cs e fr hi h1 h2 h3 h4 h5 => k i cs e fr (h i cs e fr hi h1 h2 h3 h4 h5) h1 h2 h3 h4 h5
theorem KeepT.below {w w' : World} (h : Below w.heap.size w w') : KeepT w w' := fun b _ _ _ hb _ _ _ _ _ => (h.block b (Array.getElem?_eq_some_iff.1 hb).1).trans hb
theorem KeepT.row {w w' : World} {g : Nat} {cs0 : Array Value} {e0 : TypeId} {fr0 : Nat × Nat} (h0 : w.heap[g]? = some (.cells cs0 e0 fr0)) (he : e0 = 88 ∨ e0 = 46 ∨ e0 = 3 ∨ e0 = 289 ∨ e0 = 141) (hg : w.grownBy w' (some g)) : KeepT w w' := fun b cs e fr hb h1 h2 h3 h4 h5 => by
  refine (hg.block b (Array.getElem?_eq_some_iff.1 hb).1 fun k => ?_).trans hb
  injection k with k
  subst k
  rw [h0] at hb
  injection hb with hb
  injection hb with _ hb _
  subst hb
  rcases he with he | he | he | he | he
  · exact h1 he
  · exact h2 he
  · exact h3 he
  · exact h4 he
  · exact h5 he
theorem KeepT.own {α : Type} {T : Ty α} {w w' : World} {base : Nat} {e0 : TypeId} {D : Nat → Prop} {v : Value} {n : Nat} {xs : List α} (h : Own T w base e0 D v n xs) (he : e0 = 88 ∨ e0 = 46 ∨ e0 = 3 ∨ e0 = 289 ∨ e0 = 141) (hg : w.grownBy w' v.ownBlock) : KeepT w w' := by
  cases hv : v.ownBlock with
  | none =>
    rw [hv] at hg
    exact fun b cs e fr hb _ _ _ _ _ => (hg.block b (Array.getElem?_eq_some_iff.1 hb).1 (by simp)).trans hb
  | some g =>
    obtain ⟨cur, hc⟩ := own_block_at h hv
    rw [hv] at hg
    exact KeepT.row hc he hg
/-- What a step of the parser leaves. -/
structure Bd (wt w w' : World) (X base Bp : Nat) (P : PS) : Prop where
  low : Below base w w'
  keep : KeepT w w'
  at_ : ∃ nV oV iV ps, PAt wt w' X base Bp P nV oV iV ps
end Go.Proofs.YtegcedboeemedaaGreatDoor

/-
A region that draws its order and whose last operation stores into a cell that the region loads: a load may be taken first where all operations but that store leave its cell.
-/
namespace Go.Proofs.YtegcedboeemedaaGreatDoor
open Go.RowKit Go.Cl
section
variable {P : Program} {ops : Array Oper} {Q : Exit → Act → World → Prop} {md : Region.Mode} {S : World → Prop} {T : List Nat}
/-- Whatever order is picked from here on, and S holds behind every operation but number s. -/
def wpAnyG (P : Program) (md : Region.Mode) (ops : Array Oper) (Q : Exit → Act → World → Prop) (S : World → Prop) (T : List Nat) : Nat → Array Bool → Act → World → Prop
  | 0, listed, a, w => Region.ready md ops listed = [] ∧ Q .normal a w
  | fuel + 1, listed, a, w =>
    (Region.ready md ops listed = [] → Q .normal a w) ∧
    ∀ i ∈ Region.ready md ops listed, wpOp P ops Q i (fun a' w' => (i ∉ T → S w → S w') ∧ wpAnyG P md ops Q S T fuel (listed.setIfInBounds i true) a' w') a w
theorem wpAny_of_G : ∀ (fuel : Nat) (listed : Array Bool) (a : Act) (w : World), wpAnyG P md ops Q S T fuel listed a w → wpAny P md ops Q fuel listed a w
  | 0, _, _, _, h => h
  | fuel + 1, _, _, _, h => ⟨h.1, fun i hi => wpOp_mono (fun a' w' h' => wpAny_of_G fuel _ a' w' h'.2) (h.2 i hi)⟩
theorem wpAnyG_first {i : Nat} {oi : Oper} {v : Value} (hi : ops[i]? = some oi) (hsel : ∀ (j : Nat) (o : Oper) cs b, ops[j]? = some o → o.op ≠ .select cs b)
    (hQ : ∀ c a w, Q (.panic c) (a.put oi.dst v) w → Q (.panic c) a w) (hst : ∀ s ∈ T, ∀ os, ops[s]? = some os → ∃ e ∈ os.after, Region.binds md e = true ∧ e.on = i) :
    ∀ (fuel : Nat) (listed : Array Bool) (a : Act) (w : World),
      (∀ j oj, ops[j]? = some oj → j ≠ i → listed.getD j true = false → (∀ e ∈ oj.after, Region.binds md e = true → e.on ≠ i) → oi.apart ops oj = true) →
      i ∈ Region.ready md ops listed → YieldsIf P ops S oi v a → S w →
      wpAnyG P md ops Q S T fuel (listed.setIfInBounds i true) (a.put oi.dst v) w → wpAnyG P md ops Q S T (fuel + 1) listed a w := by
  intro fuel
  induction fuel with
  | zero =>
    intro listed a w _ hr hy hS H
    refine ⟨fun h => (by rw [h] at hr; cases hr), fun j hj => ?_⟩
    by_cases hji : j = i
    · subst hji; exact hy.wpOp hi hS ⟨fun _ h => h, H⟩
    · have := ready_mono hj hji
      rw [H.1] at this
      cases this
  | succ fuel ih =>
    intro listed a w hfree hr hy hS H
    refine ⟨fun h => (by rw [h] at hr; cases hr), fun j hj => ?_⟩
    by_cases hji : j = i
    · subst hji; exact hy.wpOp hi hS ⟨fun _ h => h, H⟩
    · have h1 := H.2 j (ready_mono hj hji)
      obtain ⟨hjun, oj, hoj, hall⟩ := mem_ready.1 hj
      have hnot : ∀ e ∈ oj.after, Region.binds md e = true → e.on ≠ i := fun e he hb heq => by
        have h1 := hall e he hb
        have h0 := (mem_ready.1 hr).1
        rw [heq] at h1
        rcases Nat.lt_or_ge i listed.size with h' | h'
        · simp [h'] at h0 h1; rw [h0] at h1; cases h1
        · simp [Array.getElem?_eq_none h'] at h1
      have hjs : j ∉ T := fun hm => by
        obtain ⟨e, he, hb, heq⟩ := hst j hm oj hoj
        exact hnot e he hb heq
      have h2 := wpOp_putIf hoj (hfree j oj hoj hji hjun hnot) (fun cs b => hsel i oi cs b hi) (fun cs b => hsel j oj cs b hoj) hQ hy h1
      have hfree' : ∀ k ok, ops[k]? = some ok → k ≠ i → (listed.setIfInBounds j true).getD k true = false →
          (∀ e ∈ ok.after, Region.binds md e = true → e.on ≠ i) → oi.apart ops ok = true := fun k ok hk hki hun hno => by
        refine hfree k ok hk hki ?_ hno
        by_cases hjk : j = k
        · subst hjk; exact hjun
        · rw [getD_set_ne true hjk] at hun; exact hun
      refine wpOp_mono (fun a' w' h3 => ⟨h3.2.1, ih (listed.setIfInBounds j true) a' w' hfree' (ready_mono hr (Ne.symm hji)) h3.1 (h3.2.1 hjs hS) ?_⟩) h2
      rw [Array.setIfInBounds_comm _ _ hji]
      exact h3.2.2
/-- What yields in whatever world may be taken first. -/
theorem wpAnyG_firstP {i : Nat} {oi : Oper} {v : Value} (hi : ops[i]? = some oi) (hsel : ∀ (j : Nat) (o : Oper) cs b, ops[j]? = some o → o.op ≠ .select cs b)
    (hQ : ∀ c a w, Q (.panic c) (a.put oi.dst v) w → Q (.panic c) a w) :
    ∀ (fuel : Nat) (listed : Array Bool) (a : Act) (w : World),
      (∀ j oj, ops[j]? = some oj → j ≠ i → listed.getD j true = false → (∀ e ∈ oj.after, Region.binds md e = true → e.on ≠ i) → oi.apart ops oj = true) →
      i ∈ Region.ready md ops listed → YieldsIf P ops (fun _ => True) oi v a →
      wpAnyG P md ops Q S T fuel (listed.setIfInBounds i true) (a.put oi.dst v) w → wpAnyG P md ops Q S T (fuel + 1) listed a w := by
  intro fuel
  induction fuel with
  | zero =>
    intro listed a w _ hr hy H
    refine ⟨fun h => (by rw [h] at hr; cases hr), fun j hj => ?_⟩
    by_cases hji : j = i
    · subst hji; exact hy.wpOp hi trivial ⟨fun _ h => h, H⟩
    · have := ready_mono hj hji
      rw [H.1] at this
      cases this
  | succ fuel ih =>
    intro listed a w hfree hr hy H
    refine ⟨fun h => (by rw [h] at hr; cases hr), fun j hj => ?_⟩
    by_cases hji : j = i
    · subst hji; exact hy.wpOp hi trivial ⟨fun _ h => h, H⟩
    · have h1 := H.2 j (ready_mono hj hji)
      obtain ⟨hjun, oj, hoj, hall⟩ := mem_ready.1 hj
      have hnot : ∀ e ∈ oj.after, Region.binds md e = true → e.on ≠ i := fun e he hb heq => by
        have h1 := hall e he hb
        have h0 := (mem_ready.1 hr).1
        rw [heq] at h1
        rcases Nat.lt_or_ge i listed.size with h' | h'
        · simp [h'] at h0 h1; rw [h0] at h1; cases h1
        · simp [Array.getElem?_eq_none h'] at h1
      have h2 := wpOp_putIf hoj (hfree j oj hoj hji hjun hnot) (fun cs b => hsel i oi cs b hi) (fun cs b => hsel j oj cs b hoj) hQ hy h1
      have hfree' : ∀ k ok, ops[k]? = some ok → k ≠ i → (listed.setIfInBounds j true).getD k true = false →
          (∀ e ∈ ok.after, Region.binds md e = true → e.on ≠ i) → oi.apart ops ok = true := fun k ok hk hki hun hno => by
        refine hfree k ok hk hki ?_ hno
        by_cases hjk : j = k
        · subst hjk; exact hjun
        · rw [getD_set_ne true hjk] at hun; exact hun
      refine wpOp_mono (fun a' w' h3 => ⟨h3.2.1, ih (listed.setIfInBounds j true) a' w' hfree' (ready_mono hr (Ne.symm hji)) h3.1 ?_⟩) h2
      rw [Array.setIfInBounds_comm _ _ hji]
      exact h3.2.2
/-- Does an operation wait for another? -/
def waitsB (md : Region.Mode) (ops : Array Oper) (T : List Nat) (i : Nat) : Bool := T.all fun s => match ops[s]? with
  | none => true
  | some o => o.after.any fun e => Region.binds md e && e.on == i
theorem wpAnyG_take {i : Nat} {oi : Oper} {v : Value} {fuel : Nat} {listed : Array Bool} {a : Act} {w : World} (hi : ops[i]? = some oi)
    (hs : Region.noSelect ops = true) (hf : Region.free md ops listed i = true) (hr : (Region.ready md ops listed).contains i = true) (hw : waitsB md ops T i = true)
    (hQ : ∀ c a w, Q (.panic c) (a.put oi.dst v) w → Q (.panic c) a w) (hS : S w) (hg : oi.guard = none) (hy : ∀ w, S w → (execOp a.eval oi).run P w = .ok (.value v) w)
    (h : wpAnyG P md ops Q S T fuel (listed.setIfInBounds i true) (a.put oi.dst v) w) : wpAnyG P md ops Q S T (fuel + 1) listed a w :=
  wpAnyG_first hi (Region.noSelect_spec hs) hQ (fun s hsT os hos => by
    have hw := List.all_eq_true.1 hw s hsT
    rw [hos] at hw
    simp only at hw
    obtain ⟨e, he, hb⟩ := Array.any_eq_true'.1 hw
    rw [Bool.and_eq_true, beq_iff_eq] at hb
    exact ⟨e, he, hb.1, hb.2⟩) fuel listed a w (Region.free_spec hi hf) (by simpa using hr) (.inl ⟨by simp [Region.wanted, hg], hy⟩) hS h
theorem wpAnyG_pure {i : Nat} {oi : Oper} {v : Value} {fuel : Nat} {listed : Array Bool} {a : Act} {w : World} (hi : ops[i]? = some oi)
    (hs : Region.noSelect ops = true) (hf : Region.free md ops listed i = true) (hr : (Region.ready md ops listed).contains i = true)
    (hQ : ∀ c a w, Q (.panic c) (a.put oi.dst v) w → Q (.panic c) a w) (hg : oi.guard = none) (hy : ∀ w, (execOp a.eval oi).run P w = .ok (.value v) w)
    (h : wpAnyG P md ops Q S T fuel (listed.setIfInBounds i true) (a.put oi.dst v) w) : wpAnyG P md ops Q S T (fuel + 1) listed a w :=
  wpAnyG_firstP hi (Region.noSelect_spec hs) hQ fuel listed a w (Region.free_spec hi hf) (by simpa using hr) (.inl ⟨by simp [Region.wanted, hg], fun w _ => hy w⟩) h
/-- One operation alone may come up. -/
theorem wpAnyG_one {i : Nat} {o : Oper} {fuel : Nat} {listed : Array Bool} {a : Act} {w : World} (hr : Region.ready md ops listed = [i]) (hi : ops[i]? = some o) (hg : o.guard = none)
    (h : ∀ K : Act → World → Prop, Hid (∀ a' w', (i ∉ T → S w → S w') → wpAnyG P md ops Q S T fuel (listed.setIfInBounds i true) a' w' → K a' w') → o.wp P a w K Q) : wpAnyG P md ops Q S T (fuel + 1) listed a w := by
  refine ⟨fun h0 => ?_, fun j hj => ?_⟩
  · rw [h0] at hr
    cases hr
  · rw [hr] at hj
    have e : j = i := by simpa using hj
    rw [e]
    unfold wpOp
    simp only [hi]
    rw [if_pos (by simp [Region.wanted, hg])]
    exact Or.inl (h _ (Lib.hid fun _ _ h1 h2 => ⟨h1, h2⟩))
/-- Two may come up. -/
theorem wpAnyG_two {i j : Nat} {oi oj : Oper} {fuel : Nat} {listed : Array Bool} {a : Act} {w : World} (hr : Region.ready md ops listed = [i, j]) (hi : ops[i]? = some oi) (hj : ops[j]? = some oj) (hgi : oi.guard = none) (hgj : oj.guard = none)
    (h1 : ∀ K : Act → World → Prop, Hid (∀ a' w', (i ∉ T → S w → S w') → wpAnyG P md ops Q S T fuel (listed.setIfInBounds i true) a' w' → K a' w') → oi.wp P a w K Q)
    (h2 : ∀ K : Act → World → Prop, Hid (∀ a' w', (j ∉ T → S w → S w') → wpAnyG P md ops Q S T fuel (listed.setIfInBounds j true) a' w' → K a' w') → oj.wp P a w K Q) : wpAnyG P md ops Q S T (fuel + 1) listed a w := by
  refine ⟨fun h0 => ?_, fun k hk => ?_⟩
  · rw [h0] at hr
    cases hr
  · rw [hr] at hk
    have e : k = i ∨ k = j := by simpa using hk
    rcases e with rfl | rfl
    · unfold wpOp
      simp only [hi]
      rw [if_pos (by simp [Region.wanted, hgi])]
      exact Or.inl (h1 _ (Lib.hid fun _ _ h1 h2 => ⟨h1, h2⟩))
    · unfold wpOp
      simp only [hj]
      rw [if_pos (by simp [Region.wanted, hgj])]
      exact Or.inl (h2 _ (Lib.hid fun _ _ h1 h2 => ⟨h1, h2⟩))
theorem wpAnyG_done {listed : Array Bool} {a : Act} {w : World} (hr : Region.ready md ops listed = []) (h : Q .normal a w) : ∀ fuel, wpAnyG P md ops Q S T fuel listed a w
  | 0 => ⟨hr, h⟩
  | _ + 1 => ⟨fun _ => h, by rw [hr]; simp⟩
theorem wp_region_G (S : World → Prop) (T : List Nat) {id : Nat} {a : Act} {w : World} (hm : P.follows .mixedOrders = true)
    (h : wpAnyG P .any ops Q S T ops.size (Array.replicate ops.size false) a w.drew) : (Code.region id ops true).wp P Q a w :=
  wp_region_any hm (wpAny_of_G _ _ _ _ h)
/-- append whose run is known. -/
theorem wp_append_runI {o : Oper} {a : Act} {w : World} {K : Act → World → Prop} (s x : Operand) (t : TypeId)
    (ho : o.op = .call { callee := .builtin .append, args := #[s, x], argTypes := #[t, t] }) (v u : Value) (hv : a.eval s = v) (hx : a.eval x = u) {v' : Value} {w' : World} (hr : (Builtin.append_ #[t, t] o.type #[v, u]).run P w = .ok v' w') (h : K (a.put o.dst v') w') : Oper.wp P o a w K Q := by
  unfold Oper.wp execOp
  simp only [ho, resolve, invoke, builtin, Sem.run_bind, Sem.run_pure, Result.andThen_ok, List.map_toArray, List.map_cons, List.map_nil, hv, hx, hr]
  exact h
/-- .. at a walk, behind a guard. -/
theorem wpList_append_runI {o : Oper} {rest : List Oper} {a : Act} {w : World} (hw : Region.wanted o (yielded ops a.tmps) = true) (s x : Operand) (t : TypeId)
    (ho : o.op = .call { callee := .builtin .append, args := #[s, x], argTypes := #[t, t] }) (v u : Value) (hv : a.eval s = v) (hx : a.eval x = u) {v' : Value} {w' : World} (hr : (Builtin.append_ #[t, t] o.type #[v, u]).run P w = .ok v' w') (h : wpList P ops Q rest (a.put o.dst v') w') : wpList P ops Q (o :: rest) a w :=
  wpList_step fun K hK => by
    rw [if_pos hw]
    exact wp_append_runI s x t ho v u hv hx hr (hK _ _ h)
end
end Go.Proofs.YtegcedboeemedaaGreatDoor

/-
The tree's own functions: what is open, and its names.
-/
namespace Go.Proofs.YtegcedboeemedaaGreatDoor
open Go.RowKit Go.Cl
attribute [local go_sem ↓] Go.wp_at_zero Go.wp_at_succ
section
variable {wt w w' : World} {X base Bp : Nat} {P : PS} {nV oV iV : Value} {ps : List (Value × Value)}
/-- What is open, as a slice. -/
theorem PAt.opens_sl (h : PAt wt w X base Bp P nV oV iV ps) (hl : P.opens.length ≤ 1000000000) : ∃ A c, oV = .slice A P.opens.length c ∧ Sl (tInt .i64) w (lt w.heap.size) A P.opens.length c P.opens := OwnF.sl h.op (by decide) (by show P.opens.length * 8 ≤ _; omega)
theorem open_at {w : World} {D : Nat → Prop} {A : Option Addr} {n c : Nat} {xs : List Int} (h : Sl (tInt .i64) w D A n c xs) {i : Nat} {x : Int} (hx : xs[i]? = some x) : ∃ b o, A = some ⟨b, o, none⟩ ∧ w.cell? ⟨b, o + i, none⟩ = some (.int .i64 x) := by
  obtain ⟨b, o, e, _, hc, _⟩ := h.int hx
  exact ⟨b, o, e, hc⟩
/-- A node in its row. -/
theorem PAt.node (h : PAt wt w X base Bp P nV oV iV ps) {m : Nat} {x : Nd} (hx : P.nodes[m]? = some x) : ∃ g c p, nV = .slice (some ⟨g, 0, none⟩) P.nodes.length c ∧ ps[m]? = some p ∧ Parts w base x p ∧ g < w.heap.size ∧ X ≠ g ∧ ∀ (j : Nat) u, (ndRow x p)[j]? = some u → w.cell? ⟨g, m * 6 + j, none⟩ = some u ∧ w.frozen? ⟨g, m * 6 + j, none⟩ = false := by
  have hm := (List.getElem?_eq_some_iff.1 hx).1
  obtain ⟨g, c, rfl, hbg, hgl, hlc, hfr, hcell⟩ := h.ed.where_ (by omega)
  obtain ⟨p, hp, hP⟩ := h.ed.part_at hx
  refine ⟨g, c, p, rfl, hp, hP, hgl, fun e => own_ne_block (by decide) h.ed.row h.box (by rw [e]; rfl), fun j u hu => ⟨?_, hfr _⟩⟩
  exact hcell m x p hx hp j u hu
theorem top_some (hP : P.opens ≠ []) : P.opens[P.opens.length - 1]? = some P.top := by
  unfold PS.top
  rw [← List.getLast?_eq_getElem?, List.getLastD_eq_getLast?, List.getLast?_eq_some_getLast hP]
  rfl
end
set_option maxRecDepth 100000 in
theorem bdTop_any (wt w : World) (X base Bp : Nat) (P : PS) (nV oV iV : Value) (ps : List (Value × Value)) (h : PAt wt w X base Bp P nV oV iV ps) (h0 : P.opens ≠ []) (hl : P.opens.length ≤ 1000000000) :
    Calls Tryz.prog 273 #[.pointer (some ⟨X, 0, none⟩)] w fun e w' => e = .returned (.int .i64 P.top) ∧ ∃ q, w' = w.drewN q := by
  have hx := top_some h0
  obtain ⟨k, hk⟩ : ∃ k, P.opens.length = k + 1 := ⟨P.opens.length - 1, by have := List.length_pos_iff.2 h0; omega⟩
  obtain ⟨A, c, rfl, hs⟩ := h.opens_sl hl
  rw [hk, Nat.add_sub_cancel] at hx
  obtain ⟨b, o, rfl, c0⟩ := open_at hs hx
  have c1 := h.cell 1 (v := .slice (some ⟨b, o, none⟩) P.opens.length c) rfl
  rw [hk] at c1
  have hkl : k ≤ 1000000000 := by omega
  generalize P.top = x at *
  clear hx hs h hk h0 hl
  go_enter Tryz.func273, Tryz.ntmps273
  have wz : IntKind.i64.wrap (((k + 1 : Nat) : Int) - 1) = (k : Int) := by rw [IntWalk.i64_in _ (by omega)]; omega
  have wz2 : IntKind.i64.wrap ((k : Int) + 1 - 1) = (k : Int) := by rw [IntWalk.i64_in _ (by omega)]; omega
  have wz3 : IntKind.i64.wrap (k : Int) = (k : Int) := IntWalk.i64_in _ (by omega)
  have j1 : (0 : Int) ≤ (k : Int) := by omega
  have j2 : (k : Int) < ((k + 1 : Nat) : Int) := by omega
  have j3 : (k : Int) < (k : Int) + 1 := by omega
  go_upto_region 1 with fail
  go_region_held3 (fun w' => w'.cell? ⟨X, 1, none⟩ = some (.slice (some ⟨b, o, none⟩) (k + 1) c) ∧ w'.cell? ⟨b, o + k, none⟩ = some (.int .i64 x)) (first | go_keep | assumption) (fail)
  go_wp2_with fail
  go_ret
  exact ⟨rfl, 1, rfl⟩
set_option maxRecDepth 100000 in
theorem bdName_any (wt w : World) (X base Bp : Nat) (P : PS) (nV oV iV : Value) (ps : List (Value × Value)) (h : PAt wt w X base Bp P nV oV iV ps) (hl : P.opens.length ≤ 1000000000) {i m : Nat} {x : Nd} (hi : P.opens[i]? = some (m : Int)) (hx : P.nodes[m]? = some x) :
    Calls Tryz.prog 121 #[.pointer (some ⟨X, 0, none⟩), .int .i64 (i : Int)] w fun e w' => e = .returned (.string x.name) ∧ ∃ q, w' = w.drewN q := by
  obtain ⟨A, c, rfl, hs⟩ := h.opens_sl hl
  obtain ⟨b, o, rfl, k0⟩ := open_at hs hi
  obtain ⟨g, cN, p, rfl, hp, hP, hg, hXg, hcell⟩ := h.node hx
  have k1 := (hcell 1 (.string x.name) rfl).1
  have c0 := h.cell 0 (v := .slice (some ⟨g, 0, none⟩) P.nodes.length cN) rfl
  have c1 := h.cell 1 (v := .slice (some ⟨b, o, none⟩) P.opens.length c) rfl
  have i1 : (0 : Int) ≤ (i : Int) := by omega
  have i2 : (i : Int) < (P.opens.length : Int) := by have := (List.getElem?_eq_some_iff.1 hi).1; omega
  have i3 : (0 : Int) ≤ (m : Int) := by omega
  have i4 : (m : Int) < (P.nodes.length : Int) := by have := (List.getElem?_eq_some_iff.1 hx).1; omega
  generalize P.opens.length = nO at *
  generalize P.nodes.length = nN at *
  generalize x.name = nm at *
  clear hs h hl hcell hP hp hx hi
  go_enter Tryz.func121, Tryz.ntmps121
  go_upto_region 1 with fail
  go_region_held3 (fun w' => w'.cell? ⟨X, 0, none⟩ = some (.slice (some ⟨g, 0, none⟩) nN cN) ∧ w'.cell? ⟨X, 1, none⟩ = some (.slice (some ⟨b, o, none⟩) nO c) ∧ w'.cell? ⟨b, o + i, none⟩ = some (.int .i64 m) ∧ w'.cell? ⟨g, m * 6 + 1, none⟩ = some (.string nm)) (first | go_keep | assumption) (fail)
  go_wp2_with fail
  go_ret
  exact ⟨rfl, 1, rfl⟩
/-- What is asked of a state: something is open, and all that is open is a node. -/
structure PS.Ok (P : PS) : Prop where
  few : P.opens.length ≤ 1000000000
  one : P.opens ≠ []
  in_ : ∀ n ∈ P.opens, 0 ≤ n ∧ n.toNat < P.nodes.length
theorem PS.nd_at {P : PS} {m : Nat} (h : m < P.nodes.length) : P.nodes[m]? = some (P.nd (m : Int)) := by
  unfold PS.nd
  rw [Int.toNat_natCast, List.getD_eq_getElem?_getD, List.getElem?_eq_getElem h]
  rfl
theorem PS.Ok.at_ {P : PS} (h : P.Ok) {i : Nat} {n : Int} (hi : P.opens[i]? = some n) : ∃ m : Nat, n = (m : Int) ∧ P.nodes[m]? = some (P.nd n) := by
  obtain ⟨h1, h2⟩ := h.in_ n (List.mem_of_getElem? hi)
  obtain ⟨m, rfl⟩ : ∃ m : Nat, n = (m : Int) := ⟨n.toNat, by omega⟩
  exact ⟨m, rfl, PS.nd_at (by simpa using h2)⟩
set_option maxRecDepth 100000 in
theorem bdCurrent_any (wt w : World) (X base Bp : Nat) (P : PS) (nV oV iV : Value) (ps : List (Value × Value)) (h : PAt wt w X base Bp P nV oV iV ps) (ho : P.Ok) :
    Calls Tryz.prog 242 #[.pointer (some ⟨X, 0, none⟩)] w fun e w' => e = .returned (.string P.current) ∧ ∃ q, w' = w.drewN q := by
  have hi := top_some ho.one
  obtain ⟨m, hm, hx⟩ := ho.at_ hi
  have hl := ho.few
  obtain ⟨k, hk⟩ : ∃ k, P.opens.length = k + 1 := ⟨P.opens.length - 1, by have := List.length_pos_iff.2 ho.one; omega⟩
  rw [hm] at hi
  have HN := Lib.hid (fun (v : World) (hv : PAt wt v X base Bp P nV oV iV ps) => bdName_any wt v X base Bp P nV oV iV ps hv hl hi hx)
  have hc : P.current = (P.nd P.top).name := rfl
  rw [hk, Nat.add_sub_cancel] at HN
  obtain ⟨A, c, rfl, hs⟩ := h.opens_sl hl
  have c1 := h.cell 1 (v := .slice A P.opens.length c) rfl
  rw [hk] at c1
  rw [hc]
  have hkl : k ≤ 1000000000 := by omega
  have wz : IntKind.i64.wrap (((k + 1 : Nat) : Int) - 1) = (k : Int) := by rw [IntWalk.i64_in _ (by omega)]; omega
  have wz2 : IntKind.i64.wrap ((k : Int) + 1 - 1) = (k : Int) := by rw [IntWalk.i64_in _ (by omega)]; omega
  have wz3 : IntKind.i64.wrap (k : Int) = (k : Int) := IntWalk.i64_in _ (by omega)
  have H := Lib.hid h
  generalize (P.nd P.top).name = nm at *
  clear h hi hx hm hs hl hk ho hc
  go_enter Tryz.func242, Tryz.ntmps242
  go_wp2_with (go_at_call 121; refine (HN.out _ H.out).mono ?_; rintro e w1 ⟨rfl, q, rfl⟩)
  go_ret
  exact ⟨rfl, q, rfl⟩
/-- A row of ints cut short. -/
theorem ints_cut {w : World} {base g n c k : Nat} {xs : List Int} (h : OwnF (tInt .i64) w base 3 (.slice (some ⟨g, 0, none⟩) n c) n xs) (hk : k ≤ n) : OwnF (tInt .i64) w base 3 (.slice (some ⟨g, 0, none⟩) k c) k (xs.take k) := by
  obtain ⟨cur, hh, hb, hn, hnc, hcm, hsz, htk, hwf⟩ := own_ints h
  refine own_of hh hb (by rw [List.length_take]; omega) (by omega) hcm hsz ?_ fun x hx => hwf x (List.mem_of_mem_take hx)
  rw [List.map_take, ← htk, List.take_take, Nat.min_eq_left hk]
theorem grown_refl (w : World) (row : Option Nat) : w.grownBy w row := ⟨rfl, rfl, rfl, Nat.le_refl _, fun _ _ _ => rfl⟩
/-- What is open is cut short, and stored. -/
theorem PAt.cut {wt w : World} {X base Bp : Nat} {P : PS} {nV iV : Value} {ps : List (Value × Value)} {g n c k : Nat} (h : PAt wt w X base Bp P nV (.slice (some ⟨g, 0, none⟩) n c) iV ps) (hn : n = P.opens.length) (hk : k ≤ n) :
    PAt wt (w.setCell ⟨X, 1, none⟩ (.slice (some ⟨g, 0, none⟩) k c)) X base Bp { P with opens := P.opens.take k } nV (.slice (some ⟨g, 0, none⟩) k c) iV ps := by
  have ho := h.op
  subst hn
  have hl : (P.opens.take k).length = k := by rw [List.length_take]; omega
  exact h.opens (grown_refl _ _) (by rw [hl]; exact ints_cut ho hk) (.inl rfl)
theorem KeepT.box {wt w : World} {X base Bp : Nat} {P : PS} {nV oV iV : Value} {ps : List (Value × Value)} (h : PAt wt w X base Bp P nV oV iV ps) (i : Nat) (v : Value) : KeepT w (w.setCell ⟨X, i, none⟩ v) := KeepT.row h.box (.inl rfl) (grown_set w X i v)
theorem below_box {base : Nat} (w : World) (X i : Nat) (v : Value) (hX : base ≤ X) : Below base w (w.setCell ⟨X, i, none⟩ v) := (Below.refl base w).setCell (p := ⟨X, i, none⟩) hX v
set_option maxRecDepth 100000 in
theorem bdPop_any (wt w : World) (X base Bp : Nat) (P : PS) (nV oV iV : Value) (ps : List (Value × Value)) (h : PAt wt w X base Bp P nV oV iV ps) (ho : P.Ok) :
    Calls Tryz.prog 236 #[.pointer (some ⟨X, 0, none⟩)] w fun e w' => e = .returned (.tuple #[]) ∧ Bd wt w w' X base Bp P.pop := by
  have hl := ho.few
  obtain ⟨k, hk⟩ : ∃ k, P.opens.length = k + 1 := ⟨P.opens.length - 1, by have := List.length_pos_iff.2 ho.one; omega⟩
  obtain ⟨A, c, rfl, hs⟩ := h.opens_sl hl
  obtain ⟨g, cells, rfl, _⟩ := Own.block h.op (by omega)
  have c1 := h.cell 1 (v := .slice (some ⟨g, 0, none⟩) P.opens.length c) rfl
  have f1 := h.fr 1
  have hcc := hs.hc
  have H := Lib.hid h
  have HK := Lib.hid hk
  by_cases h1 : 1 < P.opens.length
  · have HP : Hid (P.pop = { P with opens := P.opens.take k }) := by
      show _ = _
      unfold PS.pop
      rw [if_pos h1, List.dropLast_eq_take, hk, Nat.add_sub_cancel]
    rw [hk] at c1 h1 hcc hl
    clear h hs ho hk
    have HC := Lib.hid (H.out.cut rfl (k := k) (by have := HK.out; omega))
    have HKB := Lib.hid (KeepT.box H.out 1 (.slice (some ⟨g, 0, none⟩) k c))
    have i0 : (1 : Int) < ((k + 1 : Nat) : Int) := by omega
    have i9 : (1 : Int) < (k : Int) + 1 := by omega
    have wz : IntKind.i64.wrap (((k + 1 : Nat) : Int) - 1) = (k : Int) := by rw [IntWalk.i64_in _ (by omega)]; omega
    have wz2 : IntKind.i64.wrap ((k : Int) + 1 - 1) = (k : Int) := by rw [IntWalk.i64_in _ (by omega)]; omega
    have wz3 : IntKind.i64.wrap (k : Int) = (k : Int) := IntWalk.i64_in _ (by omega)
    have i1 : (0 : Int) ≤ (k : Int) := by omega
    have i2 : (k : Int) ≤ (c : Int) := by omega
    go_enter Tryz.func236, Tryz.ntmps236
    go_upto_region 1 with fail
    refine wp_region_G (S := fun w' : World => w'.cell? ⟨X, 1, none⟩ = some (.slice (some ⟨g, 0, none⟩) (k + 1) c)) (T := [14]) (by kernel_rfl) ?_
    have hS : (fun w' : World => w'.cell? ⟨X, 1, none⟩ = some (.slice (some ⟨g, 0, none⟩) (k + 1) c)) w.drew := c1
    refine wpAnyG_pure (i := 0) (v := ?_) rfl (by kernel_rfl) (by kernel_rfl) (by kernel_rfl) (fun _ _ _ h => h) rfl ?_ ?_
    rotate_left
    · intro w'
      first | (go_simp; done) | (go_simp; with_reducible rfl)
    refine wpAnyG_pure (i := 1) (v := ?_) rfl (by kernel_rfl) (by kernel_rfl) (by kernel_rfl) (fun _ _ _ h => h) rfl ?_ ?_
    rotate_left
    · intro w'
      first | (go_simp; done) | (go_simp; with_reducible rfl)
    refine wpAnyG_pure (i := 2) (v := ?_) rfl (by kernel_rfl) (by kernel_rfl) (by kernel_rfl) (fun _ _ _ h => h) rfl ?_ ?_
    rotate_left
    · intro w'
      first | (go_simp; done) | (go_simp; with_reducible rfl)
    refine wpAnyG_pure (i := 3) (v := ?_) rfl (by kernel_rfl) (by kernel_rfl) (by kernel_rfl) (fun _ _ _ h => h) rfl ?_ ?_
    rotate_left
    · intro w'
      first | (go_simp; done) | (go_simp; with_reducible rfl)
    refine wpAnyG_take (i := 4) (v := ?_) rfl (by kernel_rfl) (by kernel_rfl) (by kernel_rfl) (by kernel_rfl) (fun _ _ _ h => h) hS rfl ?_ ?_
    rotate_left
    · intro w' hSw
      (try dsimp only at hSw)
      first | (go_simp; done) | (go_simp; with_reducible rfl)
    refine wpAnyG_pure (i := 5) (v := ?_) rfl (by kernel_rfl) (by kernel_rfl) (by kernel_rfl) (fun _ _ _ h => h) rfl ?_ ?_
    rotate_left
    · intro w'
      first | (go_simp; done) | (go_simp; with_reducible rfl)
    refine wpAnyG_pure (i := 6) (v := ?_) rfl (by kernel_rfl) (by kernel_rfl) (by kernel_rfl) (fun _ _ _ h => h) rfl ?_ ?_
    rotate_left
    · intro w'
      first | (go_simp; done) | (go_simp; with_reducible rfl)
    refine wpAnyG_pure (i := 7) (v := ?_) rfl (by kernel_rfl) (by kernel_rfl) (by kernel_rfl) (fun _ _ _ h => h) rfl ?_ ?_
    rotate_left
    · intro w'
      first | (go_simp; done) | (go_simp; with_reducible rfl)
    refine wpAnyG_take (i := 8) (v := ?_) rfl (by kernel_rfl) (by kernel_rfl) (by kernel_rfl) (by kernel_rfl) (fun _ _ _ h => h) hS rfl ?_ ?_
    rotate_left
    · intro w' hSw
      (try dsimp only at hSw)
      first | (go_simp; done) | (go_simp; with_reducible rfl)
    refine wpAnyG_pure (i := 9) (v := ?_) rfl (by kernel_rfl) (by kernel_rfl) (by kernel_rfl) (fun _ _ _ h => h) rfl ?_ ?_
    rotate_left
    · intro w'
      first | (go_simp; done) | (go_simp; with_reducible rfl)
    refine wpAnyG_pure (i := 10) (v := ?_) rfl (by kernel_rfl) (by kernel_rfl) (by kernel_rfl) (fun _ _ _ h => h) rfl ?_ ?_
    rotate_left
    · intro w'
      first | (go_simp; done) | (go_simp; with_reducible rfl)
    refine wpAnyG_pure (i := 11) (v := ?_) rfl (by kernel_rfl) (by kernel_rfl) (by kernel_rfl) (fun _ _ _ h => h) rfl ?_ ?_
    rotate_left
    · intro w'
      first | (go_simp; done) | (go_simp; with_reducible rfl)
    refine wpAnyG_pure (i := 12) (v := ?_) rfl (by kernel_rfl) (by kernel_rfl) (by kernel_rfl) (fun _ _ _ h => h) rfl ?_ ?_
    rotate_left
    · intro w'
      first | (go_simp; done) | (go_simp; with_reducible rfl)
    refine wpAnyG_pure (i := 13) (v := ?_) rfl (by kernel_rfl) (by kernel_rfl) (by kernel_rfl) (fun _ _ _ h => h) rfl ?_ ?_
    rotate_left
    · intro w'
      first | (go_simp; done) | (go_simp; with_reducible rfl)
    refine wpAnyG_one (i := 14) (by kernel_rfl) rfl rfl (fun K hK => ?_)
    go_simp
    refine hK.out _ _ (fun h => absurd (by decide) h) ?_
    clear hK K
    refine wpAnyG_done (by kernel_rfl) ?_ _
    go_wp2_with fail
    exact bodyPost_end (results_none rfl _ _ _) rfl ⟨rfl, (below_box w X 1 _ H.out.hX).drew, HKB.out.trans (KeepT.below ((Below.refl _ _).drew)), by rw [HP.out]; exact ⟨_, _, _, _, HC.out.drewN 1⟩⟩
  · have HP : Hid (P.pop = P) := by
      show _ = _
      unfold PS.pop
      rw [if_neg h1]
    have i0 : ¬ (1 : Int) < (P.opens.length : Int) := by omega
    clear h hs ho hk
    generalize P.opens.length = n at *
    go_enter Tryz.func236, Tryz.ntmps236
    go_wp2_with fail
    exact bodyPost_end (results_none rfl _ _ _) rfl ⟨rfl, Below.refl _ _, KeepT.refl _, by rw [HP.out]; exact ⟨_, _, _, _, H.out⟩⟩
end Go.Proofs.YtegcedboeemedaaGreatDoor

/-
The tree that is built stays one: what is open are nodes, a node's parent has it among its kids, and a kid has its parent. No program in sight.
-/
namespace Go.Proofs.YtegcedboeemedaaGreatDoor
open Go.RowKit Go.Cl
namespace PS
/-- Is it a node's number? -/
def has (P : PS) (n : Int) : Prop := 0 ≤ n ∧ n.toNat < P.nodes.length
/-- A tree. -/
structure Tr (P : PS) : Prop where
  up : ∀ n, P.has n → 0 ≤ (P.nd n).parent → P.has (P.nd n).parent ∧ n ∈ (P.nd (P.nd n).parent).kids
  down : ∀ q, P.has q → ∀ k ∈ (P.nd q).kids, P.has k ∧ (P.nd k).parent = q
  nodup : ∀ q, P.has q → (P.nd q).kids.Nodup
/-- A tree, some of whose nodes are open. -/
structure Wf (P : PS) : Prop where
  tr : P.Tr
  opn : P.opens ≠ []
  opin : ∀ n ∈ P.opens, P.has n
  zero : P.has 0
theorem has_at {P : PS} {n : Int} (h : P.has n) : ∃ m : Nat, n = (m : Int) ∧ P.nodes[m]? = some (P.nd n) ∧ m < P.nodes.length := by
  obtain ⟨m, rfl⟩ : ∃ m : Nat, n = (m : Int) := ⟨n.toNat, by have := h.1; omega⟩
  have h2 : m < P.nodes.length := by simpa using h.2
  refine ⟨m, rfl, ?_, h2⟩
  unfold nd
  rw [Int.toNat_natCast, List.getD_eq_getElem?_getD, List.getElem?_eq_getElem h2]
  rfl
section
variable {P : PS}
theorem nd_setNd {n : Int} (hn : P.has n) (x : Nd) {m : Int} (hm : 0 ≤ m) : (P.setNd n x).nd m = if m = n then x else P.nd m := by
  obtain ⟨a, rfl, _, ha⟩ := has_at hn
  obtain ⟨b, rfl⟩ : ∃ b : Nat, m = (b : Int) := ⟨m.toNat, by omega⟩
  unfold setNd nd
  simp only [Int.toNat_natCast, List.getD_eq_getElem?_getD]
  by_cases e : b = a
  · subst e
    rw [if_pos rfl, List.getElem?_set_self ha]
    rfl
  · rw [if_neg (by omega), List.getElem?_set_ne (Ne.symm e)]
theorem len_setNd (n : Int) (x : Nd) : (P.setNd n x).nodes.length = P.nodes.length := by unfold setNd; simp
theorem has_setNd {n : Int} {x : Nd} {m : Int} : (P.setNd n x).has m ↔ P.has m := by unfold has; rw [len_setNd]
theorem nd_make (x : Nd) {m : Int} (hm : P.has m) : (P.make x).nd m = P.nd m := by
  obtain ⟨b, rfl, _, hb⟩ := has_at hm
  unfold make nd
  simp only [Int.toNat_natCast, List.getD_eq_getElem?_getD]
  rw [List.getElem?_append_left hb]
theorem nd_make_new (x : Nd) : (P.make x).nd P.next = { x with parent := -1 } := by
  unfold make nd next
  simp only [Int.toNat_natCast, List.getD_eq_getElem?_getD]
  rw [List.getElem?_append_right (Nat.le_refl _), Nat.sub_self]
  rfl
theorem has_make {x : Nd} {m : Int} : (P.make x).has m ↔ P.has m ∨ m = P.next := by
  unfold has make next
  simp only [List.length_append, List.length_cons, List.length_nil]
  omega
theorem not_has_next : ¬ P.has P.next := by unfold has next; omega
/-- What put leaves of a node. -/
theorem nd_put {s : Int × Nat} {n : Int} (hp : P.has s.1) (hn : P.has n) (hne : s.1 ≠ n) {m : Int} (hm : 0 ≤ m) :
    (P.put s n).nd m = if m = n then { P.nd n with parent := s.1 } else if m = s.1 then { P.nd s.1 with kids := (P.nd s.1).kids.take s.2 ++ n :: (P.nd s.1).kids.drop s.2 } else P.nd m := by
  unfold put
  simp only
  rw [nd_setNd (has_setNd.2 hn) _ hm, nd_setNd hp _ hm, nd_setNd hp _ hn.1, if_neg (Ne.symm hne)]
theorem has_put {s : Int × Nat} {n m : Int} : (P.put s n).has m ↔ P.has m := by unfold put; simp only; rw [has_setNd, has_setNd]
theorem mem_ins {l : List Int} {i : Nat} {n k : Int} : k ∈ l.take i ++ n :: l.drop i ↔ k = n ∨ k ∈ l := by
  have : k ∈ l ↔ k ∈ l.take i ++ l.drop i := by rw [List.take_append_drop]
  rw [this]
  simp only [List.mem_append, List.mem_cons]
  constructor
  · rintro (h | h | h)
    · exact .inr (.inl h)
    · exact .inl h
    · exact .inr (.inr h)
  · rintro (h | h | h)
    · exact .inr (.inl h)
    · exact .inl h
    · exact .inr (.inr h)
theorem nodup_ins {l : List Int} {i : Nat} {n : Int} (h : l.Nodup) (hn : n ∉ l) : (l.take i ++ n :: l.drop i).Nodup := by
  have h1 : (l.take i ++ l.drop i).Nodup := by rw [List.take_append_drop]; exact h
  have h2 : n ∉ l.take i ++ l.drop i := by rw [List.take_append_drop]; exact hn
  rw [List.nodup_append] at h1 ⊢
  rw [List.mem_append] at h2
  refine ⟨h1.1, List.nodup_cons.2 ⟨fun e => h2 (.inr e), h1.2.1⟩, fun a ha b hb => ?_⟩
  rcases List.mem_cons.1 hb with rfl | hb
  · exact fun e => h2 (.inl (e ▸ ha))
  · exact h1.2.2 a ha b hb
/-- A node without a parent is put at a spot. -/
theorem Tr.put (h : P.Tr) {s : Int × Nat} {n : Int} (hp : P.has s.1) (hn : P.has n) (hne : s.1 ≠ n) (hpar : (P.nd n).parent < 0) : (P.put s n).Tr := by
  have hnk : ∀ q, P.has q → n ∉ (P.nd q).kids := fun q hq hm => by
    have := (h.down q hq n hm).2
    have := hq.1
    omega
  refine ⟨fun m hm h0 => ?_, fun q hq k hk => ?_, fun q hq => ?_⟩
  · rw [has_put] at hm
    rw [nd_put hp hn hne hm.1] at h0 ⊢
    by_cases e : m = n
    · subst e
      rw [if_pos rfl] at h0 ⊢
      refine ⟨has_put.2 hp, ?_⟩
      show m ∈ ((P.put s m).nd s.1).kids
      rw [nd_put hp hn hne hp.1, if_neg hne, if_pos rfl]
      exact mem_ins.2 (.inl rfl)
    · rw [if_neg e] at h0 ⊢
      have hpar2 : ∀ x : Nd, x.parent = (P.nd m).parent → 0 ≤ x.parent → (P.put s n).has x.parent ∧ m ∈ ((P.put s n).nd x.parent).kids := fun x hx h0 => by
        rw [hx] at h0 ⊢
        obtain ⟨u1, u2⟩ := h.up m hm h0
        refine ⟨has_put.2 u1, ?_⟩
        rw [nd_put hp hn hne h0]
        by_cases e2 : (P.nd m).parent = n
        · rw [if_pos e2]
          rw [e2] at u2
          exact u2
        · rw [if_neg e2]
          by_cases e3 : (P.nd m).parent = s.1
          · rw [if_pos e3]
            rw [e3] at u2
            exact mem_ins.2 (.inr u2)
          · rw [if_neg e3]
            exact u2
      by_cases e2 : m = s.1
      · rw [if_pos e2] at h0 ⊢
        exact hpar2 _ (by rw [e2]) h0
      · rw [if_neg e2] at h0 ⊢
        exact hpar2 _ rfl h0
  · rw [has_put] at hq
    rw [nd_put hp hn hne hq.1] at hk
    have key : ∀ k, k ∈ (P.nd q).kids → (P.put s n).has k ∧ ((P.put s n).nd k).parent = q := fun k hk => by
      obtain ⟨d1, d2⟩ := h.down q hq k hk
      refine ⟨has_put.2 d1, ?_⟩
      rw [nd_put hp hn hne d1.1]
      by_cases e : k = n
      · exact absurd (e ▸ hk) (hnk q hq)
      · rw [if_neg e]
        by_cases e2 : k = s.1
        · rw [if_pos e2]
          rw [e2] at d2
          exact d2
        · rw [if_neg e2]
          exact d2
    by_cases e : q = n
    · rw [if_pos e] at hk
      exact key k (by rw [e]; exact hk)
    · rw [if_neg e] at hk
      by_cases e2 : q = s.1
      · rw [if_pos e2] at hk
        rcases mem_ins.1 hk with rfl | hk
        · refine ⟨has_put.2 hn, ?_⟩
          rw [nd_put hp hn hne hn.1, if_pos rfl]
          exact e2.symm
        · exact key k (by rw [e2]; exact hk)
      · rw [if_neg e2] at hk
        exact key k hk
  · rw [has_put] at hq
    rw [nd_put hp hn hne hq.1]
    by_cases e : q = n
    · rw [if_pos e]
      have := h.nodup q hq
      rw [e] at this
      exact this
    · rw [if_neg e]
      by_cases e2 : q = s.1
      · rw [if_pos e2]
        have h1 := h.nodup q hq
        have h2 := hnk q hq
        rw [e2] at h1 h2
        exact nodup_ins h1 h2
      · rw [if_neg e2]
        exact h.nodup q hq
/-- A node more. -/
theorem Tr.make (h : P.Tr) {x : Nd} (hk : x.kids = []) : (P.make x).Tr := by
  refine ⟨fun m hm h0 => ?_, fun q hq k hk2 => ?_, fun q hq => ?_⟩
  · rcases has_make.1 hm with hm | rfl
    · rw [nd_make x hm] at h0 ⊢
      obtain ⟨u1, u2⟩ := h.up m hm h0
      exact ⟨has_make.2 (.inl u1), by rw [nd_make x u1]; exact u2⟩
    · rw [nd_make_new] at h0
      exact absurd h0 (by show ¬ (0 : Int) ≤ -1; omega)
  · rcases has_make.1 hq with hq | rfl
    · rw [nd_make x hq] at hk2
      obtain ⟨d1, d2⟩ := h.down q hq k hk2
      exact ⟨has_make.2 (.inl d1), by rw [nd_make x d1]; exact d2⟩
    · rw [nd_make_new] at hk2
      have : k ∈ x.kids := hk2
      rw [hk] at this
      cases this
  · rcases has_make.1 hq with hq | rfl
    · rw [nd_make x hq]
      exact h.nodup q hq
    · rw [nd_make_new]
      show x.kids.Nodup
      rw [hk]
      exact List.nodup_nil
end
/-- The same nodes: the same tree. -/
theorem Tr.same {P Q : PS} (h : P.Tr) (e : Q.nodes = P.nodes) : Q.Tr := by
  have h1 : ∀ n, Q.nd n = P.nd n := fun n => by unfold nd; rw [e]
  have h2 : ∀ n, Q.has n ↔ P.has n := fun n => by unfold has; rw [e]
  refine ⟨fun n hn h0 => ?_, fun q hq k hk => ?_, fun q hq => ?_⟩
  · rw [h1, h1] at *
    rw [h2] at hn
    exact ⟨(h2 _).2 (h.up n hn h0).1, (h.up n hn h0).2⟩
  · rw [h1] at hk ⊢
    rw [h2] at hq ⊢
    exact h.down q hq k hk
  · rw [h1]
    exact h.nodup q ((h2 q).1 hq)
theorem nodup_few (N : Nat) : ∀ xs : List Int, xs.Nodup → (∀ x ∈ xs, 0 ≤ x ∧ x.toNat < N) → xs.length ≤ N := by
  induction N with
  | zero =>
    intro xs _ h
    cases xs with
    | nil => simp
    | cons x r => have := (h x (by simp)).2; omega
  | succ N ih =>
    intro xs hn hin
    have h1 := ih (xs.erase (N : Int)) (hn.erase _) (fun x hx => by
      obtain ⟨hne, hx⟩ := (List.Nodup.mem_erase_iff hn).1 hx
      have := hin x hx
      omega)
    rw [List.length_erase] at h1
    split at h1 <;> omega
/-- Kids are no more than nodes. -/
theorem Tr.kids_le {P : PS} (h : P.Tr) {q : Int} (hq : P.has q) : (P.nd q).kids.length ≤ P.nodes.length :=
  nodup_few _ _ (h.nodup q hq) fun k hk => (h.down q hq k hk).1
/-- A node turned whose parent and kids stay. -/
theorem Tr.turn {P : PS} (h : P.Tr) {n : Int} (hn : P.has n) {x : Nd} (h1 : x.parent = (P.nd n).parent) (h2 : x.kids = (P.nd n).kids) : (P.setNd n x).Tr := by
  have e1 : ∀ m, 0 ≤ m → ((P.setNd n x).nd m).parent = (P.nd m).parent := fun m hm => by
    rw [nd_setNd hn x hm]
    by_cases e : m = n
    · rw [if_pos e, e]; exact h1
    · rw [if_neg e]
  have e2 : ∀ m, 0 ≤ m → ((P.setNd n x).nd m).kids = (P.nd m).kids := fun m hm => by
    rw [nd_setNd hn x hm]
    by_cases e : m = n
    · rw [if_pos e, e]; exact h2
    · rw [if_neg e]
  refine ⟨fun m hm h0 => ?_, fun q hq k hk => ?_, fun q hq => ?_⟩
  · rw [has_setNd] at hm
    rw [e1 m hm.1] at h0 ⊢
    obtain ⟨u1, u2⟩ := h.up m hm h0
    exact ⟨has_setNd.2 u1, by rw [e2 _ h0]; exact u2⟩
  · rw [has_setNd] at hq
    rw [e2 q hq.1] at hk
    obtain ⟨d1, d2⟩ := h.down q hq k hk
    exact ⟨has_setNd.2 d1, by rw [e1 k d1.1]; exact d2⟩
  · rw [has_setNd] at hq
    rw [e2 q hq.1]
    exact h.nodup q hq
end PS
end Go.Proofs.YtegcedboeemedaaGreatDoor

/-
What the builder's own functions make of its tree is one again. No program in sight.
-/
namespace Go.Proofs.YtegcedboeemedaaGreatDoor
open Go.RowKit Go.Cl
namespace PS
/-- A spot of a tree. -/
def Spot (P : PS) (s : Int × Nat) : Prop := P.has s.1 ∧ s.2 ≤ (P.nd s.1).kids.length
section
variable {P : PS}
theorem spot_behind {n : Int} (h : P.has n) : P.Spot (P.behind n) := ⟨h, Nat.le_refl _⟩
theorem foster_ok (h : P.Tr) : ∀ (l : List Int), (∀ n ∈ l, P.has n) → ∀ s, P.fosterRev l = some s → P.Spot s := by
  intro l
  induction l with
  | nil => intro _ s e; cases e
  | cons t r ih =>
    intro hl s e
    unfold fosterRev at e
    split at e
    · split at e
      · rename_i h0
        injection e with e
        subst e
        have := h.up t (hl t (by simp)) h0
        exact ⟨this.1, by
          show (P.nd (P.nd t).parent).kids.idxOf t ≤ _
          exact List.idxOf_le_length⟩
      · cases r with
        | nil => cases e
        | cons b r =>
          injection e with e
          subst e
          exact spot_behind (hl b (by simp))
    · exact ih (fun n hn => hl n (by simp [hn])) s e
theorem Wf.head (h : P.Wf) : P.has (P.opens.headD 0) := by
  cases e : P.opens with
  | nil => exact absurd e h.opn
  | cons a r => exact h.opin a (by rw [e]; simp)
theorem Wf.top (h : P.Wf) : P.has P.top := by
  unfold PS.top
  rw [List.getLastD_eq_getLast?, List.getLast?_eq_some_getLast h.opn]
  exact h.opin _ (List.getLast_mem h.opn)
theorem spot_place (h : P.Wf) {c : Int} (hc : P.has c) : P.Spot (P.place c) := by
  unfold place
  split
  · exact spot_behind hc
  · cases e : P.fosterRev P.opens.reverse with
    | none => exact spot_behind h.head
    | some s => exact foster_ok h.tr _ (fun n hn => h.opin n (List.mem_reverse.1 hn)) s e
/-- A node without kids is made and put. -/
theorem Tr.made (h : P.Tr) {s : Int × Nat} (hs : P.Spot s) {x : Nd} (hk : x.kids = []) : ((P.make x).put s P.next).Tr :=
  (h.make hk).put (has_make.2 (.inl hs.1)) (has_make.2 (.inr rfl)) (fun e => not_has_next (e ▸ hs.1)) (by rw [nd_make_new]; show (-1 : Int) < 0; decide)
theorem has_made {s : Int × Nat} {x : Nd} {m : Int} : ((P.make x).put s P.next).has m ↔ P.has m ∨ m = P.next := by rw [has_put, has_make]
theorem element_wf (h : P.Tr) (h0 : P.has 0) (ho : ∀ n ∈ P.opens, P.has n) {s : Int × Nat} (hs : P.Spot s) (nm : ByteArray) (ats : List DAttr) : (P.element s nm ats).Wf := by
  have hop : (P.element s nm ats).opens = P.opens ++ [P.next] := rfl
  have hnd : (P.element s nm ats).nodes = ((P.make ⟨2, nm, ats, ⟨#[]⟩, -1, []⟩).put s P.next).nodes := rfl
  have hh : ∀ n, (P.element s nm ats).has n ↔ P.has n ∨ n = P.next := fun n => by
    have : (P.element s nm ats).has n ↔ ((P.make ⟨2, nm, ats, ⟨#[]⟩, -1, []⟩).put s P.next).has n := by unfold has; rw [hnd]
    rw [this]
    exact has_made
  refine ⟨(h.made hs rfl).same hnd, by rw [hop]; simp, fun n hn => ?_, (hh 0).2 (.inl h0)⟩
  rw [hop, List.mem_append, List.mem_singleton] at hn
  exact (hh n).2 (hn.imp (ho n) id)
theorem Wf.element (h : P.Wf) {s : Int × Nat} (hs : P.Spot s) (nm : ByteArray) (ats : List DAttr) : (P.element s nm ats).Wf := element_wf h.tr h.zero h.opin hs nm ats
theorem Wf.text (h : P.Wf) (s : ByteArray) : (P.text s).Wf := by
  have hs := spot_place h h.top
  unfold PS.text
  simp only
  split
  · exact h
  · split
    · rename_i h1
      have hin : P.has ((P.nd (P.place P.top).1).kids.getD ((P.place P.top).2 - 1) 0) := by
        refine (h.tr.down _ hs.1 _ ?_).1
        rw [List.getD_eq_getElem?_getD, List.getElem?_eq_getElem (by have := hs.2; have := h1.1; omega)]
        exact List.getElem_mem _
      exact ⟨h.tr.turn hin rfl rfl, h.opn, fun n hn => has_setNd.2 (h.opin n hn), has_setNd.2 h.zero⟩
    · exact ⟨h.tr.made hs rfl, h.opn, fun n hn => has_made.2 (.inl (h.opin n hn)), has_made.2 (.inl h.zero)⟩
/-- What is open is turned, and no node. -/
theorem Wf.opens (h : P.Wf) {Q : PS} (e : Q.nodes = P.nodes) (h1 : Q.opens ≠ []) (h2 : ∀ n ∈ Q.opens, n ∈ P.opens) : Q.Wf :=
  ⟨h.tr.same e, h1, fun n hn => by have := h.opin n (h2 n hn); unfold has at this ⊢; rw [e]; exact this, by have := h.zero; unfold has at this ⊢; rw [e]; exact this⟩
/-- Neither nodes nor what is open. -/
theorem Wf.same (h : P.Wf) {Q : PS} (e : Q.nodes = P.nodes) (e2 : Q.opens = P.opens) : Q.Wf := h.opens e (by rw [e2]; exact h.opn) fun n hn => by rw [e2] at hn; exact hn
theorem Wf.pop (h : P.Wf) : P.pop.Wf := by
  unfold PS.pop
  split
  · refine h.opens rfl (fun e => ?_) fun n hn => List.dropLast_subset _ hn
    have : (P.opens.dropLast).length = 0 := by rw [show P.opens.dropLast = [] from e]; rfl
    rw [List.length_dropLast] at this
    omega
  · exact h
end
theorem Wf.clearN : ∀ (k : Nat) (l : ByteArray) {P : PS}, P.Wf → (PS.clearN k l P).Wf
  | 0, _, _, h => h
  | k + 1, l, P, h => by
    unfold PS.clearN
    split
    · exact Wf.clearN k l h.pop
    · exact h
section
variable {P : PS}
theorem Wf.clear (h : P.Wf) (l : ByteArray) : (P.clear l).Wf := Wf.clearN _ l h
end
end PS
end Go.Proofs.YtegcedboeemedaaGreatDoor

/-
The parser, and what lies ahead of it, in one word: what the contracts of the modes ask for, and what they leave.
-/
namespace Go.Proofs.YtegcedboeemedaaGreatDoor
open Go.RowKit Go.Cl
attribute [local go_sem ↓] Go.wp_at_zero Go.wp_at_succ
/-- The parser in its box; the cell of the first block lies as it lay. -/
structure BdAt (m : Int) (wt w : World) (X base Bp : Nat) (P : PS) : Prop where
  mem : ∃ nV oV iV ps, PAt wt w X base Bp P nV oV iV ps
  len : w.cell? ⟨0, 0, none⟩ = some (.int .i64 m)
  pos : 0 < base
/-- What a step of the parser leaves. -/
structure BdTo (m : Int) (wt w w' : World) (X base Bp : Nat) (P : PS) : Prop where
  low : Below base w w'
  keep : KeepT w w'
  at_ : BdAt m wt w' X base Bp P
section
variable {m : Int} {wt w w' w2 : World} {X base Bp : Nat} {P Q : PS}
theorem BdAt.lt (h : BdAt m wt w X base Bp P) : X < w.heap.size := by obtain ⟨_, _, _, _, h⟩ := h.mem; exact h.low
theorem BdAt.blt (h : BdAt m wt w X base Bp P) : base < w.heap.size := by obtain ⟨_, _, _, _, hp⟩ := h.mem; exact Nat.lt_of_le_of_lt hp.hX hp.low
theorem BdAt.next (h : BdAt m wt w X base Bp P) (hb : Below w.heap.size w w') : BdAt m wt w' X base Bp P := by
  obtain ⟨nV, oV, iV, ps, hp⟩ := h.mem
  exact ⟨⟨nV, oV, iV, ps, hp.next hb⟩, cell_be h.len hb, h.pos⟩
theorem BdTo.refl (h : BdAt m wt w X base Bp P) : BdTo m wt w w X base Bp P := ⟨Below.refl _ _, KeepT.refl _, h⟩
theorem BdTo.trans (h : BdTo m wt w w' X base Bp P) (k : BdTo m wt w' w2 X base Bp Q) : BdTo m wt w w2 X base Bp Q := ⟨h.low.trans k.low, h.keep.trans k.keep, k.at_⟩
theorem BdTo.next (h : BdTo m wt w w' X base Bp P) (hb : Below w'.heap.size w' w2) : BdTo m wt w w2 X base Bp P :=
  ⟨h.low.trans (hb.mono (Nat.le_of_lt h.at_.blt)), h.keep.trans (KeepT.below hb), h.at_.next hb⟩
theorem BdTo.drew (h : BdTo m wt w w' X base Bp P) : BdTo m wt w w'.drew X base Bp P := h.next (Below.refl _ _).drew
theorem BdTo.before (hb : Below w.heap.size w w') (hX : X < w.heap.size) (h : BdTo m wt w' w2 X base Bp P) : BdTo m wt w w2 X base Bp P :=
  ⟨(hb.mono (by obtain ⟨_, _, _, _, hp⟩ := h.at_.mem; have := hp.hX; omega)).trans h.low, (KeepT.below hb).trans h.keep, h.at_⟩
theorem BdAt.to (h : BdAt m wt w X base Bp P) (hb : Below w.heap.size w w') : BdTo m wt w w' X base Bp P := (BdTo.refl h).next hb
theorem BdTo.of (h : BdAt m wt w X base Bp P) (k : Bd wt w w' X base Bp Q) : BdTo m wt w w' X base Bp Q :=
  ⟨k.low, k.keep, ⟨k.at_, (k.low.cell h.pos).trans h.len, h.pos⟩⟩
/-- A type that is none of the parser's own rows. -/
abbrev FarT (e : TypeId) : Prop := e ≠ 88 ∧ e ≠ 46 ∧ e ≠ 3 ∧ e ≠ 289 ∧ e ≠ 141
theorem BdTo.other (h : BdTo m wt w w' X base Bp P) {b : Nat} {cs : Array Value} {e : TypeId} {fr : Nat × Nat} (hb : w.heap[b]? = some (.cells cs e fr)) (he : FarT e) : w'.heap[b]? = some (.cells cs e fr) := h.keep b cs e fr hb he.1 he.2.1 he.2.2.1 he.2.2.2.1 he.2.2.2.2
/-- A field of the box is stored. -/
theorem BdAt.store (h : BdAt m wt w X base Bp P) {i : Nat} {v : Value} (hi : ∀ nV oV iV, psCells Q nV oV iV = (psCells P nV oV iV).setIfInBounds i v) (h1 : Q.nodes = P.nodes) (h2 : Q.opens = P.opens) (h3 : Q.items = P.items) : BdTo m wt w (w.setCell ⟨X, i, none⟩ v) X base Bp Q := by
  obtain ⟨nV, oV, iV, ps, hp⟩ := h.mem
  refine ⟨below_box w X i v hp.hX, KeepT.box hp i v, ⟨nV, oV, iV, ps, hp.field (hi _ _ _) h1 h2 h3⟩, ?_, h.pos⟩
  exact (World.cell?_setCell_other _ _ _ _ (fun e => by have h1 := congrArg Addr.block e; have h2 := h.pos; have h3 := hp.hX; dsimp only at h1; omega)).trans h.len
theorem BdAt.cell (h : BdAt m wt w X base Bp P) (i : Nat) {v : Value} (hv : ∀ nV oV iV, (psCells P nV oV iV)[i]? = some v) : w.cell? ⟨X, i, none⟩ = some v := by
  obtain ⟨nV, oV, iV, ps, hp⟩ := h.mem
  exact hp.cell i (hv _ _ _)
theorem BdAt.fr (h : BdAt m wt w X base Bp P) (i : Nat) : w.frozen? ⟨X, i, none⟩ = false := by
  obtain ⟨nV, oV, iV, ps, hp⟩ := h.mem
  exact hp.fr i
theorem PS.Wf.ok {P : PS} (h : P.Wf) (hl : P.opens.length ≤ 1000000000) : P.Ok := ⟨hl, h.opn, h.opin⟩
theorem pop_at (h : BdAt m wt w X base Bp P) (ho : P.Ok) : Calls Tryz.prog 236 #[.pointer (some ⟨X, 0, none⟩)] w fun e w' => e = .returned (.tuple #[]) ∧ BdTo m wt w w' X base Bp P.pop := by
  obtain ⟨nV, oV, iV, ps, hp⟩ := h.mem
  exact (bdPop_any wt w X base Bp P nV oV iV ps hp ho).mono fun e w1 k => ⟨k.1, .of h k.2⟩
theorem current_at (h : BdAt m wt w X base Bp P) (ho : P.Ok) : Calls Tryz.prog 242 #[.pointer (some ⟨X, 0, none⟩)] w fun e w' => e = .returned (.string P.current) ∧ Below w.heap.size w w' := by
  obtain ⟨nV, oV, iV, ps, hp⟩ := h.mem
  refine (bdCurrent_any wt w X base Bp P nV oV iV ps hp ho).mono ?_
  rintro e w1 ⟨rfl, q, rfl⟩
  exact ⟨rfl, below_dN (Below.refl _ _) q⟩
theorem top_at (h : BdAt m wt w X base Bp P) (ho : P.Ok) : Calls Tryz.prog 273 #[.pointer (some ⟨X, 0, none⟩)] w fun e w' => e = .returned (.int .i64 P.top) ∧ Below w.heap.size w w' := by
  obtain ⟨nV, oV, iV, ps, hp⟩ := h.mem
  refine (bdTop_any wt w X base Bp P nV oV iV ps hp ho.one ho.few).mono ?_
  rintro e w1 ⟨rfl, q, rfl⟩
  exact ⟨rfl, below_dN (Below.refl _ _) q⟩
theorem bdname_at (h : BdAt m wt w X base Bp P) (ho : P.Ok) {i : Nat} {n : Int} (hi : P.opens[i]? = some n) : Calls Tryz.prog 121 #[.pointer (some ⟨X, 0, none⟩), .int .i64 (i : Int)] w fun e w' => e = .returned (.string (P.name n)) ∧ Below w.heap.size w w' := by
  obtain ⟨nV, oV, iV, ps, hp⟩ := h.mem
  obtain ⟨k, rfl, hx⟩ := ho.at_ hi
  refine (bdName_any wt w X base Bp P nV oV iV ps hp ho.few hi hx).mono ?_
  rintro e w1 ⟨rfl, q, rfl⟩
  exact ⟨rfl, below_dN (Below.refl _ _) q⟩
end
/-! ### tokens -/
/-- A token's value: its attributes lie in what was read. -/
abbrev tkV (t : Tk) (A : Option Addr) (n c : Nat) (a z : Int) : Value := .agg #[.int .i64 t.kind, .string t.name, .slice A n c, .string t.text, .bool t.self, .int .i64 a, .int .i64 z]
structure TkAt (wt : World) (Bp : Nat) (t : Tk) (A : Option Addr) (n c : Nat) : Prop where
  attrs : Sl tDA wt (rg Bp wt.heap.size) A n c t.attrs
  name : t.name.size ≤ 1000000000
  text : t.text.size ≤ 1000000000
  few : t.attrs.length ≤ 1000000000
theorem PAt.tk {wt w : World} {X base Bp : Nat} {P : PS} {nV oV iV : Value} {ps : List (Value × Value)} (h : PAt wt w X base Bp P nV oV iV ps) {A : Option Addr} {n c : Nat} {l : List DAttr} (hs : Sl tDA wt (rg Bp wt.heap.size) A n c l) : Sl tDA w (rg Bp wt.heap.size) A n c l :=
  hs.keep fun p hp => by
    show (match w.heap[p.block]? with | _ => _) = _
    unfold World.cell?
    rw [h.kept p.block hp]
end Go.Proofs.YtegcedboeemedaaGreatDoor

/-
Stores into the parser's tree: a node's field, a node's kids, a node more.
-/
namespace Go.Proofs.YtegcedboeemedaaGreatDoor
open Go.RowKit Go.Cl
attribute [local go_sem ↓] Go.wp_at_zero Go.wp_at_succ
/-- A row that may be turned: neither the box, nor what is open, nor the items, nor what was read. -/
structure Loose (wt : World) (X Bp : Nat) (oV iV : Value) (row : Option Nat) : Prop where
  x : row ≠ some X
  o : oV.ownBlock = none ∨ oV.ownBlock ≠ row
  i : iV.ownBlock = none ∨ iV.ownBlock ≠ row
  r : ∀ b, rg Bp wt.heap.size b → some b ≠ row
/-- The parser but for its nodes. -/
structure PRest (wt w : World) (X base Bp : Nat) (P : PS) (nV oV iV : Value) : Prop where
  box : w.heap[X]? = some (.cells (psCells P nV oV iV) 88 (0, 0))
  op : OwnF (tInt .i64) w base 3 oV P.opens.length P.opens
  it : Own tItem w base 289 (rg Bp wt.heap.size) iV P.items.length P.items
  kept : ∀ b, rg Bp wt.heap.size b → w.heap[b]? = wt.heap[b]?
  ht : wt.heap.size ≤ w.heap.size
section
variable {wt w w1 w' : World} {X base Bp : Nat} {P : PS} {nV oV iV : Value} {ps : List (Value × Value)}
theorem PAt.rest (h : PAt wt w X base Bp P nV oV iV ps) : PRest wt w X base Bp P nV oV iV := ⟨h.box, h.op, h.it, h.kept, h.ht⟩
theorem PRest.lt (h : PRest wt w X base Bp P nV oV iV) : X < w.heap.size := (Array.getElem?_eq_some_iff.1 h.box).1
theorem PRest.grown (h : PRest wt w X base Bp P nV oV iV) {row : Option Nat} (hf : Loose wt X Bp oV iV row) (hg : w.grownBy w1 row) : PRest wt w1 X base Bp P nV oV iV :=
  ⟨(hg.block X h.lt (fun e => hf.x e.symm)).trans h.box, ownF_kept h.op hg hf.o, Own.kept h.it hg hf.i (fun b hb => ⟨Nat.lt_of_lt_of_le hb.2 h.ht, hf.r b hb⟩),
    fun b hb => (hg.block b (Nat.lt_of_lt_of_le hb.2 h.ht) (hf.r b hb)).trans (h.kept b hb), Nat.le_trans h.ht hg.size⟩
/-- The box's first cell is stored. -/
theorem PRest.set0 (h : PRest wt w X base Bp P nV oV iV) (hX : X < Bp) (v : Value) : PRest wt (w.setCell ⟨X, 0, none⟩ v) X base Bp P v oV iV := by
  have hg := grown_set w X 0 v
  have hne : ∀ b, rg Bp wt.heap.size b → some b ≠ some X := fun b hb e => by injection e with e; have := hb.1; omega
  exact ⟨by rw [set_blk h.box]; rfl, ownF_kept h.op hg (Or.inr (own_ne_block (by decide) h.op h.box)), Own.kept h.it hg (Or.inr (own_ne_block (by decide) h.it h.box)) (fun b hb => ⟨Nat.lt_of_lt_of_le hb.2 h.ht, hne b hb⟩),
    fun b hb => (hg.block b (Nat.lt_of_lt_of_le hb.2 h.ht) (hne b hb)).trans (h.kept b hb), Nat.le_trans h.ht hg.size⟩
theorem PRest.nodes (h : PRest wt w X base Bp P nV oV iV) (l : List Nd) : PRest wt w X base Bp { P with nodes := l } nV oV iV := ⟨h.box, h.op, h.it, h.kept, h.ht⟩
theorem PRest.at_ {Q : PS} {nV' oV' iV' : Value} {qs : List (Value × Value)} (r : PRest wt w X base Bp P nV oV iV) (h : PAt wt w' X base Bp Q nV' oV' iV' qs) (ed : Ed w base nV P.nodes ps) (opk : ∀ (i : Nat) p, ps[i]? = some p → p.2.ownBlock = none ∨ p.2.ownBlock ≠ oV.ownBlock) (outN : OutB Bp wt.heap.size nV)
    (outP : ∀ (i : Nat) p, ps[i]? = some p → OutB Bp wt.heap.size p.1 ∧ OutB Bp wt.heap.size p.2) (outO : OutB Bp wt.heap.size oV) (outI : OutB Bp wt.heap.size iV) : PAt wt w X base Bp P nV oV iV ps :=
  ⟨r.box, ed, r.op, r.it, opk, outN, outP, outO, outI, r.kept, h.hX, h.hXB, h.hb, r.ht⟩
theorem OutB.rg {Bp Bt : Nat} {v : Value} (h : OutB Bp Bt v) : ∀ b, rg Bp Bt b → some b ≠ v.ownBlock := fun b hb e => by
  rcases h b e.symm with h1 | h1
  · have := hb.1; omega
  · have := hb.2; omega
/-- The nodes' row. -/
theorem PAt.looseN (h : PAt wt w X base Bp P nV oV iV ps) : Loose wt X Bp oV iV nV.ownBlock :=
  ⟨fun e => own_ne_block (by decide) h.ed.row h.box e, own_ne (by decide) h.op h.ed.row, own_ne (by decide) h.it h.ed.row, h.outN.rg⟩
/-- A node's kids. -/
theorem PAt.looseK (h : PAt wt w X base Bp P nV oV iV ps) {i : Nat} {x : Nd} {p : Value × Value} (hx : P.nodes[i]? = some x) (hp : ps[i]? = some p) : Loose wt X Bp oV iV p.2.ownBlock :=
  have hP := h.ed.parts i x p hx hp
  ⟨fun e => own_ne_block (by decide) hP.kids h.box e, (by
    rcases h.opk i p hp with e | e
    · rw [e]
      cases oV.ownBlock with
      | none => exact .inl rfl
      | some _ => exact .inr (by simp)
    · exact .inr (Ne.symm e)), own_ne (by decide) h.it hP.kids, (h.outP i p hp).2.rg⟩
/-- A node's field is stored. -/
theorem PAt.plain {g n c i j : Nat} {x y : Nd} {p : Value × Value} {u : Value} (h : PAt wt w X base Bp P (.slice (some ⟨g, 0, none⟩) n c) oV iV ps) (hx : P.nodes[i]? = some x) (hp : ps[i]? = some p) (hj : j < 6) (hr : ndRow y p = (ndRow x p).set j u) (h1 : y.attrs = x.attrs) (h2 : y.kids = x.kids) (hok : EdOk y) :
    PAt wt (w.setCell ⟨g, i * 6 + j, none⟩ u) X base Bp { P with nodes := P.nodes.set i y } (.slice (some ⟨g, 0, none⟩) n c) oV iV ps :=
  (((h.rest.grown h.looseN (grown_set w g (i * 6 + j) u)).nodes _).at_ h (h.ed.plain hx hp hj hr h1 h2 hok) h.opk h.outN h.outP h.outO h.outI)
/-- A node's kids are stored: the old row, grown in place, or a new one. -/
theorem PAt.kids {g n c i : Nat} {x : Nd} {p : Value × Value} {v : Value} {ks : List Int} (h : PAt wt w X base Bp P (.slice (some ⟨g, 0, none⟩) n c) oV iV ps) (hx : P.nodes[i]? = some x) (hp : ps[i]? = some p) (hg : w.grownBy w1 p.2.ownBlock) (hv : OwnF (tInt .i64) w1 base 3 v ks.length ks)
    (hb : v.ownBlock = p.2.ownBlock ∨ ∃ k, v.ownBlock = some k ∧ w.heap.size ≤ k) (hk : ks.length ≤ 1000000000) : PAt wt (w1.setCell ⟨g, i * 6 + 5, none⟩ v) X base Bp { P with nodes := P.nodes.set i { x with kids := ks } } (.slice (some ⟨g, 0, none⟩) n c) oV iV (ps.set i (p.1, v)) := by
  have hil := (List.getElem?_eq_some_iff.1 hp).1
  have key : ∀ (k : Nat) q, (ps.set i (p.1, v))[k]? = some q → (k = i ∧ q = (p.1, v)) ∨ ps[k]? = some q := fun k q hq => by
    by_cases e : i = k
    · subst e
      rw [List.getElem?_set_self hil] at hq
      exact .inl ⟨rfl, (Option.some.inj hq).symm⟩
    · rw [List.getElem?_set_ne e] at hq
      exact .inr hq
  refine (((h.rest.grown (h.looseK hx hp) hg).grown h.looseN (grown_set w1 g (i * 6 + 5) v)).nodes _).at_ h (h.ed.kids hx hp hg hv hb hk) (fun k q hq => ?_) h.outN (fun k q hq => ?_) h.outO h.outI
  · rcases key k q hq with ⟨_, rfl⟩ | hq
    · rcases hb with e | ⟨z, e, hz⟩
      · show v.ownBlock = none ∨ v.ownBlock ≠ _
        rw [e]
        exact h.opk i p hp
      · right
        show v.ownBlock ≠ _
        intro e2
        rw [e] at e2
        have := (Own.lt h.op z e2.symm).2
        omega
    · exact h.opk k q hq
  · rcases key k q hq with ⟨_, rfl⟩ | hq
    · refine ⟨(h.outP i p hp).1, ?_⟩
      rcases hb with e | ⟨z, e, hz⟩
      · exact OutB.same (h.outP i p hp).2 e
      · intro b hb2
        rw [show (p.1, v).2 = v from rfl, e] at hb2
        injection hb2 with hb2
        have := h.ht
        omega
    · exact h.outP k q hq
/-- A node more: appended to the row, and the row stored. -/
theorem PAt.app {y : Nd} {p : Value × Value} {v' : Value} (h : PAt wt w X base Bp P nV oV iV ps) (hP : Parts w base y p) (hap : ∀ (i : Nat) q, ps[i]? = some q → Apart q p ∧ Apart p q) (hl : P.nodes.length < 1000000000) (hop : p.2.ownBlock = none) (hout : OutB Bp wt.heap.size p.1)
    (hg : w.grownBy w1 nV.ownBlock) (hrow : OwnF tN6 w1 base 46 v' (P.nodes.length + 1) (List.zipWith ndRow P.nodes ps ++ [ndRow y p])) (hv : v'.ownBlock = nV.ownBlock ∨ ∃ k, v'.ownBlock = some k ∧ w.heap.size ≤ k) :
    PAt wt (w1.setCell ⟨X, 0, none⟩ v') X base Bp { P with nodes := P.nodes ++ [y] } v' oV iV (ps ++ [p]) := by
  have hed := h.ed.app hP hap hl hg hrow
  have hr1 := h.rest.grown h.looseN hg
  have hlen := h.ed.len
  have key : ∀ (i : Nat) q, (ps ++ [p])[i]? = some q → ps[i]? = some q ∨ q = p := fun i q hq => by
    by_cases hi : i < ps.length
    · rw [List.getElem?_append_left hi] at hq
      exact Or.inl hq
    · have := (List.getElem?_eq_some_iff.1 hq).1
      rw [List.length_append, List.length_singleton] at this
      have e : i = ps.length := by omega
      subst e
      rw [app_last] at hq
      exact Or.inr (Option.some.inj hq).symm
  refine ((hr1.set0 h.hXB v').nodes _).at_ h (hed.other hr1.box (by decide) (by decide) (by decide) (grown_set w1 X 0 v')) (fun i q hq => ?_) ?_ (fun i q hq => ?_) h.outO h.outI
  · rcases key i q hq with hq | rfl
    · exact h.opk i q hq
    · exact .inl hop
  · rcases hv with e | ⟨z, e, hz⟩
    · exact h.outN.same e
    · intro b hb
      rw [e] at hb
      injection hb with hb
      have := h.ht
      omega
  · rcases key i q hq with hq | rfl
    · exact h.outP i q hq
    · exact ⟨hout, OutB.none hop⟩
theorem below_row {α : Type} {v : Value} {b0 : Nat} {T : Ty α} {e : TypeId} {D : Nat → Prop} {n : Nat} {xs : List α} (h : Own T w b0 e D v n xs) (hX : X ≤ b0) (hb : w.grownBy w1 v.ownBlock) (hX2 : X ≤ w.heap.size) : Below X w w1 :=
  (Below.refl X w).grown hb hX2 fun k hk => Nat.le_trans hX (Own.lt h k hk).1
end
end Go.Proofs.YtegcedboeemedaaGreatDoor

/-
The tree's own functions: a node is made, a node is put at a spot.
-/
namespace Go.Proofs.YtegcedboeemedaaGreatDoor
open Go.RowKit Go.Cl
attribute [local go_sem ↓] Go.wp_at_zero Go.wp_at_succ
section
variable {wt w w1 w' : World} {X base Bp : Nat} {P : PS} {nV oV iV : Value} {ps : List (Value × Value)}
theorem PAt.baseLe (h : PAt wt w X base Bp P nV oV iV ps) (h0 : P.has 0) : base ≤ w.heap.size := by
  have h1 : 0 < P.nodes.length := h0.2
  obtain ⟨g, c, _, hb, hl, _⟩ := h.ed.where_ h1
  omega
/-- A node is appended, and the row stored. -/
theorem PAt.make_run (h : PAt wt w X base Bp P nV oV iV ps) {y : Nd} {A' : Option Addr} {c' kb : Nat} (hl : P.nodes.length < 1000000000) (hbase : base ≤ w.heap.size) (hy : EdOk y) (hk : y.kids = []) (ho : OwnF tDA w base 141 (.slice A' y.attrs.length c') y.attrs.length y.attrs)
    (hfr : ∀ (i : Nat) q b, ps[i]? = some q → q.1.ownBlock = some b → (Value.slice A' y.attrs.length c').ownBlock ≠ some b) (hout : OutB Bp wt.heap.size (.slice A' y.attrs.length c'))
    (hcell : ∀ (j : Nat) u, (ndRow y (.slice A' y.attrs.length c', .slice none 0 0))[j]? = some u → w.cell? ⟨kb, 0 + j, none⟩ = some u) :
    ∃ A2 c2 w5, (Builtin.append_ #[31, 31] 31 #[nV, .slice (some ⟨kb, 0, none⟩) 1 1]).run Tryz.prog w = .ok (.slice A2 (P.nodes.length + 1) c2) w5 ∧ w.grownBy w5 nV.ownBlock ∧ Below base w w5 ∧ w5.heap[X]? = w.heap[X]? ∧
      PAt wt (w5.setCell ⟨X, 0, none⟩ (.slice A2 (P.nodes.length + 1) c2)) X base Bp { P with nodes := P.nodes ++ [y] } (.slice A2 (P.nodes.length + 1) c2) oV iV (ps ++ [(.slice A' y.attrs.length c', .slice none 0 0)]) := by
  have hP : Parts w base y (.slice A' y.attrs.length c', .slice none 0 0) := ⟨ho, by rw [hk]; exact OwnF.nil _ _ _, hy⟩
  have hrep : tN6.rep w (fun _ => False) (ndRow y (.slice A' y.attrs.length c', .slice none 0 0)) (ndRow y (.slice A' y.attrs.length c', .slice none 0 0)) := ⟨rfl, ndRow_ok ⟨_, _, _, rfl⟩ ⟨_, _, _, rfl⟩⟩
  obtain ⟨v', w5, hrun, hown, hg, hb, hv⟩ := run_ap1 (P := Tryz.prog) (t := 31) (ty := 31) (c := 1) w elemN6 h.ed.row (fun _ h => h.elim) hrep hcell (by omega) (by omega) hbase
  obtain ⟨A5, c5, rfl⟩ := Own.form hown
  refine ⟨A5, c5, w5, hrun, hg, hb, hg.block X h.low (fun e => h.looseN.x e.symm), ?_⟩
  refine h.app hP (fun i a ha => ⟨⟨?_, ?_⟩, ?_, Or.inl rfl⟩) hl rfl hout hg hown (by
    rcases hv with e | e
    · exact .inl e
    · exact .inr ⟨_, e, Nat.le_refl _⟩)
  · cases hb : a.1.ownBlock with
    | none => exact Or.inl rfl
    | some b => exact Or.inr fun e => hfr i a b ha hb e.symm
  · cases hb : a.2.ownBlock with
    | none => exact Or.inl rfl
    | some b => exact Or.inr fun e => by cases e
  · cases hb : a.1.ownBlock with
    | none =>
      cases A' with
      | none => exact Or.inl rfl
      | some z => exact Or.inr fun e => by cases e
    | some b => exact Or.inr fun e => hfr i a b ha hb e
end
set_option maxRecDepth 100000 in
set_option maxHeartbeats 2000000 in
/-- A node is made: its attributes lie in a row of the call's own, or there are none. -/
theorem make_at (m : Int) (wt w0 w : World) (X base Bp : Nat) (P : PS) (h : BdAt m wt w0 X base Bp P) (hb0 : Below w0.heap.size w0 w) (x : Nd) (v : Value) (pr : Int) (ho : OwnF tDA w w0.heap.size 141 v x.attrs.length x.attrs) (hk : x.kids = []) (h0 : P.has 0) (hsz : P.nodes.length ≤ 500000000)
    (hkd : (Lit.int .i64 x.kind).wf = true) (hnm : x.name.size ≤ 1000000000) (htx : x.text.size ≤ 1000000000) (hat : x.attrs.length ≤ 1000000000) :
    Calls Tryz.prog 118 #[.pointer (some ⟨X, 0, none⟩), .agg #[.int .i64 x.kind, .string x.name, v, .string x.text, .int .i64 pr, .slice none 0 0]] w fun e w' => e = .returned (.int .i64 P.next) ∧ BdTo m wt w w' X base Bp (P.make x) := by
  obtain ⟨A', c', rfl⟩ := Own.form ho
  obtain ⟨nV, oV, iV, ps, hp0⟩ := h.mem
  obtain ⟨w1, hw1⟩ : ∃ w1, w1 = w.alloc (.cells #[.int .i64 x.kind, .string x.name, .slice A' x.attrs.length c', .string x.text, .int .i64 (-1), .slice none 0 0] 46) := ⟨_, rfl⟩
  have hk1 : w1.heap[w.heap.size]? = some (.cells #[.int .i64 x.kind, .string x.name, .slice A' x.attrs.length c', .string x.text, .int .i64 (-1), .slice none 0 0] 46 (0, 0)) := by
    rw [hw1]
    exact heap_alloc_new w _
  have hb1 : Below w.heap.size w w1 := by
    rw [hw1]
    exact (Below.refl _ w).alloc (Nat.le_refl _) _
  have hz1 : w1.heap.size = w.heap.size + 1 := by rw [hw1]; simp
  have hb01 : Below w0.heap.size w0 w1 := hb0.trans (hb1.mono hb0.size)
  have hp1 := hp0.next hb01
  have H1 := Lib.hid hp1
  have hbs := hp0.baseLe h0
  have f4 : (w.alloc (.cells #[.int .i64 x.kind, .string x.name, .slice A' x.attrs.length c', .string x.text, .int .i64 pr, .slice none 0 0] 46)).frozen? ⟨w.heap.size, 4, none⟩ = false := free_blk (heap_alloc_new w _)
  -- the append, from whatever world agrees with w1
  have HRUN : Hid (∀ w3, Below w1.heap.size w1 w3 → ∃ A2 c2 w5, (Builtin.append_ #[31, 31] 31 #[nV, .slice (some ⟨w3.heap.size, 0, none⟩) 1 1]).run Tryz.prog (w3.alloc (.cells #[.int .i64 x.kind, .string x.name, .slice A' x.attrs.length c', .string x.text, .int .i64 (-1), .slice none 0 0] 46)) = .ok (.slice A2 (P.nodes.length + 1) c2) w5 ∧
      w5.cell? ⟨X, 0, none⟩ = some nV ∧ w5.frozen? ⟨X, 0, none⟩ = false ∧ (w5.setCell ⟨X, 0, none⟩ (.slice A2 (P.nodes.length + 1) c2)).cell? ⟨X, 0, none⟩ = some (.slice A2 (P.nodes.length + 1) c2) ∧ (∀ W, W = w5.setCell ⟨X, 0, none⟩ (.slice A2 (P.nodes.length + 1) c2) → BdTo m wt w W X base Bp (P.make x)) ∧ (∀ (i : Nat) u, (#[Value.int .i64 x.kind, .string x.name, .slice A' x.attrs.length c', .string x.text, .int .i64 (-1), .slice none 0 0] : Array Value)[i]? = some u → w5.cell? ⟨w.heap.size, i, none⟩ = some u)) := fun w3 hb3 => by
    obtain ⟨w4, hw4⟩ : ∃ w4, w4 = w3.alloc (.cells #[.int .i64 x.kind, .string x.name, .slice A' x.attrs.length c', .string x.text, .int .i64 (-1), .slice none 0 0] 46) := ⟨_, rfl⟩
    have hb34 : Below w3.heap.size w3 w4 := by rw [hw4]; exact (Below.refl _ _).alloc (Nat.le_refl _) _
    have hb14 : Below w1.heap.size w1 w4 := hb3.trans (hb34.mono hb3.size)
    have hb04 : Below w0.heap.size w0 w4 := hb01.trans (hb14.mono hb01.size)
    have hp4 := hp0.next hb04
    have ho4 : OwnF tDA w4 w0.heap.size 141 (.slice A' x.attrs.length c') x.attrs.length x.attrs := OwnF.below ho (hb1.trans (hb14.mono hb1.size)) (Nat.le_refl _)
    obtain ⟨A2, c2, w5, hrun, hg, hb5, hx5, hat5⟩ := hp4.make_run (y := { x with parent := -1 }) (A' := A') (c' := c') (kb := w3.heap.size) (by omega) (Nat.le_trans hbs hb04.size) ⟨hkd, by show x.name.size ≤ _; omega, by show x.text.size ≤ _; omega, (by decide : (Lit.int .i64 (-1)).wf = true), by show x.attrs.length ≤ _; omega, by show x.kids.length ≤ _; rw [hk]; exact Nat.zero_le _⟩ hk (Own.down ho4 hbs)
      (fun i q b hq hqb e => by
        obtain ⟨z, hz⟩ : ∃ z, P.nodes[i]? = some z := get_some (by have := hp0.ed.len; have := (List.getElem?_eq_some_iff.1 hq).1; omega)
        have h1 := (Own.lt (hp0.ed.parts i z q hz hq).attrs b hqb).2
        have h2 := (Own.lt ho4 b e).1
        omega)
      (fun b e => .inr (by
        have h2 := (Own.lt ho4 b e).1
        have := hp0.ht
        omega))
      (by rw [hw4]; show ∀ (j : Nat) u, (ndRow { x with parent := -1 } (Value.slice A' x.attrs.length c', Value.slice none 0 0))[j]? = some u → _; unfold ndRow; rw [show ({ x with parent := -1 } : Nd).kids = [] from hk] at *; exact cell_new w3 _ _)
    refine ⟨A2, c2, w5, by rw [← hw4]; exact hrun, ?_, ?_, cell_blk (set_blk (hx5.trans hp4.box) _) rfl, ?_, ?_⟩
    · exact cell_blk (hx5.trans hp4.box) rfl
    · exact free_blk (hx5.trans hp4.box)
    · rintro W rfl
      have hb4w : Below w.heap.size w w4 := hb1.trans (hb14.mono hb1.size)
      have hlow5 : Below base w w5 := (hb4w.mono (Nat.le_trans hbs hb0.size)).trans hb5
      have hk5 : KeepT w w5 := (KeepT.below hb4w).trans (KeepT.own hp4.ed.row (.inr (.inl rfl)) hg)
      have hlow := hlow5.trans (below_box w5 X 0 (.slice A2 (P.nodes.length + 1) c2) hp0.hX)
      exact .of (h.next hb0) ⟨hlow, hk5.trans (KeepT.row (hx5.trans hp4.box) (.inl rfl) (grown_set w5 X 0 _)), _, _, _, _, hat5⟩
    · intro i u hu
      have hke : w4.heap[w.heap.size]? = some (.cells #[.int .i64 x.kind, .string x.name, .slice A' x.attrs.length c', .string x.text, .int .i64 (-1), .slice none 0 0] 46 (0, 0)) := (hb14.block w.heap.size (by omega)).trans hk1
      refine cell_blk ((hg.block w.heap.size (by have := hb14.size; omega) (fun e => ?_)).trans hke) hu
      have := (Own.lt hp0.ed.row _ e.symm).2
      have := hb0.size
      omega
  have c0 := hp1.cell 0 (v := nV) rfl
  have k0 := cell_blk (i := 0) hk1 rfl
  have k1 := cell_blk (i := 1) hk1 rfl
  have k2 := cell_blk (i := 2) hk1 rfl
  have k3 := cell_blk (i := 3) hk1 rfl
  have k4 := cell_blk (i := 4) hk1 rfl
  have k5 := cell_blk (i := 5) hk1 rfl
  have HNX : Hid (P.next = (P.nodes.length : Int)) := rfl
  have hln : P.nodes.length ≤ 500000000 := hsz
  clear hp0 hp1 hb01 h hb0 ho hk h0 hsz hkd hnm htx hat hk1 hbs hz1
  generalize P.next = nx at *
  generalize P.nodes.length = N at *
  go_enter Tryz.func118, Tryz.ntmps118
  go_upto_region 2 with fail
  rw [← hw1]
  clear hw1 f4
  refine wp_region_G (S := (fun w' : World => w'.cell? ⟨X, 0, none⟩ = some nV ∧ w'.cell? ⟨w.heap.size, 0, none⟩ = some (.int .i64 x.kind) ∧ w'.cell? ⟨w.heap.size, 1, none⟩ = some (.string x.name) ∧ w'.cell? ⟨w.heap.size, 2, none⟩ = some (.slice A' x.attrs.length c') ∧ w'.cell? ⟨w.heap.size, 3, none⟩ = some (.string x.text) ∧ w'.cell? ⟨w.heap.size, 4, none⟩ = some (.int .i64 (-1)) ∧ w'.cell? ⟨w.heap.size, 5, none⟩ = some (.slice none 0 0))) (T := [10]) (by kernel_rfl) ?_
  have hS : (fun w' : World => w'.cell? ⟨X, 0, none⟩ = some nV ∧ w'.cell? ⟨w.heap.size, 0, none⟩ = some (.int .i64 x.kind) ∧ w'.cell? ⟨w.heap.size, 1, none⟩ = some (.string x.name) ∧ w'.cell? ⟨w.heap.size, 2, none⟩ = some (.slice A' x.attrs.length c') ∧ w'.cell? ⟨w.heap.size, 3, none⟩ = some (.string x.text) ∧ w'.cell? ⟨w.heap.size, 4, none⟩ = some (.int .i64 (-1)) ∧ w'.cell? ⟨w.heap.size, 5, none⟩ = some (.slice none 0 0)) w1.drew := ⟨c0, k0, k1, k2, k3, k4, k5⟩
  refine wpAnyG_pure (i := 0) (v := ?_) rfl (by kernel_rfl) (by kernel_rfl) (by kernel_rfl) (fun _ _ _ h => h) rfl ?_ ?_
  rotate_left
  · intro w'
    first | (go_simp; done) | (go_simp; with_reducible rfl)
  refine wpAnyG_pure (i := 1) (v := ?_) rfl (by kernel_rfl) (by kernel_rfl) (by kernel_rfl) (fun _ _ _ h => h) rfl ?_ ?_
  rotate_left
  · intro w'
    first | (go_simp; done) | (go_simp; with_reducible rfl)
  refine wpAnyG_pure (i := 2) (v := ?_) rfl (by kernel_rfl) (by kernel_rfl) (by kernel_rfl) (fun _ _ _ h => h) rfl ?_ ?_
  rotate_left
  · intro w'
    first | (go_simp; done) | (go_simp; with_reducible rfl)
  refine wpAnyG_pure (i := 3) (v := ?_) rfl (by kernel_rfl) (by kernel_rfl) (by kernel_rfl) (fun _ _ _ h => h) rfl ?_ ?_
  rotate_left
  · intro w'
    first | (go_simp; done) | (go_simp; with_reducible rfl)
  refine wpAnyG_take (i := 4) (v := ?_) rfl (by kernel_rfl) (by kernel_rfl) (by kernel_rfl) (by kernel_rfl) (fun _ _ _ h => h) hS rfl ?_ ?_
  rotate_left
  · intro w' hSw
    (try dsimp only at hSw)
    first | (go_simp; done) | (go_simp; with_reducible rfl)
  refine wpAnyG_take (i := 5) (v := ?_) rfl (by kernel_rfl) (by kernel_rfl) (by kernel_rfl) (by kernel_rfl) (fun _ _ _ h => h) hS rfl ?_ ?_
  rotate_left
  · intro w' hSw
    (try dsimp only at hSw)
    first | (go_simp; done) | (go_simp; with_reducible rfl)
  refine wpAnyG_one (i := 6) (by kernel_rfl) rfl rfl (fun K hK => ?_)
  go_simp
  have hb1d : Below w1.heap.size w1 w1.drew := (Below.refl _ _).drew
  obtain ⟨A2, c2, w5, hrun, hx5, hf5, hx6, hto, hk5⟩ := HRUN.out w1.drew hb1d
  refine hK.out _ _ (fun _ _ => ⟨cell_al (w := w1.drew) c0 _, cell_al (w := w1.drew) k0 _, cell_al (w := w1.drew) k1 _, cell_al (w := w1.drew) k2 _, cell_al (w := w1.drew) k3 _, cell_al (w := w1.drew) k4 _, cell_al (w := w1.drew) k5 _⟩) ?_
  clear hK K hS
  refine wpAnyG_one (i := 7) (by kernel_rfl) rfl rfl (fun K hK => ?_)
  refine wp_append_runI (.tmp 10) (.tmp 12) 31 rfl nV (.slice (some ⟨w1.heap.size, 0, none⟩) 1 1) rfl rfl hrun ?_
  refine hK.out _ _ (fun _ _ => ⟨hx5, hk5 0 _ rfl, hk5 1 _ rfl, hk5 2 _ rfl, hk5 3 _ rfl, hk5 4 _ rfl, hk5 5 _ rfl⟩) ?_
  clear hK K
  have HTO := Lib.hid hto
  clear hto hk5 hrun k0 k1 k2 k3 k4 k5 c0
  refine wpAnyG_one (i := 8) (by kernel_rfl) rfl rfl (fun K hK => ?_)
  go_simp
  refine hK.out _ _ (fun _ h => h) ?_
  clear hK K
  refine wpAnyG_one (i := 9) (by kernel_rfl) rfl rfl (fun K hK => ?_)
  go_simp
  refine hK.out _ _ (fun _ h => h) ?_
  clear hK K
  refine wpAnyG_one (i := 10) (by kernel_rfl) rfl rfl (fun K hK => ?_)
  go_simp
  refine hK.out _ _ (fun h => absurd (by decide) h) ?_
  clear hK K
  refine wpAnyG_done (by kernel_rfl) ?_ _
  obtain ⟨w6, hw6⟩ : ∃ w6, w6 = w5.setCell ⟨X, 0, none⟩ (.slice A2 (N + 1) c2) := ⟨_, rfl⟩
  rw [← hw6]
  have hT6 := HTO.out w6 hw6
  have HT6 := Lib.hid hT6
  have c06 : w6.cell? ⟨X, 0, none⟩ = some (.slice A2 (N + 1) c2) := by rw [hw6]; exact hx6
  clear hw6 hT6 HTO hx6 hx5 hf5
  have wz : IntKind.i64.wrap (((N + 1 : Nat) : Int) - 1) = (N : Int) := by rw [IntWalk.i64_in _ (by omega)]; omega
  have wz2 : IntKind.i64.wrap ((N : Int) + 1 - 1) = (N : Int) := by rw [IntWalk.i64_in _ (by omega)]; omega
  have wz3 : IntKind.i64.wrap (N : Int) = (N : Int) := IntWalk.i64_in _ (by omega)
  go_wp2_with fail
  go_ret
  exact ⟨retI HNX.out.symm, HT6.out⟩
end Go.Proofs.YtegcedboeemedaaGreatDoor

/-
The tree's own functions: a node is put at a spot.
-/
namespace Go.Proofs.YtegcedboeemedaaGreatDoor
open Go.RowKit Go.Cl
attribute [local go_sem ↓] Go.wp_at_zero Go.wp_at_succ
theorem same_cell {w w' : World} {b i : Nat} {v : Value} (hb : w'.heap[b]? = w.heap[b]?) (h : w.cell? ⟨b, i, none⟩ = some v) : w'.cell? ⟨b, i, none⟩ = some v := (World.cell?_of_block (a := ⟨b, i, none⟩) hb).trans h
set_option maxRecDepth 100000 in
set_option maxHeartbeats 2000000 in
theorem put_at (m : Int) (wt w : World) (X base Bp : Nat) (P : PS) (h : BdAt m wt w X base Bp P) (ht : P.Tr) (s : Int × Nat) (n : Int) (hs : P.Spot s) (hn : P.has n) (hsz : P.nodes.length ≤ 500000000) (h0 : P.has 0) :
    Calls Tryz.prog 120 #[.pointer (some ⟨X, 0, none⟩), .agg #[.int .i64 s.1, .int .i64 (s.2 : Int)], .int .i64 n] w fun e w' => e = .returned (.tuple #[]) ∧ BdTo m wt w w' X base Bp (P.put s n) := by
  obtain ⟨s1, at_⟩ := s
  obtain ⟨nV, oV, iV, ps, hp⟩ := h.mem
  obtain ⟨p, rfl, hx, hpl⟩ := PS.has_at hs.1
  obtain ⟨k, rfl, _, hkl⟩ := PS.has_at hn
  have hbs := hp.baseLe h0
  obtain ⟨g, cN, q, rfl, hq, hP, hgl, hXg, hcell⟩ := hp.node hx
  have hkids : (P.nd (p : Int)).kids.length ≤ P.nodes.length := ht.kids_le hs.1
  have hil : at_ ≤ (P.nd (p : Int)).kids.length := hs.2
  obtain ⟨q1, qv⟩ := q
  obtain ⟨Ak, ck, ev⟩ := Own.form hP.kids
  obtain rfl : qv = .slice Ak (P.nd (p : Int)).kids.length ck := ev
  -- the box of the spot
  obtain ⟨w1, hw1⟩ : ∃ w1, w1 = w.alloc (.cells #[.int .i64 (p : Int), .int .i64 (at_ : Int)] 144) := ⟨_, rfl⟩
  have hb1 : Below w.heap.size w w1 := by rw [hw1]; exact (Below.refl _ w).alloc (Nat.le_refl _) _
  have hk1 : w1.heap[w.heap.size]? = some (.cells #[.int .i64 (p : Int), .int .i64 (at_ : Int)] 144 (0, 0)) := by rw [hw1]; exact heap_alloc_new w _
  have hp1 := hp.next hb1
  have hP1 := hP.below hb1
  -- what lies behind the insertion
  have hloose := hp1.looseK hx hq
  have hgo : (Value.slice Ak (P.nd (p : Int)).kids.length ck).ownBlock ≠ some g := fun e => own_ne_block (by decide) hP.kids (own_block_at hp.ed.row (rfl : (Value.slice (some ⟨g, 0, none⟩) P.nodes.length cN).ownBlock = some g)).choose_spec e
  have hbo : (Value.slice Ak (P.nd (p : Int)).kids.length ck).ownBlock ≠ some w.heap.size := own_ne_block (by decide) hP1.kids hk1
  have hgX : some g ≠ some X := fun e => hXg (by injection e with e; exact e.symm)
  have htw : (Lit.int .i64 (k : Int)).wf = true := WalkArith.wf_i64 (by omega)
  have HAFT : Hid (∀ w4 A5 c5, w1.grownBy w4 (Value.slice Ak (P.nd (p : Int)).kids.length ck).ownBlock → OwnF (tInt .i64) w4 base 3 (.slice A5 ((P.nd (p : Int)).kids.length + 1) c5) ((P.nd (p : Int)).kids.length + 1) ((P.nd (p : Int)).kids.take at_ ++ (k : Int) :: (P.nd (p : Int)).kids.drop at_) →
      ((Value.slice A5 ((P.nd (p : Int)).kids.length + 1) c5).ownBlock = (Value.slice Ak (P.nd (p : Int)).kids.length ck).ownBlock ∨ ∃ z, (Value.slice A5 ((P.nd (p : Int)).kids.length + 1) c5).ownBlock = some z ∧ w1.heap.size ≤ z) →
      w4.cell? ⟨w.heap.size, 0, none⟩ = some (.int .i64 (p : Int)) ∧ w4.cell? ⟨w.heap.size, 1, none⟩ = some (.int .i64 (at_ : Int)) ∧ w4.cell? ⟨g, p * 6 + 5, none⟩ = some (.slice Ak (P.nd (p : Int)).kids.length ck) ∧ w4.frozen? ⟨g, p * 6 + 5, none⟩ = false ∧
      ∀ w5, w5 = w4.setCell ⟨g, p * 6 + 5, none⟩ (.slice A5 ((P.nd (p : Int)).kids.length + 1) c5) → w5.cell? ⟨w.heap.size, 0, none⟩ = some (.int .i64 (p : Int)) ∧ w5.cell? ⟨X, 0, none⟩ = some (.slice (some ⟨g, 0, none⟩) P.nodes.length cN) ∧ (∃ u, w5.cell? ⟨g, k * 6 + 4, none⟩ = some u) ∧ w5.frozen? ⟨g, k * 6 + 4, none⟩ = false ∧
        ∀ w6, w6 = w5.setCell ⟨g, k * 6 + 4, none⟩ (.int .i64 (p : Int)) → BdTo m wt w w6 X base Bp (P.put ((p : Int), at_) (k : Int))) := fun w4 A5 c5 hg4 ho4 hv4 => by
    have hxb := hg4.block X hp1.low (fun e => hloose.x e.symm)
    have hbb := hg4.block w.heap.size (Array.getElem?_eq_some_iff.1 hk1).1 (fun e => hbo e.symm)
    have hgb := hg4.block g (Nat.lt_of_lt_of_le hgl hb1.size) (fun e => hgo e.symm)
    have hgb0 := hgb.trans (hb1.block g hgl)
    have hlen : ((P.nd (p : Int)).kids.take at_ ++ (k : Int) :: (P.nd (p : Int)).kids.drop at_).length = (P.nd (p : Int)).kids.length + 1 := by rw [List.perm_middle.length_eq, List.take_append_drop, List.length_cons]
    refine ⟨same_cell hbb (cell_blk hk1 rfl), same_cell hbb (cell_blk hk1 rfl), same_cell hgb0 (hcell 5 _ rfl).1, (by
      have := (hcell 5 _ rfl).2
      unfold World.frozen? at this ⊢
      rw [hgb0]
      exact this), ?_⟩
    rintro w5 rfl
    have hp5 := hp1.kids (w1 := w4) (v := .slice A5 ((P.nd (p : Int)).kids.length + 1) c5) (ks := (P.nd (p : Int)).kids.take at_ ++ (k : Int) :: (P.nd (p : Int)).kids.drop at_) hx hq hg4 (by rw [hlen]; exact ho4) hv4 (by rw [hlen]; omega)
    obtain ⟨k2, ek, hx2, hk2l⟩ := PS.has_at (P := { P with nodes := P.nodes.set p { P.nd (p : Int) with kids := (P.nd (p : Int)).kids.take at_ ++ (k : Int) :: (P.nd (p : Int)).kids.drop at_ } }) (n := (k : Int)) ⟨by omega, by simpa using hkl⟩
    obtain rfl : k = k2 := by omega
    obtain ⟨g2, cN2, r, e2, hr, hR, _, _, hcell2⟩ := hp5.node hx2
    obtain rfl : g = g2 := by
      injection e2 with e2
      injection e2 with e2
      injection e2
    have hbox5 := hp5.box
    have hbb5 : (w4.setCell ⟨g, p * 6 + 5, none⟩ (.slice A5 ((P.nd (p : Int)).kids.length + 1) c5)).heap[w.heap.size]? = some (.cells #[.int .i64 (p : Int), .int .i64 (at_ : Int)] 144 (0, 0)) := (Below.heap_setCell _ _ _ _ (by show w.heap.size ≠ g; omega)).trans (hbb.trans hk1)
    refine ⟨cell_blk hbb5 rfl, hp5.cell 0 rfl, ⟨_, (hcell2 4 _ rfl).1⟩, (hcell2 4 _ rfl).2, ?_⟩
    rintro w6 rfl
    have hp6 := hp5.plain (j := 4) (u := .int .i64 (p : Int)) (y := { PS.nd { P with nodes := P.nodes.set p { P.nd (p : Int) with kids := (P.nd (p : Int)).kids.take at_ ++ (k : Int) :: (P.nd (p : Int)).kids.drop at_ } } (k : Int) with parent := (p : Int) }) hx2 hr (by decide) rfl rfl rfl
      ⟨hR.ok.kind, hR.ok.name, hR.ok.text, (WalkArith.wf_i64 (by omega) : (Lit.int .i64 (p : Int)).wf = true), hR.ok.attrs, hR.ok.kids⟩
    have hl1 : Below base w w1 := hb1.mono hbs
    have hl4 : Below base w1 w4 := below_row hP1.kids (Nat.le_refl _) hg4 (Nat.le_trans hbs hb1.size)
    have hgbase : base ≤ g := (Own.lt hp.ed.row g rfl).1
    have hl6 := ((hl1.trans hl4).setCell (p := ⟨g, p * 6 + 5, none⟩) (by show base ≤ g; omega) (.slice A5 ((P.nd (p : Int)).kids.length + 1) c5)).setCell (p := ⟨g, k * 6 + 4, none⟩) (by show base ≤ g; omega) (.int .i64 (p : Int))
    have hkeep : KeepT w _ := (((KeepT.below hb1).trans (KeepT.own hP1.kids (.inr (.inr (.inl rfl))) hg4)).trans (KeepT.row (g := g) (hgb0.trans (own_block_at hp.ed.row (rfl : (Value.slice (some ⟨g, 0, none⟩) P.nodes.length cN).ownBlock = some g)).choose_spec) (.inr (.inl rfl)) (grown_set w4 g (p * 6 + 5) (.slice A5 ((P.nd (p : Int)).kids.length + 1) c5)))).trans
      (KeepT.own hp5.ed.row (.inr (.inl rfl)) (grown_set _ g (k * 6 + 4) (.int .i64 (p : Int))))
    exact .of h ⟨hl6, hkeep, _, _, _, _, hp6⟩
  have HINS : Hid (∀ w3, w3 = (w1.alloc (.cells #[.int .i64 (k : Int)] 3)).drew.drew → Calls Tryz.prog 158 #[.slice Ak (P.nd (p : Int)).kids.length ck, .int .i64 (at_ : Int), .slice (some ⟨w1.heap.size, 0, none⟩) 1 1] w3 fun e w' => ∃ A5 c5, e = .returned (.slice A5 ((P.nd (p : Int)).kids.length + 1) c5) ∧
      w1.grownBy w' (Value.slice Ak (P.nd (p : Int)).kids.length ck).ownBlock ∧ OwnF (tInt .i64) w' base 3 (.slice A5 ((P.nd (p : Int)).kids.length + 1) c5) ((P.nd (p : Int)).kids.length + 1) ((P.nd (p : Int)).kids.take at_ ++ (k : Int) :: (P.nd (p : Int)).kids.drop at_) ∧
      ((Value.slice A5 ((P.nd (p : Int)).kids.length + 1) c5).ownBlock = (Value.slice Ak (P.nd (p : Int)).kids.length ck).ownBlock ∨ ∃ z, (Value.slice A5 ((P.nd (p : Int)).kids.length + 1) c5).ownBlock = some z ∧ w1.heap.size ≤ z)) := by
    rintro w3 rfl
    refine (insertI Ak (P.nd (p : Int)).kids.length ck at_ (P.nd (p : Int)).kids k w1.heap.size (w1.alloc (.cells #[.int .i64 (k : Int)] 3)).drew.drew base (OwnF.drew (OwnF.drew (hP1.kids.al _))) hil (by omega) (Nat.le_trans hbs (Nat.le_trans hb1.size (by show w1.heap.size ≤ (w1.alloc _).heap.size; simp))) htw (heap_alloc_new w1 _) (fun e => by have := (Own.lt hP1.kids _ e).2; omega)).mono ?_
    rintro e' w4 ⟨v', rfl, hown4, hg4, hv4⟩
    obtain ⟨A5, c5, rfl⟩ := Own.form hown4
    exact ⟨A5, c5, rfl, grownBy.trans' (grownBy.trans' (grown_al w1 _ _) (grownBy.trans' (grown_drew _ _) (grown_drew _ _))) hg4, hown4, by
      rcases hv4 with e | e
      · exact .inl e
      · exact .inr ⟨_, e, by show w1.heap.size ≤ (w1.alloc _).heap.size; simp⟩⟩
  have HNX : Hid (g ≠ X) := fun e => hXg e.symm
  have HNB : Hid (g ≠ w.heap.size) := by show g ≠ w.heap.size; omega
  have c0 := hp1.cell 0 (v := .slice (some ⟨g, 0, none⟩) P.nodes.length cN) rfl
  have b0 := cell_blk (i := 0) hk1 rfl
  have b1 := cell_blk (i := 1) hk1 rfl
  have g5 := same_cell (hb1.block g hgl) (hcell 5 _ rfl).1
  have i1 : (0 : Int) ≤ (p : Int) := by omega
  have i2 : (p : Int) < (P.nodes.length : Int) := by omega
  have i3 : (0 : Int) ≤ (k : Int) := by omega
  have i4 : (k : Int) < (P.nodes.length : Int) := by omega
  clear h hs hn hx hkl hcell hP hq hp hp1 hP1 hloose hgo hbo hgX htw hkids hil hpl hk1 hb1 ht hsz h0 hbs hgl hXg
  generalize (P.nd (p : Int)).kids.length = nk at *
  generalize P.nodes.length = N at *
  go_enter Tryz.func120, Tryz.ntmps120
  go_upto_region 1 with fail
  rw [← hw1]
  clear hw1
  go_region_held3 (fun w' => w'.cell? ⟨X, 0, none⟩ = some (.slice (some ⟨g, 0, none⟩) N cN) ∧ w'.cell? ⟨w.heap.size, 0, none⟩ = some (.int .i64 p)) (first | go_keep | assumption) (fail)
  go_upto_region 2 with fail
  refine wp_region_G (S := fun w' : World => w'.cell? ⟨g, p * 6 + 5, none⟩ = some (.slice Ak nk ck) ∧ w'.cell? ⟨w.heap.size, 1, none⟩ = some (.int .i64 at_)) (T := [12]) (by kernel_rfl) ?_
  have hS : (fun w' : World => w'.cell? ⟨g, p * 6 + 5, none⟩ = some (.slice Ak nk ck) ∧ w'.cell? ⟨w.heap.size, 1, none⟩ = some (.int .i64 at_)) w1.drew := ⟨g5, b1⟩
  refine wpAnyG_take (i := 0) (v := ?_) rfl (by kernel_rfl) (by kernel_rfl) (by kernel_rfl) (by kernel_rfl) (fun _ _ _ h => h) hS rfl ?_ ?_
  rotate_left
  · intro w' hSw
    (try dsimp only at hSw)
    first | (go_simp; done) | (go_simp; with_reducible rfl)
  refine wpAnyG_take (i := 1) (v := ?_) rfl (by kernel_rfl) (by kernel_rfl) (by kernel_rfl) (by kernel_rfl) (fun _ _ _ h => h) hS rfl ?_ ?_
  rotate_left
  · intro w' hSw
    (try dsimp only at hSw)
    first | (go_simp; done) | (go_simp; with_reducible rfl)
  refine wpAnyG_take (i := 2) (v := ?_) rfl (by kernel_rfl) (by kernel_rfl) (by kernel_rfl) (by kernel_rfl) (fun _ _ _ h => h) hS rfl ?_ ?_
  rotate_left
  · intro w' hSw
    (try dsimp only at hSw)
    first | (go_simp; done) | (go_simp; with_reducible rfl)
  refine wpAnyG_take (i := 3) (v := ?_) rfl (by kernel_rfl) (by kernel_rfl) (by kernel_rfl) (by kernel_rfl) (fun _ _ _ h => h) hS rfl ?_ ?_
  rotate_left
  · intro w' hSw
    (try dsimp only at hSw)
    first | (go_simp; done) | (go_simp; with_reducible rfl)
  refine wpAnyG_take (i := 4) (v := ?_) rfl (by kernel_rfl) (by kernel_rfl) (by kernel_rfl) (by kernel_rfl) (fun _ _ _ h => h) hS rfl ?_ ?_
  rotate_left
  · intro w' hSw
    (try dsimp only at hSw)
    first | (go_simp; done) | (go_simp; with_reducible rfl)
  refine wpAnyG_take (i := 5) (v := ?_) rfl (by kernel_rfl) (by kernel_rfl) (by kernel_rfl) (by kernel_rfl) (fun _ _ _ h => h) hS rfl ?_ ?_
  rotate_left
  · intro w' hSw
    (try dsimp only at hSw)
    first | (go_simp; done) | (go_simp; with_reducible rfl)
  refine wpAnyG_take (i := 6) (v := ?_) rfl (by kernel_rfl) (by kernel_rfl) (by kernel_rfl) (by kernel_rfl) (fun _ _ _ h => h) hS rfl ?_ ?_
  rotate_left
  · intro w' hSw
    (try dsimp only at hSw)
    first | (go_simp; done) | (go_simp; with_reducible rfl)
  refine wpAnyG_take (i := 7) (v := ?_) rfl (by kernel_rfl) (by kernel_rfl) (by kernel_rfl) (by kernel_rfl) (fun _ _ _ h => h) hS rfl ?_ ?_
  rotate_left
  · intro w' hSw
    (try dsimp only at hSw)
    first | (go_simp; done) | (go_simp; with_reducible rfl)
  refine wpAnyG_one (i := 8) (by kernel_rfl) rfl rfl (fun K hK => ?_)
  go_simp
  refine hK.out _ _ (fun _ _ => ⟨cell_al (w := w1.drew) g5 _, cell_al (w := w1.drew) b1 _⟩) ?_
  clear hK K hS
  refine wpAnyG_one (i := 9) (by kernel_rfl) rfl rfl (fun K hK => ?_)
  go_simp
  go_at_call 158
  refine (HINS.out _ rfl).mono ?_
  rintro e' w4 ⟨A5, c5, rfl, hg4, ho4, hv4⟩
  obtain ⟨a0, a1, a5, f5, haft⟩ := HAFT.out w4 A5 c5 hg4 ho4 hv4
  have HA := Lib.hid haft
  clear haft hg4 ho4 hv4
  go_wp2_with fail
  refine hK.out _ _ (fun _ _ => ⟨a5, a1⟩) ?_
  clear hK K
  refine wpAnyG_one (i := 10) (by kernel_rfl) rfl rfl (fun K hK => ?_)
  go_simp
  refine hK.out _ _ (fun _ h => h) ?_
  clear hK K
  refine wpAnyG_one (i := 11) (by kernel_rfl) rfl rfl (fun K hK => ?_)
  go_simp
  refine hK.out _ _ (fun _ h => h) ?_
  clear hK K
  refine wpAnyG_one (i := 12) (by kernel_rfl) rfl rfl (fun K hK => ?_)
  go_simp
  refine hK.out _ _ (fun h => absurd (by decide) h) ?_
  clear hK K
  refine wpAnyG_done (by kernel_rfl) ?_ _
  obtain ⟨w5, hw5⟩ : ∃ w5, w5 = w4.setCell ⟨g, p * 6 + 5, none⟩ (.slice A5 (nk + 1) c5) := ⟨_, rfl⟩
  rw [← hw5]
  obtain ⟨d0, dx, ⟨u4, d4⟩, df, hend⟩ := HA.out w5 hw5
  have HE := Lib.hid hend
  clear hend HA hw5 a0 a1 a5 f5 HINS HAFT c0 b0 b1 g5
  go_simp
  have n0 := cell_far (i := k * 6 + 4) HNX.out dx (.int .i64 (p : Int))
  have n1 := cell_far (i := k * 6 + 4) HNB.out d0 (.int .i64 (p : Int))
  go_upto_region 3 with fail
  go_region_held3 (fun w' => w'.cell? ⟨X, 0, none⟩ = some (.slice (some ⟨g, 0, none⟩) N cN) ∧ w'.cell? ⟨w.heap.size, 0, none⟩ = some (.int .i64 p)) (first | go_keep | assumption | exact ⟨n0, n1⟩) (fail)
  go_wp2_with fail
  exact bodyPost_end (results_none rfl _ _ _) rfl ⟨rfl, (HE.out _ rfl).drew⟩
end Go.Proofs.YtegcedboeemedaaGreatDoor

/-
The names of what is open, and what is asked of them; popping up to a name.
-/
namespace Go.Proofs.YtegcedboeemedaaGreatDoor
open Go.RowKit Go.Cl
attribute [local go_sem ↓] Go.wp_at_zero Go.wp_at_succ
section
variable {m : Int} {wt w w' w2 : World} {X base Bp : Nat} {P Q : PS}
theorem BdAt.name_small (h : BdAt m wt w X base Bp P) {n : Int} (hn : P.has n) : (P.name n).size ≤ 1152921504606846976 := by
  obtain ⟨nV, oV, iV, ps, hp⟩ := h.mem
  obtain ⟨k, rfl, hx, _⟩ := PS.has_at hn
  obtain ⟨p, _, hP⟩ := hp.ed.part_at hx
  exact hP.ok.name
end
end Go.Proofs.YtegcedboeemedaaGreatDoor
