/-
What dom.Copy keeps while it copies: the document in its box, the map, the order's row.
-/
import Derived.Test.YtcnogokemilhnaaDoorEdDocs
import Derived.Test.YtcnogokemilhnaaDoorCopyLaw
import Derived.Maps.OwnOps
import Derived.Maps.OwnSet
import Derived.Maps.Views
import Derived.Carry
namespace Go.Proofs.YtcnogokemilhnaaDoor
open Go.RowKit Go.Cl
open Go.Maps (Keyed IsMap int_keyed)

/-- A document of the call's own in its box. -/
structure DcAt (w : World) (E g c base : Nat) (l : List Nd) (q : Bool) (ps : List (Value × Value)) : Prop where
  box : w.heap[E]? = some (.cells #[.slice (some ⟨g, 0, none⟩) l.length c, .bool q] 24 (0, 0))
  ed : Ed w base (.slice (some ⟨g, 0, none⟩) l.length c) l ps
  le : base ≤ E
  pos : 0 < l.length
  cap : l.length ≤ c
section
variable {w w1 w' : World} {E g c base : Nat} {l : List Nd} {q : Bool} {ps : List (Value × Value)}
theorem DcAt.next (h : DcAt w E g c base l q ps) (hb : Below w.heap.size w w') : DcAt w' E g c base l q ps :=
  ⟨(hb.block _ (Array.getElem?_eq_some_iff.1 h.box).1).trans h.box, h.ed.next hb, h.le, h.pos, h.cap⟩
theorem DcAt.c0 (h : DcAt w E g c base l q ps) : w.cell? ⟨E, 0, none⟩ = some (.slice (some ⟨g, 0, none⟩) l.length c) := cell_blk h.box rfl
theorem DcAt.c1 (h : DcAt w E g c base l q ps) : w.cell? ⟨E, 1, none⟩ = some (.bool q) := cell_blk h.box rfl
theorem DcAt.lt (h : DcAt w E g c base l q ps) : E < w.heap.size := (Array.getElem?_eq_some_iff.1 h.box).1
theorem DcAt.apart (h : DcAt w E g c base l q ps) : E ≠ g := fun e => own_ne_block (by decide) h.ed.row h.box (by rw [e]; rfl)
theorem DcAt.node (h : DcAt w E g c base l q ps) {m : Nat} {x : Nd} (hx : l[m]? = some x) : ∃ p, ps[m]? = some p ∧ NdIn w g base m x p := by
  obtain ⟨p, hp, hP⟩ := h.ed.part_at hx
  obtain ⟨g', c', e, hb, hg, _, hf, hc⟩ := h.ed.where_ h.pos
  simp only [Value.slice.injEq, Option.some.injEq, Addr.mk.injEq, and_true, true_and] at e
  obtain ⟨rfl, rfl⟩ := e
  have h' := hc m x p hx hp
  exact ⟨p, hp, h' 0 _ rfl, h' 1 _ rfl, h' 2 _ rfl, h' 3 _ rfl, h' 4 _ rfl, h' 5 _ rfl, hf, hb, hg, hP⟩
theorem DcAt.gs (h : DcAt w E g c base l q ps) : base ≤ g ∧ g < w.heap.size := by
  obtain ⟨g', c', e, hb, hg, _⟩ := h.ed.where_ h.pos
  simp only [Value.slice.injEq, Option.some.injEq, Addr.mk.injEq, and_true, true_and] at e
  obtain ⟨rfl, rfl⟩ := e
  exact ⟨hb, hg⟩
theorem DcAt.kids (h : DcAt w E g c base l q ps) {i : Nat} {x : Nd} {p : Value × Value} {v : Value} {ks : List Int} (hx : l[i]? = some x) (hp : ps[i]? = some p) (hg : w.grownBy w1 p.2.ownBlock) (hv : OwnF (tInt .i64) w1 base 3 v ks.length ks)
    (hb : v.ownBlock = p.2.ownBlock ∨ ∃ k, v.ownBlock = some k ∧ w.heap.size ≤ k) (hk : ks.length ≤ 1000) : DcAt (w1.setCell ⟨g, i * 6 + 5, none⟩ v) E g c base (l.set i { x with kids := ks }) q (ps.set i (p.1, v)) := by
  have hlen : (l.set i { x with kids := ks }).length = l.length := by rw [List.length_set]
  have hE1 : w1.heap[E]? = some (.cells #[.slice (some ⟨g, 0, none⟩) l.length c, .bool q] 24 (0, 0)) := (hg.block _ h.lt (fun e => own_ne_block (by decide) (h.ed.parts i x p hx hp).kids h.box e.symm)).trans h.box
  exact ⟨by rw [hlen]; exact (Below.heap_setCell _ _ _ _ h.apart).trans hE1, by rw [hlen]; exact h.ed.kids hx hp hg hv hb hk, h.le, by rw [hlen]; exact h.pos, by rw [hlen]; exact h.cap⟩
/-- A node is appended, and the slice stored. -/
theorem DcAt.app (h : DcAt w E g c base l q ps) {y : Nd} {A' : Option Addr} {c' kb : Nat} (hl : l.length < 1000) (hy : EdOk y) (hk : y.kids = []) (ho : OwnF tDA w base 84 (.slice A' y.attrs.length c') y.attrs.length y.attrs) (hfr : ∀ (i : Nat) q b, ps[i]? = some q → q.1.ownBlock = some b → (Value.slice A' y.attrs.length c').ownBlock ≠ some b)
    (hcell : ∀ (j : Nat) u, (ndRow y (.slice A' y.attrs.length c', .slice none 0 0))[j]? = some u → w.cell? ⟨kb, 0 + j, none⟩ = some u) :
    ∃ g' c2 w5, (Builtin.append_ #[22, 22] 22 #[.slice (some ⟨g, 0, none⟩) l.length c, .slice (some ⟨kb, 0, none⟩) 1 1]).run Tryd.prog w = .ok (.slice (some ⟨g', 0, none⟩) (l.length + 1) c2) w5 ∧ w.grownBy w5 (some g) ∧ Below base w w5 ∧ w5.heap[E]? = w.heap[E]? ∧
      DcAt (w5.setCell ⟨E, 0, none⟩ (.slice (some ⟨g', 0, none⟩) (l.length + 1) c2)) E g' c2 base (l ++ [y]) q (ps ++ [(.slice A' y.attrs.length c', .slice none 0 0)]) := by
  have hP : Parts w base y (.slice A' y.attrs.length c', .slice none 0 0) := ⟨ho, by rw [hk]; exact OwnF.nil _ _ _, hy⟩
  have hrow := h.ed.row
  have hrep : tN6.rep w (fun _ => False) (ndRow y (.slice A' y.attrs.length c', .slice none 0 0)) (ndRow y (.slice A' y.attrs.length c', .slice none 0 0)) := ⟨rfl, ndRow_ok ⟨_, _, _, rfl⟩ ⟨_, _, _, rfl⟩⟩
  obtain ⟨v', w5, hrun, hown, hg, hb, hv⟩ := run_ap1 (P := Tryd.prog) (t := 22) (ty := 22) (c := 1) w elemN6 hrow (fun _ h => h.elim) hrep hcell (by omega) (by omega) (Nat.le_trans h.le (Nat.le_of_lt h.lt))
  obtain ⟨A5, c5, rfl⟩ := Own.form hown
  obtain ⟨g', cells, rfl, hg', hgl, _, _, _⟩ := Own.block hown (by omega)
  have hcap : l.length + 1 ≤ c5 := by
    obtain ⟨_, h1, _⟩ := hown
    rcases h1.2 with ⟨hv, _⟩ | ⟨g', cap, cur, hv, _, _, hnc, _⟩
    · cases hv
    · injection hv with _ _ hv
      omega
  have hE5 : w5.heap[E]? = w.heap[E]? := hg.block E h.lt (fun e => h.apart (by simpa [Value.ownBlock] using e))
  have hbox5 := hE5.trans h.box
  have hed5 : Ed w5 base (.slice (some ⟨g', 0, none⟩) (l.length + 1) c5) (l ++ [y]) (ps ++ [(.slice A' y.attrs.length c', .slice none 0 0)]) := h.ed.app hP (fun i a ha => by
    refine ⟨⟨?_, ?_⟩, ?_, Or.inl rfl⟩
    · cases hb : a.1.ownBlock with
      | none => exact Or.inl rfl
      | some b => exact Or.inr fun e => hfr i a b ha hb e.symm
    · cases hb : a.2.ownBlock with
      | none => exact Or.inl rfl
      | some b => exact Or.inr fun e => by cases e
    · cases hb : a.1.ownBlock with
      | none =>
        cases A' with
        | none => exact Or.inl rfl
        | some z => exact Or.inr fun e => by cases e
      | some b => exact Or.inr fun e => hfr i a b ha hb e) hl hg hown
  refine ⟨g', c5, w5, hrun, hg, hb, hE5, ?_⟩
  have hll : (l ++ [y]).length = l.length + 1 := by simp
  exact ⟨by rw [set_blk hbox5, hll]; rfl, by rw [hll]; exact hed5.other hbox5 (by decide) (by decide) (by decide) (grown_set w5 E 0 _), h.le, by rw [hll]; omega, by rw [hll]; exact hcap⟩
end

/-! ### the map -/
noncomputable abbrev mpE : Value → Option (DataW Unit × List MemPlace) := plainElem Tryd.prog 3
theorem lawI : Keyed Tryd.prog 3 := int_keyed Tryd.underlying3
theorem zeroI (w : World) : (zeroValue 3).run Tryd.prog w = .ok (.int .i64 0) w := by kernel_rfl
theorem own_no_map {α : Type} {T : Ty α} {w : World} {base : Nat} {e : TypeId} {D : Nat → Prop} {v : Value} {n k im : Nat} {xs : List α} {X : DataW Unit} (h : Own T w base e D v n xs) (hk : w.ownsMap Tryd.prog 3 mpE k im X) : v.ownBlock ≠ some k := fun e2 => by
  obtain ⟨c1, k1⟩ := own_block_at h e2
  obtain ⟨es, clock, hb, _⟩ := hk
  rw [k1] at hb
  cases hb
theorem map_no_cells {w : World} {k j im : Nat} {X : DataW Unit} {cs : Array Value} {e : TypeId} {fr : Nat × Nat} (hk : w.ownsMap Tryd.prog 3 mpE k im X) (hj : w.heap[j]? = some (.cells cs e fr)) : k ≠ j := fun e2 => by
  obtain ⟨es, clock, hb, _⟩ := hk
  rw [e2, hj] at hb
  cases hb
theorem map_next {w w' : World} {k im : Nat} {X : DataW Unit} (h : w.ownsMap Tryd.prog 3 mpE k im X) (hb : Below w.heap.size w w') : w'.ownsMap Tryd.prog 3 mpE k im X := by
  have hlt := h.lt
  obtain ⟨es, clock, h1, F, hs, hD⟩ := h
  exact ⟨es, clock, (hb.block k hlt).trans h1, F, hs, hD⟩
theorem Ed.mapped {w w1 : World} {base k im : Nat} {A : Value} {l : List Nd} {ps : List (Value × Value)} {X : DataW Unit} (h : Ed w base A l ps) (hk : w.ownsMap Tryd.prog 3 mpE k im X) (hg : w.grownBy w1 (some k)) : Ed w1 base A l ps :=
  ⟨h.len, h.few, ownF_kept h.row hg (Or.inr (own_no_map h.row hk)), fun i x p hx hp =>
    have hP := h.parts i x p hx hp
    ⟨ownF_kept hP.attrs hg (Or.inr (own_no_map hP.attrs hk)), ownF_kept hP.kids hg (Or.inr (own_no_map hP.kids hk)), hP.ok⟩, h.apart⟩

/-! ### what the loop keeps -/
structure Cs (w0 w : World) (l : List Nd) (n : Nat) (q : Bool) (dc : Array Value) (E M : Nat) (v8 : Value) (im g c : Nat) (ps : List (Value × Value)) (X : DataW Unit) (out : List Nd) : Prop where
  at_ : DcAt w E g c w0.heap.size out q ps
  low : Below w0.heap.size w0 w
  doc : w.heap[w0.heap.size]? = some (.cells dc 24 (0, 0))
  res : w.heap[w0.heap.size + 1]? = some (.cells #[.slice none 0 0, .bool false] 24 (0, 0))
  far : w0.heap.size + 2 ≤ E
  map : w.ownsMap Tryd.prog 3 mpE M im X
  mlow : w0.heap.size ≤ M
  num : ∀ (j : Nat) k, j < im → (preR l n)[j]? = some k → X.atKey (.int .i64 k) (.lit (.int .i64 0)) = .lit (.int .i64 ((l.length + j : Nat) : Int))
  ord : OwnF (tInt .i64) w w0.heap.size 3 v8 (preR l n).length (preR l n)
  ordne : ∀ (j : Nat) p, ps[j]? = some p → v8.ownBlock ≠ p.2.ownBlock
section
variable {w0 w w1 w' : World} {l out : List Nd} {n : Nat} {q : Bool} {dc : Array Value} {E M im g c : Nat} {v8 : Value} {ps : List (Value × Value)} {X : DataW Unit}
theorem Cs.next (h : Cs w0 w l n q dc E M v8 im g c ps X out) (hb : Below w.heap.size w w') : Cs w0 w' l n q dc E M v8 im g c ps X out :=
  ⟨h.at_.next hb, h.low.trans (hb.mono h.low.size), (hb.block _ (Array.getElem?_eq_some_iff.1 h.doc).1).trans h.doc, (hb.block _ (Array.getElem?_eq_some_iff.1 h.res).1).trans h.res, h.far, map_next h.map hb, h.mlow, h.num, h.ord.below hb (Nat.le_refl _), h.ordne⟩
/-- An entry more. -/
theorem Cs.put {k : Int} (h : Cs w0 w l n q dc E M v8 im g c ps X out) (hn : (preR l n).Nodup) (hk : (preR l n)[im]? = some k) (ho : w'.ownsMap Tryd.prog 3 mpE M (im + 1) (X.put (.int .i64 k) (.lit (.int .i64 ((l.length + im : Nat) : Int))))) (hg : w.grownBy w' (some M)) :
    Cs w0 w' l n q dc E M v8 (im + 1) g c ps (X.put (.int .i64 k) (.lit (.int .i64 ((l.length + im : Nat) : Int)))) out := by
  have hblk : ∀ {j : Nat} {cs : Array Value} {e : TypeId} {fr : Nat × Nat}, w.heap[j]? = some (.cells cs e fr) → w'.heap[j]? = some (.cells cs e fr) := fun {j cs e fr} hj =>
    (hg.block j (Array.getElem?_eq_some_iff.1 hj).1 (fun e2 => map_no_cells h.map hj (Option.some.inj e2).symm)).trans hj
  refine ⟨⟨hblk h.at_.box, h.at_.ed.mapped h.map hg, h.at_.le, h.at_.pos, h.at_.cap⟩, h.low.grown hg h.low.size (fun k hk => by cases hk; exact h.mlow), hblk h.doc, hblk h.res, h.far, ho, h.mlow, fun j k' hj hk' => ?_, ownF_kept h.ord hg (Or.inr (own_no_map h.ord h.map)), h.ordne⟩
  by_cases e : j = im
  · subst e
    rw [hk] at hk'
    obtain rfl := Option.some.inj hk'
    exact Go.Maps.atKey_put_same h.map.isMap (by simp [WideAt.IsKeyLit]) _ _
  · rw [Go.Maps.atKey_put_other (by
      intro e2
      injection e2 with _ e2
      subst e2
      obtain ⟨h1, h2⟩ := List.getElem?_eq_some_iff.1 hk
      obtain ⟨h3, h4⟩ := List.getElem?_eq_some_iff.1 hk'
      exact e ((List.getElem_inj hn).1 (h4.trans h2.symm)))]
    exact h.num j k' (by omega) hk'
/-- The kids of a node of it. -/
theorem Cs.kids (h : Cs w0 w l n q dc E M v8 im g c ps X out) {m : Nat} {x : Nd} {p : Value × Value} {v : Value} {ks : List Int} (hx : out[m]? = some x) (hp : ps[m]? = some p) (hg : w.grownBy w1 p.2.ownBlock) (hv : OwnF (tInt .i64) w1 w0.heap.size 3 v ks.length ks)
    (hb : v.ownBlock = p.2.ownBlock ∨ ∃ k, v.ownBlock = some k ∧ w.heap.size ≤ k) (hk : ks.length ≤ 1000) : Cs w0 (w1.setCell ⟨g, m * 6 + 5, none⟩ v) l n q dc E M v8 im g c (ps.set m (p.1, v)) X (out.set m { x with kids := ks }) := by
  have hP := h.at_.ed.parts m x p hx hp
  have hset := grown_set w1 g (m * 6 + 5) v
  have hblk : ∀ {j : Nat} {cs : Array Value} {fr : Nat × Nat}, w.heap[j]? = some (.cells cs 24 fr) → (w1.setCell ⟨g, m * 6 + 5, none⟩ v).heap[j]? = some (.cells cs 24 fr) := fun {j cs fr} hj =>
    (Below.heap_setCell _ _ _ _ (fun e2 => own_ne_block (by decide) h.at_.ed.row hj (by show some g = _; rw [e2]))).trans ((hg.block j (Array.getElem?_eq_some_iff.1 hj).1 (fun e2 => own_ne_block (by decide) hP.kids hj e2.symm)).trans hj)
  have hrow1 : OwnF tN6 w1 w0.heap.size 38 (.slice (some ⟨g, 0, none⟩) out.length c) out.length (List.zipWith ndRow out ps) := ownF_kept h.at_.ed.row hg (own_ne (by decide) h.at_.ed.row hP.kids)
  have hord1 := ownF_kept h.ord hg (Or.inr (h.ordne m p hp))
  have hmap1 := h.map.kept hg (fun e => own_no_map hP.kids h.map e.symm)
  refine ⟨h.at_.kids hx hp hg hv hb hk, (h.low.grown hg h.low.size (fun k hk => (Own.lt hP.kids k hk).1)).setCell (p := ⟨g, m * 6 + 5, none⟩) h.at_.gs.1 v, hblk h.doc, hblk h.res, h.far, hmap1.setCell (a := ⟨g, m * 6 + 5, none⟩) (fun e => own_no_map hrow1 hmap1 (by show some g = _; rw [e])) v, h.mlow, h.num, ownF_kept hord1 hset (own_ne (by decide) hord1 hrow1), fun j a ha => ?_⟩
  by_cases e : m = j
  · subst e
    rw [List.getElem?_set_self (List.getElem?_eq_some_iff.1 hp).1] at ha
    obtain rfl := Option.some.inj ha
    rcases hb with e | ⟨k, e, hkl⟩
    · intro e2
      exact h.ordne m p hp (e2.trans e)
    · intro e2
      have := (Own.lt h.ord _ (e2.trans e)).2
      omega
  · rw [List.getElem?_set_ne e] at ha
    exact h.ordne j a ha
/-- A node more. -/
theorem Cs.app (h : Cs w0 w l n q dc E M v8 im g c ps X out) (h8 : v8.ownBlock ≠ none) {y : Nd} {A' : Option Addr} {c' kb : Nat} (hl : out.length < 1000) (hy : EdOk y) (hk : y.kids = []) (ho : OwnF tDA w w0.heap.size 84 (.slice A' y.attrs.length c') y.attrs.length y.attrs) (hfr : ∀ (i : Nat) q b, ps[i]? = some q → q.1.ownBlock = some b → (Value.slice A' y.attrs.length c').ownBlock ≠ some b)
    (hcell : ∀ (j : Nat) u, (ndRow y (.slice A' y.attrs.length c', .slice none 0 0))[j]? = some u → w.cell? ⟨kb, 0 + j, none⟩ = some u) :
    ∃ g' c2 w5, (Builtin.append_ #[22, 22] 22 #[.slice (some ⟨g, 0, none⟩) out.length c, .slice (some ⟨kb, 0, none⟩) 1 1]).run Tryd.prog w = .ok (.slice (some ⟨g', 0, none⟩) (out.length + 1) c2) w5 ∧ w5.frozen? ⟨E, 0, none⟩ = false ∧ w5.cell? ⟨E, 0, none⟩ = some (.slice (some ⟨g, 0, none⟩) out.length c) ∧
      Cs w0 (w5.setCell ⟨E, 0, none⟩ (.slice (some ⟨g', 0, none⟩) (out.length + 1) c2)) l n q dc E M v8 im g' c2 (ps ++ [(.slice A' y.attrs.length c', .slice none 0 0)]) X (out ++ [y]) := by
  obtain ⟨g', c2, w5, hrun, hg, hb, hE5, hd⟩ := h.at_.app hl hy hk ho hfr hcell
  have hset := grown_set w5 E 0 (.slice (some ⟨g', 0, none⟩) (out.length + 1) c2)
  have hbx5 := hE5.trans h.at_.box
  have hblk : ∀ {j : Nat} {cs : Array Value} {fr : Nat × Nat}, j ≠ E → w.heap[j]? = some (.cells cs 24 fr) → (w5.setCell ⟨E, 0, none⟩ (.slice (some ⟨g', 0, none⟩) (out.length + 1) c2)).heap[j]? = some (.cells cs 24 fr) := fun {j cs fr} hne hj =>
    (Below.heap_setCell _ _ _ _ hne).trans ((hg.block j (Array.getElem?_eq_some_iff.1 hj).1 (fun e2 => own_ne_block (by decide) h.at_.ed.row hj (by show some g = _; rw [← e2]))).trans hj)
  have hfar := h.far
  have hord1 := ownF_kept h.ord hg (own_ne (by decide) h.ord h.at_.ed.row)
  have hmap1 := h.map.kept hg (fun e => own_no_map h.at_.ed.row h.map e.symm)
  refine ⟨g', c2, w5, hrun, free_blk hbx5, cell_blk hbx5 rfl, hd, (h.low.trans hb).setCell (p := ⟨E, 0, none⟩) h.at_.le _, hblk (by omega) h.doc, hblk (by omega) h.res, h.far, hmap1.setCell (a := ⟨E, 0, none⟩) (map_no_cells hmap1 hbx5) _, h.mlow, h.num, ownF_kept hord1 hset (Or.inr (own_ne_block (by decide) hord1 hbx5)), fun j a ha => ?_⟩
  by_cases hj : j < ps.length
  · rw [List.getElem?_append_left hj] at ha
    exact h.ordne j a ha
  · have hjl := (List.getElem?_eq_some_iff.1 ha).1
    rw [List.length_append, List.length_singleton] at hjl
    obtain rfl : j = ps.length := by omega
    rw [app_last] at ha
    obtain rfl := Option.some.inj ha
    exact h8
/-- .. from a box of its own. -/
theorem Cs.more (h : Cs w0 w l n q dc E M v8 im g c ps X out) (h8 : v8.ownBlock ≠ none) {y : Nd} {A' : Option Addr} {c' : Nat} (hl : out.length < 1000) (hy : EdOk y) (hk : y.kids = []) (ho : OwnF tDA w w0.heap.size 84 (.slice A' y.attrs.length c') y.attrs.length y.attrs) (hfr : ∀ (i : Nat) q b, ps[i]? = some q → q.1.ownBlock = some b → (Value.slice A' y.attrs.length c').ownBlock ≠ some b) :
    ∃ g' c2 w5, (Builtin.append_ #[22, 22] 22 #[.slice (some ⟨g, 0, none⟩) out.length c, .slice (some ⟨w.heap.size, 0, none⟩) 1 1]).run Tryd.prog (w.alloc (.cells #[.int .i64 y.kind, .string y.name, .slice A' y.attrs.length c', .string y.text, .int .i64 y.parent, .slice none 0 0] 38)) = .ok (.slice (some ⟨g', 0, none⟩) (out.length + 1) c2) w5 ∧ w5.frozen? ⟨E, 0, none⟩ = false ∧ w5.cell? ⟨E, 0, none⟩ = some (.slice (some ⟨g, 0, none⟩) out.length c) ∧
      Cs w0 (w5.setCell ⟨E, 0, none⟩ (.slice (some ⟨g', 0, none⟩) (out.length + 1) c2)) l n q dc E M v8 im g' c2 (ps ++ [(.slice A' y.attrs.length c', .slice none 0 0)]) X (out ++ [y]) := by
  have hb : Below w.heap.size w (w.alloc (.cells #[.int .i64 y.kind, .string y.name, .slice A' y.attrs.length c', .string y.text, .int .i64 y.parent, .slice none 0 0] 38)) := (Below.refl _ _).alloc (Nat.le_refl _) _
  exact (h.next hb).app h8 hl hy hk (ho.below hb (Nat.le_refl _)) hfr (cell_new w (ndRow y (.slice A' y.attrs.length c', .slice none 0 0)) _)
theorem Cs.cell8 {b8 c8 : Nat} (h : Cs w0 w l n q dc E M (.slice (some ⟨b8, 0, none⟩) (preR l n).length c8) im g c ps X out) {i : Nat} {k : Int} (hk : (preR l n)[i]? = some k) : w.cell? ⟨b8, i, none⟩ = some (.int .i64 k) ∧ (Lit.int .i64 k).wf = true := by
  obtain ⟨g', cells, e, _, _, hr, hc, _⟩ := Own.block h.ord (by have := (List.getElem?_eq_some_iff.1 hk).1; omega)
  simp only [Option.some.injEq, Addr.mk.injEq, and_true] at e
  subst e
  obtain ⟨cs, ⟨rfl, hw⟩, hj⟩ := hr.at_ hk
  have h0 := hc _ _ (hj 0 _ rfl)
  have e2 : i * (tInt .i64).size + 0 = i := Nat.mul_one i
  rw [e2] at h0
  exact ⟨h0, hw⟩
/-- A number more among a node's kids. -/
theorem Cs.grow (h : Cs w0 w l n q dc E M v8 im g c ps X out) {m : Nat} {y : Nd} (hy : out[m]? = some y) {z : Int} (hz : (Lit.int .i64 z).wf = true) (hfew : y.kids.length < 1000) :
    ∃ p1 A5 c5 A' c' w', ps[m]? = some (p1, .slice A5 y.kids.length c5) ∧ w.cell? ⟨g, m * 6 + 5, none⟩ = some (.slice A5 y.kids.length c5) ∧
      (Builtin.append_ #[32, 32] 32 #[.slice A5 y.kids.length c5, .slice (some ⟨w.heap.size, 0, none⟩) 1 1]).run Tryd.prog (w.drew.alloc (.cells #[.int .i64 z] 3)) = .ok (.slice A' (y.kids.length + 1) c') w' ∧
      w'.frozen? ⟨g, m * 6 + 5, none⟩ = false ∧ w'.cell? ⟨g, m * 6 + 5, none⟩ = some (.slice A5 y.kids.length c5) ∧ w'.cell? ⟨E, 0, none⟩ = some (.slice (some ⟨g, 0, none⟩) out.length c) ∧
      Cs w0 (w'.setCell ⟨g, m * 6 + 5, none⟩ (.slice A' (y.kids.length + 1) c')) l n q dc E M v8 im g c (ps.set m (p1, .slice A' (y.kids.length + 1) c')) X (out.set m { y with kids := y.kids ++ [z] }) ∧
      (∀ (K : Nat) (cs : Array Value), K ≠ g → w.heap[K]? = some (.cells cs 38 (0, 0)) → (w'.setCell ⟨g, m * 6 + 5, none⟩ (.slice A' (y.kids.length + 1) c')).heap[K]? = some (.cells cs 38 (0, 0))) ∧
      (∀ (v : Value) (k : Nat) (xs : List DAttr), OwnF tDA w w0.heap.size 84 v k xs → OwnF tDA (w'.setCell ⟨g, m * 6 + 5, none⟩ (.slice A' (y.kids.length + 1) c')) w0.heap.size 84 v k xs) := by
  obtain ⟨p, hp, hN⟩ := h.at_.node hy
  obtain ⟨p1, p2⟩ := p
  obtain ⟨A5, c5, e5⟩ := Own.form hN.parts.kids
  have e5' : p2 = .slice A5 y.kids.length c5 := e5
  subst e5'
  have hkd : OwnF (tInt .i64) w w0.heap.size 3 (.slice A5 y.kids.length c5) y.kids.length y.kids := hN.parts.kids
  have hg1 : w.grownBy (w.drew.alloc (.cells #[.int .i64 z] 3)) (Value.slice A5 y.kids.length c5).ownBlock := grownBy.trans' (grown_drew w _) (grown_al _ _ _)
  have hkd1 : OwnF (tInt .i64) (w.drew.alloc (.cells #[.int .i64 z] 3)) w0.heap.size 3 (.slice A5 y.kids.length c5) y.kids.length y.kids := OwnF.below hkd (((Below.refl w.heap.size w).drew).alloc (Nat.le_refl _) _) (Nat.le_refl _)
  obtain ⟨v', w', hrun, hown, hg, hb, hv⟩ := run_ap1 (P := Tryd.prog) (t := 32) (ty := 32) (c := 1) (T := tInt .i64) (y := z) (cs := [.int .i64 z]) _ elemI hkd1 (fun _ h => h.elim) ⟨rfl, hz⟩ (cell_new w.drew [.int .i64 z] 3) (by omega) (by omega) (Nat.le_trans h.low.size (by simp))
  obtain ⟨A', c', rfl⟩ := Own.form hown
  have hgw := grownBy.trans' hg1 hg
  have hgs := h.at_.gs
  have hgo : (Value.slice A5 y.kids.length c5).ownBlock ≠ some g := fun e => by
    obtain ⟨cur, hcur⟩ := own_block_at h.at_.ed.row (rfl : (Value.slice (some ⟨g, 0, none⟩) out.length c).ownBlock = some g)
    exact own_ne_block (by decide) hkd hcur e
  have hbg := hgw.block g hgs.2 (fun e => hgo e.symm)
  have hbE := hgw.block E h.at_.lt (fun e => own_ne_block (by decide) hkd h.at_.box e.symm)
  have hlen : (y.kids ++ [z]).length = y.kids.length + 1 := by simp
  have hset := grown_set w' g (m * 6 + 5) (.slice A' (y.kids.length + 1) c')
  have hrow1 : OwnF tN6 w' w0.heap.size 38 (.slice (some ⟨g, 0, none⟩) out.length c) out.length (List.zipWith ndRow out ps) := ownF_kept h.at_.ed.row hgw (own_ne (by decide) h.at_.ed.row hkd)
  refine ⟨p1, A5, c5, A', c', w', hp, hN.c5, hrun, ?_, cell_same hbg hN.c5, cell_same hbE h.at_.c0, ?_, fun K cs hK hbx => ?_, fun v k xs hvx => ?_⟩
  · have := hN.free (m * 6 + 5)
    unfold World.frozen? at this ⊢
    rw [hbg]
    exact this
  · exact h.kids hy hp hgw (by rw [hlen]; exact hown) (hv.imp id fun e => ⟨_, e, by simp⟩) (by rw [hlen]; omega)
  · exact (Below.heap_setCell _ _ _ _ hK).trans ((hgw.block K (Array.getElem?_eq_some_iff.1 hbx).1 (fun e => own_ne_block (by decide) hkd hbx e.symm)).trans hbx)
  · have h1 := ownF_kept hvx hgw (own_ne (by decide) hvx hkd)
    exact ownF_kept h1 hset (own_ne (by decide) h1 hrow1)
end
/-- One member of a slice, as a slice. -/
theorem sl_one {w : World} {D : Nat → Prop} {b o n c k : Nat} {l : List Nd} {x : Nd} (h : Sl tNd w D (some ⟨b, o, none⟩) n c l) (hx : l[k]? = some x) : Sl tNd w D (some ⟨b, o + k * 6, none⟩) 1 (c - k) [x] := by
  have hkl := (List.getElem?_eq_some_iff.1 hx).1
  have hn := h.hn
  have hc := h.hc
  have hm := h.hm
  refine ⟨rfl, by omega, by show 1 * 96 ≤ _; omega, by omega, (fun e => by cases e), fun _ => ?_⟩
  obtain ⟨b', o', cells, e, hD, hr, hcell⟩ := h.at_ (by omega)
  simp only [Option.some.injEq, Addr.mk.injEq, and_true] at e
  obtain ⟨rfl, rfl⟩ := e
  obtain ⟨cs, hrep, hj⟩ := hr.at_ hx
  refine ⟨b, o + k * 6, cs, rfl, hD, ⟨cs, [], by simp, hrep, rfl⟩, fun j u hu => ?_⟩
  rw [Nat.add_assoc]
  exact hcell _ _ (hj j u hu)
def cpErr (l : List Nd) (z : Int) : Int := if checkD l ≠ 0 then checkD l else if z < 0 ∨ (l.length : Int) ≤ z then 1 else if z = 0 then 7 else 0
/-- What Copy leaves behind. -/
def CpPost (w : World) (l : List Nd) (q : Bool) (z : Int) (e' : Ending) (w' : World) : Prop :=
  Below w.heap.size w w' ∧ ((cpErr l z ≠ 0 ∧ e' = .returned (.tuple #[.agg #[.slice none 0 0, .bool false], .int .i64 0, .int .i64 (cpErr l z)])) ∨
    (cpErr l z = 0 ∧ ∃ A' c', e' = .returned (.tuple #[.agg #[.slice A' (cpEnd l z.toNat).length c', .bool q], .int .i64 l.length, .int .i64 0]) ∧ Sl tNd w' (rg w.heap.size w'.heap.size) A' (cpEnd l z.toNat).length c' (cpEnd l z.toNat)))

end Go.Proofs.YtcnogokemilhnaaDoor
