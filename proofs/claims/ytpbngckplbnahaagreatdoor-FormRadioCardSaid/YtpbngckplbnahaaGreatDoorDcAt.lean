/-
A document of the call's own in its box: what keeps it, a node more, kids that turn.
-/
import Derived.Test.YtpbngckplbnahaaGreatDoorOneNode
import Derived.Test.YtpbngckplbnahaaGreatDoorEdDocs
namespace Go.Proofs.YtpbngckplbnahaaGreatDoor
open Go.RowKit Go.Cl

/-- A document of the call's own in its box. -/
structure DcAt (w : World) (E g c base : Nat) (l : List Nd) (q : Bool) (ps : List (Value × Value)) : Prop where
  box : w.heap[E]? = some (.cells #[.slice (some ⟨g, 0, none⟩) l.length c, .bool q] 29 (0, 0))
  ed : Ed w base (.slice (some ⟨g, 0, none⟩) l.length c) l ps
  le : base ≤ E
  pos : 0 < l.length
  cap : l.length ≤ c
section
variable {w w1 w' : World} {E g c base : Nat} {l : List Nd} {q : Bool} {ps : List (Value × Value)}
theorem DcAt.next (h : DcAt w E g c base l q ps) (hb : Below w.heap.size w w') : DcAt w' E g c base l q ps :=
  ⟨(hb.block _ (Array.getElem?_eq_some_iff.1 h.box).1).trans h.box, h.ed.next hb, h.le, h.pos, h.cap⟩
theorem DcAt.c0 (h : DcAt w E g c base l q ps) : w.cell? ⟨E, 0, none⟩ = some (.slice (some ⟨g, 0, none⟩) l.length c) := cell_blk h.box rfl
theorem DcAt.c1 (h : DcAt w E g c base l q ps) : w.cell? ⟨E, 1, none⟩ = some (.bool q) := cell_blk h.box rfl
theorem DcAt.lt (h : DcAt w E g c base l q ps) : E < w.heap.size := (Array.getElem?_eq_some_iff.1 h.box).1
theorem DcAt.apart (h : DcAt w E g c base l q ps) : E ≠ g := fun e => own_ne_block (by decide) h.ed.row h.box (by rw [e]; rfl)
theorem DcAt.node (h : DcAt w E g c base l q ps) {m : Nat} {x : Nd} (hx : l[m]? = some x) : ∃ p, ps[m]? = some p ∧ NdIn w g base m x p := by
  obtain ⟨p, hp, hP⟩ := h.ed.part_at hx
  obtain ⟨g', c', e, hb, hg, _, hf, hc⟩ := h.ed.where_ h.pos
  simp only [Value.slice.injEq, Option.some.injEq, Addr.mk.injEq, and_true, true_and] at e
  obtain ⟨rfl, rfl⟩ := e
  have h' := hc m x p hx hp
  exact ⟨p, hp, h' 0 _ rfl, h' 1 _ rfl, h' 2 _ rfl, h' 3 _ rfl, h' 4 _ rfl, h' 5 _ rfl, hf, hb, hg, hP⟩
theorem DcAt.gs (h : DcAt w E g c base l q ps) : base ≤ g ∧ g < w.heap.size := by
  obtain ⟨g', c', e, hb, hg, _⟩ := h.ed.where_ h.pos
  simp only [Value.slice.injEq, Option.some.injEq, Addr.mk.injEq, and_true, true_and] at e
  obtain ⟨rfl, rfl⟩ := e
  exact ⟨hb, hg⟩
theorem DcAt.kids (h : DcAt w E g c base l q ps) {i : Nat} {x : Nd} {p : Value × Value} {v : Value} {ks : List Int} (hx : l[i]? = some x) (hp : ps[i]? = some p) (hg : w.grownBy w1 p.2.ownBlock) (hv : OwnF (tInt .i64) w1 base 3 v ks.length ks)
    (hb : v.ownBlock = p.2.ownBlock ∨ ∃ k, v.ownBlock = some k ∧ w.heap.size ≤ k) (hk : ks.length ≤ 1000) : DcAt (w1.setCell ⟨g, i * 6 + 5, none⟩ v) E g c base (l.set i { x with kids := ks }) q (ps.set i (p.1, v)) := by
  have hlen : (l.set i { x with kids := ks }).length = l.length := by rw [List.length_set]
  have hE1 : w1.heap[E]? = some (.cells #[.slice (some ⟨g, 0, none⟩) l.length c, .bool q] 29 (0, 0)) := (hg.block _ h.lt (fun e => own_ne_block (by decide) (h.ed.parts i x p hx hp).kids h.box e.symm)).trans h.box
  exact ⟨by rw [hlen]; exact (Below.heap_setCell _ _ _ _ h.apart).trans hE1, by rw [hlen]; exact h.ed.kids hx hp hg hv hb hk, h.le, by rw [hlen]; exact h.pos, by rw [hlen]; exact h.cap⟩
/-- A node is appended, and the slice stored. -/
theorem DcAt.app (h : DcAt w E g c base l q ps) {y : Nd} {A' : Option Addr} {c' kb : Nat} (hl : l.length < 1000) (hy : EdOk y) (hk : y.kids = []) (ho : OwnF tDA w base 31 (.slice A' y.attrs.length c') y.attrs.length y.attrs) (hfr : ∀ (i : Nat) q b, ps[i]? = some q → q.1.ownBlock = some b → (Value.slice A' y.attrs.length c').ownBlock ≠ some b)
    (hcell : ∀ (j : Nat) u, (ndRow y (.slice A' y.attrs.length c', .slice none 0 0))[j]? = some u → w.cell? ⟨kb, 0 + j, none⟩ = some u) :
    ∃ g' c2 w5, (Builtin.append_ #[27, 27] 27 #[.slice (some ⟨g, 0, none⟩) l.length c, .slice (some ⟨kb, 0, none⟩) 1 1]).run Tryz.prog w = .ok (.slice (some ⟨g', 0, none⟩) (l.length + 1) c2) w5 ∧ w.grownBy w5 (some g) ∧ Below base w w5 ∧ w5.heap[E]? = w.heap[E]? ∧
      DcAt (w5.setCell ⟨E, 0, none⟩ (.slice (some ⟨g', 0, none⟩) (l.length + 1) c2)) E g' c2 base (l ++ [y]) q (ps ++ [(.slice A' y.attrs.length c', .slice none 0 0)]) := by
  have hP : Parts w base y (.slice A' y.attrs.length c', .slice none 0 0) := ⟨ho, by rw [hk]; exact OwnF.nil _ _ _, hy⟩
  have hrow := h.ed.row
  have hrep : tN6.rep w (fun _ => False) (ndRow y (.slice A' y.attrs.length c', .slice none 0 0)) (ndRow y (.slice A' y.attrs.length c', .slice none 0 0)) := ⟨rfl, ndRow_ok ⟨_, _, _, rfl⟩ ⟨_, _, _, rfl⟩⟩
  obtain ⟨v', w5, hrun, hown, hg, hb, hv⟩ := run_ap1 (P := Tryz.prog) (t := 27) (ty := 27) (c := 1) w elemN6 hrow (fun _ h => h.elim) hrep hcell (by omega) (by omega) (Nat.le_trans h.le (Nat.le_of_lt h.lt))
  obtain ⟨A5, c5, rfl⟩ := Own.form hown
  obtain ⟨g', cells, rfl, hg', hgl, _, _, _⟩ := Own.block hown (by omega)
  have hcap : l.length + 1 ≤ c5 := by
    obtain ⟨_, h1, _⟩ := hown
    rcases h1.2 with ⟨hv, _⟩ | ⟨g', cap, cur, hv, _, _, hnc, _⟩
    · cases hv
    · injection hv with _ _ hv
      omega
  have hE5 : w5.heap[E]? = w.heap[E]? := hg.block E h.lt (fun e => h.apart (by simpa [Value.ownBlock] using e))
  have hbox5 := hE5.trans h.box
  have hed5 : Ed w5 base (.slice (some ⟨g', 0, none⟩) (l.length + 1) c5) (l ++ [y]) (ps ++ [(.slice A' y.attrs.length c', .slice none 0 0)]) := h.ed.app hP (fun i a ha => by
    refine ⟨⟨?_, ?_⟩, ?_, Or.inl rfl⟩
    · cases hb : a.1.ownBlock with
      | none => exact Or.inl rfl
      | some b => exact Or.inr fun e => hfr i a b ha hb e.symm
    · cases hb : a.2.ownBlock with
      | none => exact Or.inl rfl
      | some b => exact Or.inr fun e => by cases e
    · cases hb : a.1.ownBlock with
      | none =>
        cases A' with
        | none => exact Or.inl rfl
        | some z => exact Or.inr fun e => by cases e
      | some b => exact Or.inr fun e => hfr i a b ha hb e) hl hg hown
  refine ⟨g', c5, w5, hrun, hg, hb, hE5, ?_⟩
  have hll : (l ++ [y]).length = l.length + 1 := by simp
  exact ⟨by rw [set_blk hbox5, hll]; rfl, by rw [hll]; exact hed5.other hbox5 (by decide) (by decide) (by decide) (grown_set w5 E 0 _), h.le, by rw [hll]; omega, by rw [hll]; exact hcap⟩
end

end Go.Proofs.YtpbngckplbnahaaGreatDoor
