/-
The walks of package record's undoer: its box, its document, node.
-/
import Derived.Test.YtfeighclpaijoaaGreatDoorRecDo
import Derived.Test.YtfeighclpaijoaaGreatDoorInsertA
import Derived.Test.YtfeighclpaijoaaGreatDoorRegionW
import Derived.Deep.RegionHeld3
import Derived.Deep.QuietTactic
import Derived.BigQuiet
namespace Go.Proofs.YtfeighclpaijoaaGreatDoor
open Go.RowKit Go.Cl
attribute [local go_sem ↓] Go.wp_at_zero Go.wp_at_succ

/-- An undoer: its box, its document. -/
structure UnAt (w : World) (E g c base : Nat) (l : List Nd) (q : Bool) (ps : List (Value × Value)) : Prop where
  box : w.heap[E]? = some (.cells #[.slice (some ⟨g, 0, none⟩) l.length c, .bool q] 53 (0, 0))
  ed : Ed w base (.slice (some ⟨g, 0, none⟩) l.length c) l ps
  le : base ≤ E
  pos : 0 < l.length
  cap : l.length ≤ c
section
variable {w w' : World} {E g c base : Nat} {l : List Nd} {q : Bool} {ps : List (Value × Value)}
theorem UnAt.next (h : UnAt w E g c base l q ps) (hb : Below w.heap.size w w') : UnAt w' E g c base l q ps :=
  ⟨(hb.block _ (Array.getElem?_eq_some_iff.1 h.box).1).trans h.box, h.ed.next hb, h.le, h.pos, h.cap⟩
theorem UnAt.c0 (h : UnAt w E g c base l q ps) : w.cell? ⟨E, 0, none⟩ = some (.slice (some ⟨g, 0, none⟩) l.length c) := cell_blk h.box rfl
theorem UnAt.c1 (h : UnAt w E g c base l q ps) : w.cell? ⟨E, 1, none⟩ = some (.bool q) := cell_blk h.box rfl
theorem UnAt.lt (h : UnAt w E g c base l q ps) : E < w.heap.size := (Array.getElem?_eq_some_iff.1 h.box).1
theorem UnAt.node (h : UnAt w E g c base l q ps) {m : Nat} {x : Nd} (hx : l[m]? = some x) : ∃ p, ps[m]? = some p ∧ NdIn w g base m x p := by
  obtain ⟨p, hp, hP⟩ := h.ed.part_at hx
  obtain ⟨g', c', e, hb, hg, _, hf, hc⟩ := h.ed.where_ h.pos
  simp only [Value.slice.injEq, Option.some.injEq, Addr.mk.injEq, and_true, true_and] at e
  obtain ⟨rfl, rfl⟩ := e
  have h' := hc m x p hx hp
  exact ⟨p, hp, h' 0 _ rfl, h' 1 _ rfl, h' 2 _ rfl, h' 3 _ rfl, h' 4 _ rfl, h' 5 _ rfl, hf, hb, hg, hP⟩
end
section
variable {w w1 : World} {E g c base : Nat} {l : List Nd} {q : Bool} {ps : List (Value × Value)}
theorem UnAt.apart (h : UnAt w E g c base l q ps) : E ≠ g := fun e => own_ne_block (by decide) h.ed.row h.box (by rw [e]; rfl)
theorem UnAt.plain (h : UnAt w E g c base l q ps) {i j : Nat} {x y : Nd} {p : Value × Value} {u : Value} (hx : l[i]? = some x) (hp : ps[i]? = some p) (hj : j < 6) (hr : ndRow y p = (ndRow x p).set j u) (h1 : y.attrs = x.attrs) (h2 : y.kids = x.kids) (hok : EdOk y) :
    UnAt (w.setCell ⟨g, i * 6 + j, none⟩ u) E g c base (l.set i y) q ps := by
  have hlen : (l.set i y).length = l.length := by rw [List.length_set]
  exact ⟨by rw [hlen]; exact (Below.heap_setCell _ _ _ _ h.apart).trans h.box, by rw [hlen]; exact h.ed.plain hx hp hj hr h1 h2 hok, h.le, by rw [hlen]; exact h.pos, by rw [hlen]; exact h.cap⟩
theorem UnAt.attrs (h : UnAt w E g c base l q ps) {i : Nat} {x : Nd} {p : Value × Value} {v : Value} {ats : List DAttr} (hx : l[i]? = some x) (hp : ps[i]? = some p) (hg : w.grownBy w1 p.1.ownBlock) (hv : OwnF tDA w1 base 66 v ats.length ats)
    (hb : v.ownBlock = p.1.ownBlock ∨ v.ownBlock = some w.heap.size) (hk : ats.length ≤ 12) : UnAt (w1.setCell ⟨g, i * 6 + 2, none⟩ v) E g c base (l.set i { x with attrs := ats }) q (ps.set i (v, p.2)) := by
  have hlen : (l.set i { x with attrs := ats }).length = l.length := by rw [List.length_set]
  have hE1 : w1.heap[E]? = some (.cells #[.slice (some ⟨g, 0, none⟩) l.length c, .bool q] 53 (0, 0)) := (hg.block _ h.lt (fun e => own_ne_block (by decide) (h.ed.parts i x p hx hp).attrs h.box e.symm)).trans h.box
  exact ⟨by rw [hlen]; exact (Below.heap_setCell _ _ _ _ h.apart).trans hE1, by rw [hlen]; exact h.ed.attrs hx hp hg hv (hb.imp id fun e => ⟨_, e, Nat.le_refl _⟩) hk, h.le, by rw [hlen]; exact h.pos, by rw [hlen]; exact h.cap⟩
theorem UnAt.attrs0 (h : UnAt w E g c base l q ps) {i : Nat} {x : Nd} {p : Value × Value} {ats : List DAttr} (hx : l[i]? = some x) (hp : ps[i]? = some p) (hg : w.grownBy w1 p.1.ownBlock) (hv : OwnF tDA w1 base 66 p.1 ats.length ats) (hk : ats.length ≤ 12) :
    UnAt w1 E g c base (l.set i { x with attrs := ats }) q ps := by
  have hlen : (l.set i { x with attrs := ats }).length = l.length := by rw [List.length_set]
  have hE1 : w1.heap[E]? = some (.cells #[.slice (some ⟨g, 0, none⟩) l.length c, .bool q] 53 (0, 0)) := (hg.block _ h.lt (fun e => own_ne_block (by decide) (h.ed.parts i x p hx hp).attrs h.box e.symm)).trans h.box
  exact ⟨by rw [hlen]; exact hE1, by rw [hlen]; exact h.ed.attrs0 hx hp hg hv hk, h.le, by rw [hlen]; exact h.pos, by rw [hlen]; exact h.cap⟩
theorem UnAt.kids (h : UnAt w E g c base l q ps) {i : Nat} {x : Nd} {p : Value × Value} {v : Value} {ks : List Int} (hx : l[i]? = some x) (hp : ps[i]? = some p) (hg : w.grownBy w1 p.2.ownBlock) (hv : OwnF (tInt .i64) w1 base 3 v ks.length ks)
    (hb : v.ownBlock = p.2.ownBlock ∨ ∃ k, v.ownBlock = some k ∧ w.heap.size ≤ k) (hk : ks.length ≤ 1000) : UnAt (w1.setCell ⟨g, i * 6 + 5, none⟩ v) E g c base (l.set i { x with kids := ks }) q (ps.set i (p.1, v)) := by
  have hlen : (l.set i { x with kids := ks }).length = l.length := by rw [List.length_set]
  have hE1 : w1.heap[E]? = some (.cells #[.slice (some ⟨g, 0, none⟩) l.length c, .bool q] 53 (0, 0)) := (hg.block _ h.lt (fun e => own_ne_block (by decide) (h.ed.parts i x p hx hp).kids h.box e.symm)).trans h.box
  exact ⟨by rw [hlen]; exact (Below.heap_setCell _ _ _ _ h.apart).trans hE1, by rw [hlen]; exact h.ed.kids hx hp hg hv hb hk, h.le, by rw [hlen]; exact h.pos, by rw [hlen]; exact h.cap⟩
theorem UnAt.drew (h : UnAt w E g c base l q ps) : UnAt w.drew E g c base l q ps := h.next ((Below.refl _ _).drew)
end
theorem unNode_any (w : World) (E g c base : Nat) (l : List Nd) (q : Bool) (ps : List (Value × Value)) (n : Int) (h : UnAt w E g c base l q ps) :
    Calls Tryz.prog 48 #[.pointer (some ⟨E, 0, none⟩), .int .i64 n] w fun e w' => e = .returned (ptrN g l n) ∧ w = w' := by
  have c0 := h.c0
  have hcap := h.cap
  have HPN := Lib.hid (fun n => @ptr_none g l n)
  have HPS := Lib.hid (fun m x => @ptr_some g l m x)
  have HGS := Lib.hid (fun m (h : m < l.length) => get_some h)
  have HNN := Lib.hid (fun n => @nodeAt_none l n)
  clear h
  generalize l.length = k at *
  by_cases h1 : n < 0
  · have HR := Lib.hid (HPN.out n (HNN.out n (Or.inl h1)))
    generalize ptrN g l n = v at *
    go_enter Tryz.func48, Tryz.ntmps48
    go_wp2_with fail
    go_ret
    exact ⟨by rw [HR.out]; rfl, rfl⟩
  · by_cases h2 : (k : Int) ≤ n
    · have HR := Lib.hid (HPN.out n (HNN.out n (Or.inr h2)))
      generalize ptrN g l n = v at *
      go_enter Tryz.func48, Tryz.ntmps48
      go_wp2_with fail
      go_ret
      exact ⟨by rw [HR.out]; rfl, rfl⟩
    · obtain ⟨m, rfl⟩ : ∃ m : Nat, n = (m : Int) := ⟨n.toNat, by omega⟩
      obtain ⟨x, hx⟩ := HGS.out m (by omega)
      have HR := Lib.hid (HPS.out m x hx)
      have i1 : (0 : Int) ≤ (m : Int) := by omega
      have i2 : (m : Int) < (k : Int) := by omega
      generalize ptrN g l m = v at *
      clear hx
      go_enter Tryz.func48, Tryz.ntmps48
      go_wp2_with fail
      go_ret
      exact ⟨by rw [HR.out]; rfl, rfl⟩
theorem edok_good {l : List Nd} (G : Good l) {m : Nat} {x : Nd} (hx : l[m]? = some x) : EdOk x := by
  have h1 := (nodeE_iff x).1 (G.each x (List.mem_of_getElem? hx))
  have h2 := G.kids_few hx
  have hsm := G.small
  have hp : -1 ≤ x.parent ∧ x.parent ≤ 200 := by
    rcases (tree_of (check_of G)).par (List.getElem?_eq_some_iff.1 hx).1 with e1 | ⟨p, e1, hp, _⟩
    · rw [parD_at hx] at e1; omega
    · rw [parD_at hx] at e1; omega
  exact ⟨wf_i64 (by omega) (by omega), by omega, by omega, wf_i64 (by omega) (by omega), h1.2.2.1.few, by omega⟩
/-- slices.Insert at attributes, wherever. -/
theorem insertA_any (v : Value) (n i : Nat) (xs : List DAttr) (y : DAttr) (vb : Nat) (w : World) (base : Nat) (hown : OwnF tDA w base 66 v n xs) (hi : i ≤ n) (hn : n ≤ 100000) (h1 : y.1.size ≤ 1152921504606846976) (h2 : y.2.size ≤ 1152921504606846976) (hv : w.heap[vb]? = some (.cells #[.string y.1, .string y.2] 66 (0, 0))) (hne : v.ownBlock ≠ some vb) (hbase : base ≤ w.heap.size) :
    Calls Tryz.prog 49 #[v, .int .i64 (i : Int), .slice (some ⟨vb, 0, none⟩) 1 1] w fun e w' => ∃ v', e = .returned v' ∧ OwnF tDA w' base 66 v' (n + 1) (xs.take i ++ y :: xs.drop i) ∧ w.grownBy w' v.ownBlock ∧ (v'.ownBlock = v.ownBlock ∨ v'.ownBlock = some w.heap.size) := by
  have hrep : ∀ D, tDA.rep w D y [.string y.1, .string y.2] := fun D => ⟨[_], [_], rfl, ⟨rfl, h1⟩, rfl, h2⟩
  have hln := Own.len hown (by decide)
  rcases Nat.eq_or_lt_of_le hi with rfl | hlt
  · refine (insertA_end v i xs y _ vb w base (fun _ => False) hown (fun _ h => h.elim) hn (hrep _) hv hbase).mono fun e w' h => ?_
    rw [List.take_of_length_le (by omega), List.drop_of_length_le (by omega)]
    exact h
  · obtain ⟨A, c, rfl⟩ := Own.form hown
    obtain ⟨g, _, rfl, _, _⟩ := Own.block hown (by omega)
    by_cases hroom : n + 1 ≤ c
    · refine (insertA_room g n c i xs y _ vb w base (fun _ => False) hown (fun _ h => h.elim) hlt hroom hn (hrep _) hv (fun e => hne (by rw [e]; rfl))).mono fun e w' h => ?_
      exact ⟨_, h.1, h.2.1, h.2.2, Or.inl rfl⟩
    · refine (insertA_grow g n c i xs y _ vb w base (fun _ => False) hown (fun _ h => h.elim) hlt (by omega) hn (hrep _) hv hbase).mono fun e w' h => ?_
      obtain ⟨G, h1, h2, h3⟩ := h
      exact ⟨_, h1, h2, grown_of_below h3, Or.inr rfl⟩
end Go.Proofs.YtfeighclpaijoaaGreatDoor
