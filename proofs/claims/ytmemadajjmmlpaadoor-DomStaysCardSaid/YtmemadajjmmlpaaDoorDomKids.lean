/-
The walk of package dom: kids.
-/
import Derived.Test.YtmemadajjmmlpaaDoorDomOne
import Derived.Laws.MakeOwn
import Derived.Laws.OwnMore
namespace Go.Proofs.YtmemadajjmmlpaaDoor
open Go.RowKit Go.Cl
attribute [local go_sem ↓] Go.wp_at_zero Go.wp_at_succ

theorem rep_bools (n : Nat) : ((List.replicate n false).map Value.bool).toArray = Array.replicate n (Value.bool false) := by
  apply Array.toList_inj.1
  simp
theorem make_bools (w : World) (n : Nat) (hn : n ≤ 100000) : (Instr.makeSlice 61 (.int .i64 (n : Int)) (.int .i64 (n : Int))).run Tryd.prog w = .ok (.slice (some ⟨w.heap.size, 0, none⟩) n n) (w.alloc (.cells (Array.replicate n (.bool false)) 4)) := by
  obtain ⟨i0, hi, hz0, hz1, hz2⟩ := info_parts (show (Tryd.prog.info? 4).map (fun i => (i.zero, i.size, i.bytes)) = some (some (.bool false), 1, 1) from by kernel_rfl)
  have h := run_makeSlice (P := Tryd.prog) w 61 4 i0 (.bool false) Tryd.underlying61 hi hz0 .i64 .i64 (n : Int) (n : Int) (by omega) (Int.le_refl _) (by rw [hz1]; simp; omega) (by rw [hz2]; omega) (by omega)
  rw [h, hz1]
  have e : madeCells (Value.bool false).cells (((n : Int)).toNat * 1) = ((List.replicate n false).map Value.bool).toArray := by
    apply Array.toList_inj.1
    rw [show (Value.bool false).cells = #[.bool false] from rfl, toList_madeCells_one]
    simp
  rw [e, rep_bools]
  rfl
/-- A row of bools in a block of its own. -/
abbrev BoolsAt (w : World) (g : Nat) (s : List Bool) : Prop := w.heap[g]? = some (.cells (s.map Value.bool).toArray 4 (0, 0))
theorem BoolsAt.cell {w : World} {g : Nat} {s : List Bool} (h : BoolsAt w g s) {m : Nat} {b : Bool} (hm : s[m]? = some b) : w.cell? ⟨g, m, none⟩ = some (.bool b) := cell_blk h (by simp [hm])
theorem BoolsAt.set {w : World} {g : Nat} {s : List Bool} (h : BoolsAt w g s) (m : Nat) (b : Bool) : BoolsAt (w.setCell ⟨g, m, none⟩ (.bool b)) g (s.set m b) := by
  show (w.setCell _ _).heap[g]? = _
  rw [set_blk h]
  congr 2
  apply Array.toList_inj.1
  rw [Array.toList_setIfInBounds]
  simp [List.map_set]
theorem BoolsAt.below {w w' : World} {g B : Nat} {s : List Bool} (h : BoolsAt w g s) (hb : Below B w w') (hg : g < B) : BoolsAt w' g s := (hb.block g hg).trans h

theorem kidsF_err {l : List Nd} {i : Nat} {seen seen' : List Bool} {ks : List Int} {j : Nat} {k e : Int} (h : kidsF l i seen ks = kidsF l i seen' (ks.drop j)) (hk : ks[j]? = some k) (he : kidE l i seen' k = e) (h0 : e ≠ 0) : kidsF l i seen ks = (e, seen') := by
  rw [h, List.drop_eq_getElem_cons (List.getElem?_eq_some_iff.1 hk).1, (List.getElem?_eq_some_iff.1 hk).2, kidsF, he, if_pos h0]
theorem kidsF_ok {l : List Nd} {i : Nat} {seen seen' : List Bool} {ks : List Int} {j : Nat} {k : Int} (h : kidsF l i seen ks = kidsF l i seen' (ks.drop j)) (hk : ks[j]? = some k) (he : kidE l i seen' k = 0) : kidsF l i seen ks = kidsF l i (seen'.set k.toNat true) (ks.drop (j + 1)) := by
  rw [h, List.drop_eq_getElem_cons (List.getElem?_eq_some_iff.1 hk).1, (List.getElem?_eq_some_iff.1 hk).2, kidsF, he, if_neg (by decide)]
theorem kidsF_end {l : List Nd} {i : Nat} {seen seen' : List Bool} {ks : List Int} {j : Nat} (h : kidsF l i seen ks = kidsF l i seen' (ks.drop j)) (hk : ks.length ≤ j) : kidsF l i seen ks = (0, seen') := by
  rw [h, List.drop_of_length_le hk, kidsF]
theorem allKids_err {l : List Nd} {i : Nat} {s0 seen s : List Bool} {x : Nd} {e : Int} (h : allKids l 0 s0 l = allKids l i seen (l.drop i)) (hx : l[i]? = some x) (hk : kidsF l i seen x.kids = (e, s)) (h0 : e ≠ 0) : allKids l 0 s0 l = (e, s) := by
  rw [h, List.drop_eq_getElem_cons (List.getElem?_eq_some_iff.1 hx).1, (List.getElem?_eq_some_iff.1 hx).2, allKids, hk, if_pos h0]
theorem allKids_ok {l : List Nd} {i : Nat} {s0 seen s : List Bool} {x : Nd} (h : allKids l 0 s0 l = allKids l i seen (l.drop i)) (hx : l[i]? = some x) (hk : kidsF l i seen x.kids = (0, s)) : allKids l 0 s0 l = allKids l (i + 1) s (l.drop (i + 1)) := by
  rw [h, List.drop_eq_getElem_cons (List.getElem?_eq_some_iff.1 hx).1, (List.getElem?_eq_some_iff.1 hx).2, allKids, hk, if_neg (by simp)]
theorem kidsE_err {l : List Nd} {e : Int} {s : List Bool} (h : allKids l 0 (List.replicate l.length false) l = (e, s)) (h0 : e ≠ 0) : kidsE l = e := by
  unfold kidsE
  rw [h]
  simp only [ne_eq, h0, not_false_eq_true, if_true]
theorem kidsE_rest {l : List Nd} {s : List Bool} (h : allKids l 0 (List.replicate l.length false) l = (0, s)) : kidsE l = if lostB s l = true then 3 else if (l.map Nd.parent).headD 0 ≠ -1 then 3 else 0 := by
  unfold kidsE
  rw [h]
  simp only [ne_eq, not_true_eq_false, if_false]
theorem map_at {α β : Type} {l : List α} {f : α → β} {m : Nat} {y : α} (h : l[m]? = some y) (d : β) : (l.map f)[m]?.getD d = f y := by
  rw [List.getElem?_map, h]
  rfl
theorem kidE_out {l : List Nd} {i : Nat} {seen : List Bool} {k : Int} (h : k < 0 ∨ (l.length : Int) ≤ k) : kidE l i seen k = 3 := by
  unfold kidE
  rw [if_pos h]
theorem kidE_not {l : List Nd} {i m : Nat} {seen : List Bool} {y : Nd} {b : Bool} (hy : l[m]? = some y) (hs : seen[m]? = some b) (h : y.parent ≠ (i : Int) ∨ b = true) : kidE l i seen (m : Int) = 3 := by
  have hm := (List.getElem?_eq_some_iff.1 hy).1
  unfold kidE
  rw [if_neg (by omega), Int.toNat_natCast, map_at hy, hs, Option.getD_some]
  rw [if_pos h]
theorem kidE_seven {l : List Nd} {i m : Nat} {seen : List Bool} {y : Nd} (hy : l[m]? = some y) (hs : seen[m]? = some false) (h : y.parent = (i : Int)) (h0 : i = 0 ∧ y.kind = 3) : kidE l i seen (m : Int) = 7 := by
  have hm := (List.getElem?_eq_some_iff.1 hy).1
  unfold kidE
  rw [if_neg (by omega), Int.toNat_natCast, map_at hy, map_at hy, hs, Option.getD_some]
  rw [if_neg (by simp [h]), if_pos h0]
theorem kidE_zero {l : List Nd} {i m : Nat} {seen : List Bool} {y : Nd} (hy : l[m]? = some y) (hs : seen[m]? = some false) (h : y.parent = (i : Int)) (h0 : ¬ (i = 0 ∧ y.kind = 3)) : kidE l i seen (m : Int) = 0 := by
  have hm := (List.getElem?_eq_some_iff.1 hy).1
  unfold kidE
  rw [if_neg (by omega), Int.toNat_natCast, map_at hy, map_at hy, hs, Option.getD_some]
  rw [if_neg (by simp [h]), if_neg h0]
theorem lost_hit {seen : List Bool} {l : List Nd} {i : Nat} {x : Nd} (h : lostB seen l = lostB (seen.drop i) (l.drop i)) (hs : seen[i]? = some false) (hx : l[i]? = some x) (hp : x.parent ≠ -1) : lostB seen l = true := by
  rw [h, List.drop_eq_getElem_cons (List.getElem?_eq_some_iff.1 hx).1, (List.getElem?_eq_some_iff.1 hx).2, List.drop_eq_getElem_cons (List.getElem?_eq_some_iff.1 hs).1, (List.getElem?_eq_some_iff.1 hs).2, lostB]
  have : (x.parent != -1) = true := by simpa using hp
  rw [this]
  rfl
theorem lost_go {seen : List Bool} {l : List Nd} {i : Nat} {x : Nd} {b : Bool} (h : lostB seen l = lostB (seen.drop i) (l.drop i)) (hs : seen[i]? = some b) (hx : l[i]? = some x) (hp : x.parent = -1 ∨ b = true) : lostB seen l = lostB (seen.drop (i + 1)) (l.drop (i + 1)) := by
  rw [h, List.drop_eq_getElem_cons (List.getElem?_eq_some_iff.1 hx).1, (List.getElem?_eq_some_iff.1 hx).2, List.drop_eq_getElem_cons (List.getElem?_eq_some_iff.1 hs).1, (List.getElem?_eq_some_iff.1 hs).2, lostB]
  have : (x.parent != -1 && !b) = false := by
    rcases hp with hp | hp
    · rw [hp]; rfl
    · rw [hp]; simp
  rw [this, Bool.false_or]
theorem lost_end {seen : List Bool} {l : List Nd} {i : Nat} (h : lostB seen l = lostB (seen.drop i) (l.drop i)) (hi : l.length ≤ i) : lostB seen l = false := by
  rw [h, List.drop_of_length_le hi]
  cases seen.drop i <;> rfl

/-- A document lies so: its cells, for whatever world behind. -/
structure DocAt (w : World) (B : Nat) (b o n : Nat) (l : List Nd) : Prop where
  hn : n = l.length
  at_ : ∀ i x, l[i]? = some x → ∃ Aa na ca Ak nk ck, NdAt w (lt B) x Aa na ca Ak nk ck ∧ w.cell? ⟨b, o + i * 6, none⟩ = some (.int .i64 x.kind) ∧ w.cell? ⟨b, o + i * 6 + 1, none⟩ = some (.string x.name) ∧ w.cell? ⟨b, o + i * 6 + 2, none⟩ = some (.slice Aa na ca) ∧ w.cell? ⟨b, o + i * 6 + 3, none⟩ = some (.string x.text) ∧ w.cell? ⟨b, o + i * 6 + 4, none⟩ = some (.int .i64 x.parent) ∧ w.cell? ⟨b, o + i * 6 + 5, none⟩ = some (.slice Ak nk ck)
  lt : b < B
theorem doc_at {w : World} {B : Nat} {A : Option Addr} {n c : Nat} {l : List Nd} (h : Sl tNd w (lt B) A n c l) (hn : 0 < n) : ∃ b o, A = some ⟨b, o, none⟩ ∧ DocAt w B b o n l := by
  obtain ⟨b, o, cells, rfl, hD, hr, hc⟩ := h.at_ hn
  refine ⟨b, o, rfl, h.hn, fun i x hx => ?_, hD⟩
  obtain ⟨b', o', Aa, na, ca, Ak, nk, ck, e, hD', hn', hc'⟩ := Sl.nd h hx
  obtain ⟨rfl, rfl⟩ : b = b' ∧ o = o' := by simpa using e
  exact ⟨Aa, na, ca, Ak, nk, ck, hn', hc' 0 _ rfl, hc' 1 _ rfl, hc' 2 _ rfl, hc' 3 _ rfl, hc' 4 _ rfl, hc' 5 _ rfl⟩
theorem DocAt.below {w w' : World} {B B' b o n : Nat} {l : List Nd} (h : DocAt w B b o n l) (hb : Below B' w w') (hB : B ≤ B') : DocAt w' B b o n l :=
  ⟨h.hn, fun i x hx => by
    obtain ⟨Aa, na, ca, Ak, nk, ck, hn, c0, c1, c2, c3, c4, c5⟩ := h.at_ i x hx
    have hk : ∀ j v, w.cell? ⟨b, j, none⟩ = some v → w'.cell? ⟨b, j, none⟩ = some v := fun j v hv => (hb.cell (p := ⟨b, j, none⟩) (Nat.lt_of_lt_of_le h.lt hB)).trans hv
    exact ⟨Aa, na, ca, Ak, nk, ck, hn.below hb hB, hk _ _ c0, hk _ _ c1, hk _ _ c2, hk _ _ c3, hk _ _ c4, hk _ _ c5⟩, h.lt⟩
end Go.Proofs.YtmemadajjmmlpaaDoor
