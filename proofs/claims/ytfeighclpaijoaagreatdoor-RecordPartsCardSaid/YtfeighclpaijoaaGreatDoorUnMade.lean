/-
The walks of package record's undoer: made.
-/
import Derived.Test.YtfeighclpaijoaaGreatDoorUnText
namespace Go.Proofs.YtfeighclpaijoaaGreatDoor
open Go.RowKit Go.Cl
attribute [local go_sem ↓] Go.wp_at_zero Go.wp_at_succ

/-- A document of the call's own, without its last node. -/
theorem Ed.cut {w : World} {base : Nat} {A : Option Addr} {n c : Nat} {l : List Nd} {ps : List (Value × Value)} (h : Ed w base (.slice A n c) l ps) {k : Nat} (hk : k ≤ l.length) : Ed w base (.slice A k c) (l.take k) (ps.take k) := by
  have hn : n = l.length := by
    obtain ⟨A', c', e⟩ := Own.form h.row
    injection e
  subst hn
  have hlen : (l.take k).length = k := by rw [List.length_take]; omega
  refine ⟨by rw [List.length_take, List.length_take, h.len], by have := h.few; omega, ?_, fun i x p hx hp => ?_, fun i j p q hp hq hij => ?_⟩
  · rw [hlen, ← List.take_zipWith]
    exact Own.cut_to h.row hk
  · rw [List.getElem?_take] at hx hp
    split at hx
    · rename_i hi
      rw [if_pos hi] at hp
      exact h.parts i x p hx hp
    · cases hx
  · rw [List.getElem?_take] at hp hq
    split at hp
    · split at hq
      · exact h.apart i j p q hp hq hij
      · cases hq
    · cases hp
set_option maxRecDepth 100000 in
set_option maxHeartbeats 8000000 in
theorem unMade_any (w : World) (E g c base : Nat) (l : List Nd) (q : Bool) (ps : List (Value × Value)) (s : Stp) (Aa : Option Addr) (na ca : Nat) (Ak : Option Addr) (nk ck : Nat) (h : UnAt w E g c base l q ps) (hok : StpOk w (lt base) s Aa na ca Ak nk ck) {m : Nat} {y : Nd} (hl : l.length = m + 1) (hm : 0 < m) (hy : l[m]? = some y) (hs : s.place = (m : Int)) (hyp : y.parent = -1) (hyk : y.kids = []) :
    Calls Tryz.prog 35 #[.pointer (some ⟨E, 0, none⟩), .agg (stpCells s Aa na ca Ak nk ck)] w (UnPost w E base q (l.take m)) := by
  obtain ⟨w0, hw0⟩ : ∃ w0, w0 = w.alloc (.cells (stpCells s Aa na ca Ak nk ck) 48) := ⟨_, rfl⟩
  have hbx : w0.heap[w.heap.size]? = some (.cells (stpCells s Aa na ca Ak nk ck) 48 (0, 0)) := by rw [hw0]; exact heap_alloc_new w _
  have hb0 : Below w.heap.size w w0 := by rw [hw0]; exact (Below.refl _ _).alloc (Nat.le_refl _) _
  have hz0 : w0.heap.size = w.heap.size + 1 := by rw [hw0]; exact World.size_alloc w _
  have H0 := Lib.hid (h.next hb0)
  have HB0 := Lib.hid hb0
  have HBX := Lib.hid hbx
  have HZ0 := Lib.hid hz0
  have HBE : Hid (base ≤ w.heap.size) := Nat.le_trans h.le (Nat.le_of_lt h.lt)
  have HOK := Lib.hid hok
  have s15 : w0.cell? ⟨w.heap.size, 15, none⟩ = some (.int .i64 s.place) := cell_blk hbx rfl
  unfold stpCells at hw0

  obtain ⟨p, hp, hnd⟩ := H0.out.node hy
  have k4 := hnd.c4
  have k5 := hnd.c5
  rw [hyp] at k4
  obtain ⟨Ak5, ck5, hk5⟩ := Own.form hnd.parts.kids
  rw [hk5, hyk] at k5
  have e0 := H0.out.c0
  have e1 := H0.out.c1
  have hcap := H0.out.cap
  have fE := free_blk (i := 0) H0.out.box
  rw [hl] at e0
  rw [hs] at s15
  have HL := Lib.hid hl
  have hw1 : IntKind.i64.wrap ((m : Int) + 1 - 1) = (m : Int) := by rw [show (m : Int) + 1 - 1 = (m : Int) from by omega]; have := h.ed.few; exact IntWalk.i64_in _ (by omega)
  have hw2 : IntKind.i64.wrap (m : Int) = (m : Int) := by have := h.ed.few; exact IntWalk.i64_in _ (by omega)
  have i1 : (0 : Int) ≤ (m : Int) := by omega
  have i2 : (m : Int) < (m : Int) + 1 := by omega
  have i3 : (m : Int) ≤ (c : Int) := by omega
  have i4 : decide ((m : Int) < 1) = false := decide_eq_false (by omega)
  have HEW : Hid (base ≤ E) := H0.out.le
  clear hbx hb0 hz0 hok h hp hnd hy hl hk5 hyk hyp hs
  go_enter Tryz.func35, Tryz.ntmps35
  unfold stpCells
  go_upto_region 1 with fail
  rw [← hw0]
  clear hw0

  go_wp2_with fail
  refine bodyPost_ret (v := .bool true) (by simp [results, Tryz.results35, go_sem]) rfl ⟨rfl, ?_, g, c, ps.take m, ?_⟩
  · exact ⟨(HB0.out.mono HBE.out).setCell (p := ⟨E, 0, none⟩) HEW.out _, (Leaves.below HB0.out).trans ((Leaves.refl _).put H0.out.nearE _ _)⟩
  · have hlen : (l.take m).length = m := by rw [List.length_take]; have := HL.out; omega
    have hed : Ed (w0.setCell ⟨E, 0, none⟩ (.slice (some ⟨g, 0, none⟩) m c)) base (.slice (some ⟨g, 0, none⟩) l.length c) l ps := H0.out.ed.other H0.out.box (by decide) (by decide) (by decide) (grown_set w0 E 0 _)
    exact ⟨by rw [hlen]; exact set_blk H0.out.box _, by rw [hlen]; exact hed.cut (by have := HL.out; omega), HEW.out, by omega, by omega⟩
end Go.Proofs.YtfeighclpaijoaaGreatDoor
