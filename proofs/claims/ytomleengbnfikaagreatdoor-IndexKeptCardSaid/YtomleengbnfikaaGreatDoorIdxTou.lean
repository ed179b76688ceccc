/-
The walk of touched: the nodes whose words an edit may turn.
-/
import Derived.Test.YtomleengbnfikaaGreatDoorIdxBelow
import Derived.Test.YtomleengbnfikaaGreatDoorIdxSame
namespace Go.Proofs.YtomleengbnfikaaGreatDoor
open Go.RowKit Go.Cl
attribute [local go_sem ↓] Go.wp_at_zero Go.wp_at_succ

theorem touErr {l : List Nd} (G : Good l) {e : Edt} (he : edErr l e = 0) : (e.do_ = 1 ∧ touP l e = [e.at_]) ∨ (e.do_ = 2 ∧ touP l e = [e.at_]) ∨ (e.do_ = 3 ∧ touP l e = []) ∨ (e.do_ = 4 ∧ touP l e = []) ∨ (e.do_ = 5 ∧ touP l e = preR l e.to_ ∧ ∃ t : Nat, e.to_ = (t : Int) ∧ t < l.length) ∨ (e.do_ = 6 ∧ touP l e = preR l e.at_ ∧ ∃ t : Nat, e.at_ = (t : Int) ∧ t < l.length) := by
  unfold touP
  unfold edErr at he
  rcases edErr_do (show edErr l e = 0 from he) with hd | hd | hd | hd | hd | hd
  · exact .inl ⟨hd, if_pos (.inl hd)⟩
  · exact .inr (.inl ⟨hd, if_pos (.inr hd)⟩)
  · exact .inr (.inr (.inl ⟨hd, by rw [if_neg (by omega), if_neg (by omega), if_neg (by omega)]⟩))
  · exact .inr (.inr (.inr (.inl ⟨hd, by rw [if_neg (by omega), if_neg (by omega), if_neg (by omega)]⟩)))
  · rw [if_neg (by omega), if_neg (by omega), if_neg (by omega), if_neg (by omega), if_pos hd] at he
    obtain ⟨m, t, x, y, em, et, hi⟩ := insErr_iff he
    exact .inr (.inr (.inr (.inr (.inl ⟨hd, by rw [if_neg (by omega), if_pos hd], t, et, (List.getElem?_eq_some_iff.1 hi.hy).1⟩))))
  · rw [if_neg (by omega), if_neg (by omega), if_neg (by omega), if_neg (by omega), if_neg (by omega), if_pos hd] at he
    obtain ⟨m, p, i, x, y, em, hr⟩ := remErr_iff G he
    exact .inr (.inr (.inr (.inr (.inr ⟨hd, by rw [if_neg (by omega), if_neg (by omega), if_pos hd], m, em, (List.getElem?_eq_some_iff.1 hr.hx).1⟩))))
set_option maxRecDepth 100000 in
set_option maxHeartbeats 4000000 in
theorem touchedI_any (A : Option Addr) (n c : Nat) (l : List Nd) (q : Bool) (e : Edt) (Aa : Option Addr) (na ca : Nat) (Ak : Option Addr) (nk ck : Nat) (w : World) (B : Nat) (hl : Sl tNd w (lt B) A n c l) (hB : B ≤ w.heap.size) (hwf : (Lit.int .i64 e.at_).wf = true) (G : Good l) (he : edErr l e = 0) :
    Calls Tryz.prog 16 #[.agg #[.slice A n c, .bool q], .agg (edtCells e Aa na ca Ak nk ck)] w (NsPost w (touP l e)) := by
  obtain ⟨wa, hwa⟩ : ∃ wa, wa = w.alloc (.cells #[.slice A n c, .bool q] 24) := ⟨_, rfl⟩
  obtain ⟨w0, hw0⟩ : ∃ w0, w0 = wa.alloc (.cells (edtCells e Aa na ca Ak nk ck) 41) := ⟨_, rfl⟩
  have za : wa.heap.size = w.heap.size + 1 := by rw [hwa]; exact World.size_alloc w _
  have hb0 : Below w.heap.size w w0 := by rw [hw0, hwa]; exact ((Below.refl _ _).alloc (Nat.le_refl _) _).alloc (by simp) _
  have hx1 : w0.heap[w.heap.size]? = some (.cells #[.slice A n c, .bool q] 24 (0, 0)) := by rw [hw0, Lib.alloc_old _ _ _ (by omega), hwa]; exact heap_alloc_new w _
  have hx2 : w0.heap[w.heap.size + 1]? = some (.cells (edtCells e Aa na ca Ak nk ck) 41 (0, 0)) := by rw [hw0, ← za]; exact heap_alloc_new wa _
  have y0 := cell_blk (i := 0) hx1 rfl
  have y1 := cell_blk (i := 1) hx1 rfl
  have e0 : w0.cell? ⟨w.heap.size + 1, 0, none⟩ = some (.int .i64 e.do_) := cell_blk hx2 rfl
  have e1 : w0.cell? ⟨w.heap.size + 1, 1, none⟩ = some (.int .i64 e.at_) := cell_blk hx2 rfl
  have e2 : w0.cell? ⟨w.heap.size + 1, 2, none⟩ = some (.int .i64 e.to_) := cell_blk hx2 rfl
  have HB0 := Lib.hid hb0
  have T := tree_of (check_of G)
  have HBL := Lib.hid (fun (t : Nat) (ht : t < l.length) => belowN_any A n c l q T B (41 - upN l t) t w0 (hl.below hb0 hB) (Nat.le_trans hB hb0.size) ht (T.start ht))
  have HWF := Lib.hid hwf
  have hcases := touErr G he
  clear za hb0 hx1 hx2 T hl hB hwf G he
  rcases hcases with ⟨hd, ht⟩ | ⟨hd, ht⟩ | ⟨hd, ht⟩ | ⟨hd, ht⟩ | ⟨hd, ht, t, et, htl⟩ | ⟨hd, ht, t, et, htl⟩
  · rw [hd] at e0
    rw [ht]
    clear hd ht
    go_enter Tryz.func16, Tryz.ntmps16
    go_upto_region 1 with fail
    rw [← hwa, ← hw0]
    clear hwa hw0
    go_wp2_with fail
    go_ret
    exact ⟨bstep0 HB0.out ((Below.refl _ _).alloc (Nat.le_refl _) _), _, rfl, (own_one HWF.out).down HB0.out.size⟩
  · rw [hd] at e0
    rw [ht]
    clear hd ht
    go_enter Tryz.func16, Tryz.ntmps16
    go_upto_region 1 with fail
    rw [← hwa, ← hw0]
    clear hwa hw0
    go_wp2_with fail
    go_ret
    exact ⟨bstep0 HB0.out ((Below.refl _ _).alloc (Nat.le_refl _) _), _, rfl, (own_one HWF.out).down HB0.out.size⟩
  · rw [hd] at e0
    rw [ht]
    clear hd ht
    go_enter Tryz.func16, Tryz.ntmps16
    go_upto_region 1 with fail
    rw [← hwa, ← hw0]
    clear hwa hw0
    go_wp2_with fail
    go_ret
    exact ⟨HB0.out, _, rfl, OwnF.nil _ _ _⟩
  · rw [hd] at e0
    rw [ht]
    clear hd ht
    go_enter Tryz.func16, Tryz.ntmps16
    go_upto_region 1 with fail
    rw [← hwa, ← hw0]
    clear hwa hw0
    go_wp2_with fail
    go_ret
    exact ⟨HB0.out, _, rfl, OwnF.nil _ _ _⟩
  · rw [hd] at e0
    rw [ht, et]
    rw [et] at e2
    have HC := Lib.hid (HBL.out t htl)
    clear hd ht et
    go_enter Tryz.func16, Tryz.ntmps16
    go_upto_region 1 with fail
    rw [← hwa, ← hw0]
    clear hwa hw0
    go_wp2_with (go_at_call 30; refine HC.out.mono ?_; rintro e' w1 ⟨hb1, v1, rfl, hown1⟩)
    go_ret
    exact ⟨bstep0 HB0.out hb1, _, rfl, hown1.down HB0.out.size⟩
  · rw [hd] at e0
    rw [ht, et]
    rw [et] at e1
    have HC := Lib.hid (HBL.out t htl)
    clear hd ht et
    go_enter Tryz.func16, Tryz.ntmps16
    go_upto_region 1 with fail
    rw [← hwa, ← hw0]
    clear hwa hw0
    go_wp2_with (go_at_call 30; refine HC.out.mono ?_; rintro e' w1 ⟨hb1, v1, rfl, hown1⟩)
    go_ret
    exact ⟨bstep0 HB0.out hb1, _, rfl, hown1.down HB0.out.size⟩
end Go.Proofs.YtomleengbnfikaaGreatDoor
