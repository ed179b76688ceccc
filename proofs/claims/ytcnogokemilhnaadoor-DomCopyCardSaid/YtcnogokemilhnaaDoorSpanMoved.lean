/-
The walk of span's moved, where a text is set.
-/
import Derived.Test.YtcnogokemilhnaaDoorSpanSpan
import Derived.Test.YtcnogokemilhnaaDoorEdWalksA
namespace Go.Proofs.YtcnogokemilhnaaDoor
open Go.RowKit Go.Cl
attribute [local go_sem ↓] Go.wp_at_zero Go.wp_at_succ

/-- Where a point goes when a text is set. -/
def textTo (p : Pt) (e : Edt) : Int := if p.node = e.at_ then min p.at_ (e.value.size : Int) else p.at_
set_option maxRecDepth 100000 in
set_option maxHeartbeats 4000000 in
theorem moved_text (A : Option Addr) (n c : Nat) (q : Bool) (p : Pt) (e : Edt) (Aa : Option Addr) (na ca : Nat) (Ak : Option Addr) (nk ck : Nat) (w : World) (h3 : e.do_ = 3) (_hv : e.value.size ≤ 1152921504606846976) :
    Calls Tryd.prog 62 #[.agg #[.slice A n c, .bool q], .agg #[.int .i64 p.node, .int .i64 p.at_], .agg (edtCells e Aa na ca Ak nk ck)] w fun e' w' => e' = .returned (.agg #[.int .i64 p.node, .int .i64 (textTo p e)]) ∧ Below w.heap.size w w' := by
  obtain ⟨wa, hwa⟩ : ∃ wa, wa = w.alloc (.cells #[.slice A n c, .bool q] 106) := ⟨_, rfl⟩
  obtain ⟨wb, hwb⟩ : ∃ wb, wb = wa.alloc (.cells #[.int .i64 p.node, .int .i64 p.at_] 57) := ⟨_, rfl⟩
  obtain ⟨wd, hwd⟩ : ∃ wd, wd = wb.alloc (.cells (edtCells e Aa na ca Ak nk ck) 53) := ⟨_, rfl⟩
  obtain ⟨w0, hw0⟩ : ∃ w0, w0 = wd.alloc (.cells #[.int .i64 0, .int .i64 0] 57) := ⟨_, rfl⟩
  have za : wa.heap.size = w.heap.size + 1 := by rw [hwa]; exact World.size_alloc w _
  have zb : wb.heap.size = w.heap.size + 1 + 1 := by rw [hwb, World.size_alloc, za]
  have zd : wd.heap.size = w.heap.size + 1 + 1 + 1 := by rw [hwd, World.size_alloc, zb]
  have hx2 : w0.heap[w.heap.size + 1]? = some (.cells #[.int .i64 p.node, .int .i64 p.at_] 57 (0, 0)) := by rw [hw0, Lib.alloc_old _ _ _ (by omega), hwd, Lib.alloc_old _ _ _ (by omega), hwb, ← za]; exact heap_alloc_new wa _
  have hx3 : w0.heap[w.heap.size + 1 + 1]? = some (.cells (edtCells e Aa na ca Ak nk ck) 53 (0, 0)) := by rw [hw0, Lib.alloc_old _ _ _ (by omega), hwd, ← zb]; exact heap_alloc_new wb _
  have hx4 : w0.heap[w.heap.size + 1 + 1 + 1]? = some (.cells #[.int .i64 0, .int .i64 0] 57 (0, 0)) := by rw [hw0, ← zd]; exact heap_alloc_new wd _
  have hb0 : Below w.heap.size w w0 := by rw [hw0, hwd, hwb, hwa]; exact ((((Below.refl _ _).alloc (Nat.le_refl _) _).alloc (by simp) _).alloc (by simp; omega) _).alloc (by simp; omega) _
  have p0 : w0.cell? ⟨w.heap.size + 1, 0, none⟩ = some (.int .i64 p.node) := cell_blk hx2 rfl
  have p1 : w0.cell? ⟨w.heap.size + 1, 1, none⟩ = some (.int .i64 p.at_) := cell_blk hx2 rfl
  have e0 : w0.cell? ⟨w.heap.size + 1 + 1, 0, none⟩ = some (.int .i64 3) := by rw [← h3]; exact cell_blk hx3 rfl
  have e1 : w0.cell? ⟨w.heap.size + 1 + 1, 1, none⟩ = some (.int .i64 e.at_) := cell_blk hx3 rfl
  have e5 : w0.cell? ⟨w.heap.size + 1 + 1, 5, none⟩ = some (.string e.value) := cell_blk hx3 rfl
  have r0 := cell_blk (i := 0) hx4 rfl
  have r1 := cell_blk (i := 1) hx4 rfl
  have g0 := free_blk (i := 0) hx4
  have g1 := free_blk (i := 1) hx4
  have f1 := free_blk (i := 1) hx2
  by_cases hn : p.node = e.at_
  · have HR := Lib.hid (show textTo p e = min p.at_ (e.value.size : Int) from if_pos hn)
    have hn1 : (p.node == e.at_) = true := by simpa using hn
    obtain ⟨w7, hw7⟩ : ∃ w7, w7 = w0.setCell ⟨w.heap.size + 1, 1, none⟩ (.int .i64 (min p.at_ (e.value.size : Int))) := ⟨_, rfl⟩
    have hne : w.heap.size + 1 + 1 + 1 ≠ w.heap.size + 1 := by omega
    have hy2 : w7.heap[w.heap.size + 1]? = some (.cells #[.int .i64 p.node, .int .i64 (min p.at_ (e.value.size : Int))] 57 (0, 0)) := by rw [hw7]; exact set_blk (i := 1) hx2 _
    have hy4 : w7.heap[w.heap.size + 1 + 1 + 1]? = some (.cells #[.int .i64 0, .int .i64 0] 57 (0, 0)) := by rw [hw7]; exact (Below.heap_setCell _ _ _ _ hne).trans hx4
    have hb7 : Below w.heap.size w w7 := by rw [hw7]; exact hb0.setCell (p := ⟨w.heap.size + 1, 1, none⟩) (by show w.heap.size ≤ w.heap.size + 1; omega) _
    have k0 := cell_blk (i := 0) hy2 rfl
    have k1 := cell_blk (i := 1) hy2 rfl
    have l0 := cell_blk (i := 0) hy4 rfl
    have l1 := cell_blk (i := 1) hy4 rfl
    have m0 := free_blk (i := 0) hy4
    have m1 := free_blk (i := 1) hy4
    have hrs8 := set_blk (i := 0) hy4 (.int .i64 p.node)
    have hrs9 := set_blk (i := 1) hrs8 (.int .i64 (min p.at_ (e.value.size : Int)))
    have u0 := cell_blk (i := 0) (v := .int .i64 p.node) hrs9 rfl
    have u1 := cell_blk (i := 1) (v := .int .i64 (min p.at_ (e.value.size : Int))) hrs9 rfl
    have HBF := Lib.hid ((hb7.setCell (p := ⟨w.heap.size + 1 + 1 + 1, 0, none⟩) (by show w.heap.size ≤ w.heap.size + 1 + 1 + 1; omega) (.int .i64 p.node)).setCell (p := ⟨w.heap.size + 1 + 1 + 1, 1, none⟩) (by show w.heap.size ≤ w.heap.size + 1 + 1 + 1; omega) (.int .i64 (min p.at_ (e.value.size : Int))))
    clear za zb zd hx2 hx3 hx4 hb0 hne hy2 hy4 hb7 hrs8 hrs9 h3 hn
    go_enter Tryd.func62, Tryd.ntmps62
    unfold edtCells at *
    go_upto_region 1 with fail
    rw [← hwa, ← hwb, ← hwd, ← hw0]
    clear hwa hwb hwd hw0
    go_upto_region 21 with fail
    rw [← hw7]
    clear hw7
    go_wp2_with fail
    refine bodyPost_ret (v := .agg #[.int .i64 p.node, .int .i64 (min p.at_ (e.value.size : Int))]) (by simp [results, Tryd.results62, go_sem, u0, u1]) rfl ⟨by rw [HR.out], HBF.out⟩
  · have HR := Lib.hid (show textTo p e = p.at_ from if_neg hn)
    have hn1 : (p.node == e.at_) = false := by simpa using hn
    have hrs8 := set_blk (i := 0) hx4 (.int .i64 p.node)
    have hrs9 := set_blk (i := 1) hrs8 (.int .i64 p.at_)
    have u0 := cell_blk (i := 0) (v := .int .i64 p.node) hrs9 rfl
    have u1 := cell_blk (i := 1) (v := .int .i64 p.at_) hrs9 rfl
    have HBF := Lib.hid ((hb0.setCell (p := ⟨w.heap.size + 1 + 1 + 1, 0, none⟩) (by show w.heap.size ≤ w.heap.size + 1 + 1 + 1; omega) (.int .i64 p.node)).setCell (p := ⟨w.heap.size + 1 + 1 + 1, 1, none⟩) (by show w.heap.size ≤ w.heap.size + 1 + 1 + 1; omega) (.int .i64 p.at_))
    clear za zb zd hx2 hx3 hx4 hb0 hrs8 hrs9 h3 hn
    go_enter Tryd.func62, Tryd.ntmps62
    unfold edtCells at *
    go_upto_region 1 with fail
    rw [← hwa, ← hwb, ← hwd, ← hw0]
    clear hwa hwb hwd hw0
    go_wp2_with fail
    refine bodyPost_ret (v := .agg #[.int .i64 p.node, .int .i64 p.at_]) (by simp [results, Tryd.results62, go_sem, u0, u1]) rfl ⟨by rw [HR.out], HBF.out⟩
end Go.Proofs.YtcnogokemilhnaaDoor
