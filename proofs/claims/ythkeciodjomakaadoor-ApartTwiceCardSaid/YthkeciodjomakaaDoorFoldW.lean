/-
The walk of package apart: joined.
-/
import Derived.Test.YthkeciodjomakaaDoorApartW2
import Derived.Test.YthkeciodjomakaaDoorFoldAll
namespace Go.Proofs.YthkeciodjomakaaDoor
open Go.RowKit Go.Cl
attribute [local go_sem ↓] Go.wp_at_zero Go.wp_at_succ

theorem same_bytes {a b : ByteArray} : (a.toList == b.toList) = decide (a = b) := by
  rw [Bool.eq_iff_iff, decide_eq_true_iff, beq_iff_eq]
  exact ⟨fun h => ByteArray.ext (Array.ext' (by rw [← Lib.toList_data, ← Lib.toList_data]; exact h)), fun h => by rw [h]⟩
/-- What joined leaves behind. -/
def JnPost (w : World) (a b : Edt) (cb : Array Value) (e' : Ending) (w' : World) : Prop :=
  Below w.heap.size w w' ∧ ((joinD a b = none ∧ e' = .returned (.tuple #[.slice none 0 0, .bool false])) ∨ (joinD a b = some [] ∧ e' = .returned (.tuple #[.slice none 0 0, .bool true])) ∨
    (joinD a b = some [b] ∧ ∃ g, e' = .returned (.tuple #[.slice (some ⟨g, 0, none⟩) 1 1, .bool true]) ∧ w.heap.size ≤ g ∧ w'.heap[g]? = some (.cells cb 30 (0, 0))))
theorem join_3 {a b : Edt} (h1 : a.do_ = 3) (h2 : b.do_ = 3) (h3 : a.at_ = b.at_) : joinD a b = some [b] := by unfold joinD; rw [if_pos ⟨h1, h2, h3⟩]
theorem join_1 {a b : Edt} (h1 : a.do_ = 1) (h2 : b.do_ = 1) (h3 : a.at_ = b.at_) (h4 : a.name = b.name) : joinD a b = some [b] := by unfold joinD; rw [if_neg (by omega), if_pos ⟨h1, h2, h3, h4⟩]
theorem join_5 {a b : Edt} (h1 : a.do_ = 5) (h2 : b.do_ = 6) (h3 : a.to_ = b.at_) : joinD a b = some [] := by unfold joinD; rw [if_neg (by omega), if_neg (by rintro ⟨h, _⟩; omega), if_pos ⟨h1, h2, h3⟩]
theorem join_no {a b : Edt} (h1 : ¬ (a.do_ = 3 ∧ b.do_ = 3 ∧ a.at_ = b.at_)) (h2 : ¬ (a.do_ = 1 ∧ b.do_ = 1 ∧ a.at_ = b.at_ ∧ a.name = b.name)) (h3 : ¬ (a.do_ = 5 ∧ b.do_ = 6 ∧ a.to_ = b.at_)) : joinD a b = none := by unfold joinD; rw [if_neg h1, if_neg h2, if_neg h3]
set_option maxRecDepth 100000 in
set_option maxHeartbeats 4000000 in
theorem joined_any (a : Edt) (Aa : Option Addr) (na ca : Nat) (Ak : Option Addr) (nk ck : Nat) (b : Edt) (Ab : Option Addr) (nb cb : Nat) (Aj : Option Addr) (nj cj : Nat) (w : World) :
    Calls Tryd.prog 47 #[.agg (edtCells a Aa na ca Ak nk ck), .agg (edtCells b Ab nb cb Aj nj cj)] w (JnPost w a b (edtCells b Ab nb cb Aj nj cj)) := by
  obtain ⟨wa, hwa⟩ : ∃ wa, wa = w.alloc (.cells (edtCells a Aa na ca Ak nk ck) 30) := ⟨_, rfl⟩
  obtain ⟨w0, hw0⟩ : ∃ w0, w0 = wa.alloc (.cells (edtCells b Ab nb cb Aj nj cj) 30) := ⟨_, rfl⟩
  have za : wa.heap.size = w.heap.size + 1 := by rw [hwa]; exact World.size_alloc w _
  have z0 : w0.heap.size = w.heap.size + 2 := by rw [hw0, World.size_alloc, za]
  have hxa : wa.heap[w.heap.size]? = some (.cells (edtCells a Aa na ca Ak nk ck) 30 (0, 0)) := by rw [hwa]; exact heap_alloc_new w _
  have hbe : w0.heap[w.heap.size + 1]? = some (.cells (edtCells b Ab nb cb Aj nj cj) 30 (0, 0)) := by rw [hw0, ← za]; exact heap_alloc_new wa _
  have hbd : w0.heap[w.heap.size]? = some (.cells (edtCells a Aa na ca Ak nk ck) 30 (0, 0)) := by rw [hw0, Lib.alloc_old _ _ _ (by omega)]; exact hxa
  have HB0 := Lib.hid (show Below w.heap.size w w0 by rw [hw0, hwa]; exact ((Below.refl _ _).alloc (Nat.le_refl _) _).alloc (by simp) _)
  have p0 : w0.cell? ⟨w.heap.size, 0, none⟩ = some (.int .i64 a.do_) := cell_blk hbd rfl
  have p1 : w0.cell? ⟨w.heap.size, 1, none⟩ = some (.int .i64 a.at_) := cell_blk hbd rfl
  have p2 : w0.cell? ⟨w.heap.size, 2, none⟩ = some (.int .i64 a.to_) := cell_blk hbd rfl
  have p4 : w0.cell? ⟨w.heap.size, 4, none⟩ = some (.string a.name) := cell_blk hbd rfl
  have g0 : w0.cell? ⟨w.heap.size + 1, 0, none⟩ = some (.int .i64 b.do_) := cell_blk hbe rfl
  have g1 : w0.cell? ⟨w.heap.size + 1, 1, none⟩ = some (.int .i64 b.at_) := cell_blk hbe rfl
  have g4 : w0.cell? ⟨w.heap.size + 1, 4, none⟩ = some (.string b.name) := cell_blk hbe rfl
  have HG := Lib.hid (show ∀ (i : Nat) v, (edtCells b Ab nb cb Aj nj cj)[i]? = some v → w0.cell? ⟨w.heap.size + 1, i, none⟩ = some v from fun i v hv => cell_blk hbe hv)
  obtain ⟨w1, hw1⟩ : ∃ w1, w1 = w0.alloc (.cells (edtCells b Ab nb cb Aj nj cj) 30) := ⟨_, rfl⟩
  have HN1 := Lib.hid (show Below w.heap.size w w1 ∧ w.heap.size ≤ w0.heap.size ∧ w1.heap[w0.heap.size]? = some (.cells (edtCells b Ab nb cb Aj nj cj) 30 (0, 0)) by
    rw [hw1]; exact ⟨HB0.out.alloc HB0.out.size _, HB0.out.size, heap_alloc_new w0 _⟩)
  clear za z0 hxa hbe hbd
  go_enter Tryd.func47, Tryd.ntmps47
  unfold edtCells at *
  go_upto_region 1 with fail
  rw [← hwa, ← hw0]
  clear hwa hw0
  have NO : ∀ u, joinD a b = none → u = Ending.returned (.tuple #[.slice none 0 0, .bool false]) → JnPost w a b #[.int .i64 b.do_, .int .i64 b.at_, .int .i64 b.to_, .int .i64 b.before, .string b.name, .string b.value, .int .i64 b.node.kind, .string b.node.name, .slice Ab nb cb, .string b.node.text, .int .i64 b.node.parent, .slice Aj nj cj] u w0 := fun u h1 h2 => ⟨HB0.out, Or.inl ⟨h1, h2⟩⟩
  have HNO := Lib.hid NO
  clear NO
  by_cases h3 : a.do_ = 3
  · rw [h3] at p0
    by_cases k3 : b.do_ = 3
    · rw [k3] at g0
      by_cases ha : a.at_ = b.at_
      · have HJ := Lib.hid (join_3 h3 k3 ha)
        have e2 := HG.out 2 _ rfl
        have e3 := HG.out 3 _ rfl
        have e5 := HG.out 5 _ rfl
        have e6 := HG.out 6 _ rfl
        have e7 := HG.out 7 _ rfl
        have e8 := HG.out 8 _ rfl
        have e9 := HG.out 9 _ rfl
        have e10 := HG.out 10 _ rfl
        have e11 := HG.out 11 _ rfl
        rw [ha] at p1
        rw [k3] at hw1 HN1
        clear h3 ha
        go_wp2_with fail
        rw [← hw1]
        exact bodyPost_ret (v := .tuple #[.slice (some ⟨w0.heap.size, 0, none⟩) 1 1, .bool true]) (by simp [results, Tryd.results47, go_sem]) rfl ⟨HN1.out.1, Or.inr (Or.inr ⟨HJ.out, _, rfl, HN1.out.2.1, by rw [k3]; exact HN1.out.2.2⟩)⟩
      · have HJ := Lib.hid (join_no (a := a) (b := b) (by omega) (by omega) (by omega))
        have t1 : (a.at_ == b.at_) = false := by simpa using ha
        clear ha hw1 HN1 h3 k3
        go_wp2_with fail
        exact bodyPost_ret (v := .tuple #[.slice none 0 0, .bool false]) (by simp [results, Tryd.results47, go_sem]) rfl (HNO.out _ HJ.out rfl)
    · have HJ := Lib.hid (join_no (a := a) (b := b) (by omega) (by omega) (by omega))
      have t1 : (b.do_ == 3) = false := by simpa using k3
      clear hw1 HN1 h3 k3
      go_wp2_with fail
      exact bodyPost_ret (v := .tuple #[.slice none 0 0, .bool false]) (by simp [results, Tryd.results47, go_sem]) rfl (HNO.out _ HJ.out rfl)
  have t3 : (a.do_ == 3) = false := by simpa using h3
  by_cases h1 : a.do_ = 1
  · rw [h1] at p0
    by_cases k1 : b.do_ = 1
    · rw [k1] at g0
      by_cases ha : a.at_ = b.at_
      · by_cases hn : a.name = b.name
        · have HJ := Lib.hid (join_1 h1 k1 ha hn)
          have e2 := HG.out 2 _ rfl
          have e3 := HG.out 3 _ rfl
          have e5 := HG.out 5 _ rfl
          have e6 := HG.out 6 _ rfl
          have e7 := HG.out 7 _ rfl
          have e8 := HG.out 8 _ rfl
          have e9 := HG.out 9 _ rfl
          have e10 := HG.out 10 _ rfl
          have e11 := HG.out 11 _ rfl
          rw [ha] at p1
          rw [hn] at p4
          rw [k1] at hw1 HN1
          clear h3 t3 h1 ha hn
          go_wp2_with fail
          rw [← hw1]
          exact bodyPost_ret (v := .tuple #[.slice (some ⟨w0.heap.size, 0, none⟩) 1 1, .bool true]) (by simp [results, Tryd.results47, go_sem]) rfl ⟨HN1.out.1, Or.inr (Or.inr ⟨HJ.out, _, rfl, HN1.out.2.1, by rw [k1]; exact HN1.out.2.2⟩)⟩
        · have HJ := Lib.hid (join_no (a := a) (b := b) (by omega) (by rintro ⟨_, _, _, h⟩; exact hn h) (by omega))
          have t2 : (a.name.toList == b.name.toList) = false := by rw [same_bytes]; simpa using hn
          rw [ha] at p1
          clear ha hn hw1 HN1 h3 t3 h1 k1
          go_wp2_with fail
          exact bodyPost_ret (v := .tuple #[.slice none 0 0, .bool false]) (by simp [results, Tryd.results47, go_sem]) rfl (HNO.out _ HJ.out rfl)
      · have HJ := Lib.hid (join_no (a := a) (b := b) (by omega) (by rintro ⟨_, _, h, _⟩; exact ha h) (by omega))
        have t1 : (a.at_ == b.at_) = false := by simpa using ha
        clear ha hw1 HN1 h3 t3 h1 k1
        go_wp2_with fail
        exact bodyPost_ret (v := .tuple #[.slice none 0 0, .bool false]) (by simp [results, Tryd.results47, go_sem]) rfl (HNO.out _ HJ.out rfl)
    · have HJ := Lib.hid (join_no (a := a) (b := b) (by omega) (by rintro ⟨_, h, _⟩; exact k1 h) (by omega))
      have t1 : (b.do_ == 1) = false := by simpa using k1
      clear hw1 HN1 h3 t3 h1 k1
      go_wp2_with fail
      exact bodyPost_ret (v := .tuple #[.slice none 0 0, .bool false]) (by simp [results, Tryd.results47, go_sem]) rfl (HNO.out _ HJ.out rfl)
  have t4 : (a.do_ == 1) = false := by simpa using h1
  by_cases h5 : a.do_ = 5
  · rw [h5] at p0
    by_cases k6 : b.do_ = 6
    · rw [k6] at g0
      by_cases ha : a.to_ = b.at_
      · have HJ := Lib.hid (join_5 h5 k6 ha)
        rw [ha] at p2
        clear h3 t3 h1 t4 h5 ha hw1 HN1 k6
        go_wp2_with fail
        exact bodyPost_ret (v := .tuple #[.slice none 0 0, .bool true]) (by simp [results, Tryd.results47, go_sem]) rfl ⟨HB0.out, Or.inr (Or.inl ⟨HJ.out, rfl⟩)⟩
      · have HJ := Lib.hid (join_no (a := a) (b := b) (by omega) (by rintro ⟨h, _⟩; omega) (by rintro ⟨_, _, h⟩; exact ha h))
        have t1 : (a.to_ == b.at_) = false := by simpa using ha
        clear ha hw1 HN1 h3 t3 h1 t4 h5 k6
        go_wp2_with fail
        exact bodyPost_ret (v := .tuple #[.slice none 0 0, .bool false]) (by simp [results, Tryd.results47, go_sem]) rfl (HNO.out _ HJ.out rfl)
    · have HJ := Lib.hid (join_no (a := a) (b := b) (by omega) (by rintro ⟨h, _⟩; omega) (by rintro ⟨_, h, _⟩; exact k6 h))
      have t1 : (b.do_ == 6) = false := by simpa using k6
      clear hw1 HN1 h3 t3 h1 t4 h5 k6
      go_wp2_with fail
      exact bodyPost_ret (v := .tuple #[.slice none 0 0, .bool false]) (by simp [results, Tryd.results47, go_sem]) rfl (HNO.out _ HJ.out rfl)
  · have HJ := Lib.hid (join_no (a := a) (b := b) (by omega) (by rintro ⟨h, _⟩; omega) (by rintro ⟨h, _⟩; exact h5 h))
    have t5 : (a.do_ == 5) = false := by simpa using h5
    clear hw1 HN1 h3 h1 h5
    go_wp2_with fail
    exact bodyPost_ret (v := .tuple #[.slice none 0 0, .bool false]) (by simp [results, Tryd.results47, go_sem]) rfl (HNO.out _ HJ.out rfl)
end Go.Proofs.YthkeciodjomakaaDoor
