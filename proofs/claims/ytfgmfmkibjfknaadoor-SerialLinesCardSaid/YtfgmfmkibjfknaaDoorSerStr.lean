/-
What package serial's writer has written, as a string.
-/
import Derived.Test.YtfgmfmkibjfknaaDoorSerBuild
namespace Go.Proofs.YtfgmfmkibjfknaaDoor
open Go.RowKit Go.Cl

theorem str_none (W : World) (q : Option Addr) : (Builtin.unsafeString_ #[151, 3] 9 #[.pointer q, .int .i64 0]).run Tryd.prog W = .ok (.string .empty) W := Lib.run_unsafeString_none W _ _ _ q
set_option maxHeartbeats 2000000 in
set_option maxRecDepth 100000 in
/-- What is written so far, as a string. -/
theorem strW (E B : Nat) (A : Option Addr) (n c : Nat) (q : Bool) (bs : List UInt8) (w : World) (h : WrAt w E B A n c q bs) (hB : B ≤ w.heap.size) :
    Calls Tryd.prog 49 #[.pointer (some ⟨E, 0, none⟩)] w fun e w' => e = .returned (.string ⟨bs.toArray⟩) ∧ Below B w w' := by
  obtain ⟨p, v, hbk, hp, hown⟩ := h.box
  have mixed : Tryd.prog.follows .mixedOrders = true := by kernel_rfl
  rcases hown.2 with ⟨rfl, h0⟩ | ⟨g, cap, cur, rfl, hbg, hg, hnc, hcm, hcs, htake⟩
  · have hb0 : bs = [] := List.eq_nil_of_length_eq_zero h0
    subst hb0
    have hUS := str_none
    have c1 : w.drew.cell? ⟨E, 1, none⟩ = some (.slice none 0 0) := cell_blk (w := w.drew) hbk rfl
    have hSD : (Builtin.unsafeSliceData_ #[97] 151 #[.slice none 0 0]).run Tryd.prog w.drew = .ok (.pointer none) w.drew := rfl
    clear h hbk hown hp h0
    go_enter Tryd.func49, Tryd.ntmps49
    go_wp2
    go_region_o
    all_goals (go_wp2; go_ret; exact ⟨rfl, Below.drew (Below.refl B w)⟩)
  · by_cases hl0 : bs = []
    · subst hl0
      have hUS := str_none
      by_cases hc0 : cap = 0
      · subst hc0
        have c1 : w.drew.cell? ⟨E, 1, none⟩ = some (.slice (some ⟨g, 0, none⟩) 0 0) := cell_blk (w := w.drew) hbk rfl
        have hSD : (Builtin.unsafeSliceData_ #[97] 151 #[.slice (some ⟨g, 0, none⟩) 0 0]).run Tryd.prog w.drew = .ok (.pointer (some ⟨w.drew.heap.size, 0, none⟩)) (w.drew.alloc (.view ⟨g, 0, none⟩ 5)) :=
          Lib.run_unsafeSliceData_zero w.drew _ _ 5 Tryd.underlying151 ⟨g, 0, none⟩ 0 (5, cur.size) (by have hg' : w.drew.heap[g]? = some (.cells cur 5 (0, 0)) := hg; simp [World.shape?, hg'])
        have c2 : (w.drew.alloc (.view ⟨g, 0, none⟩ 5)).cell? ⟨E, 1, none⟩ = some (.slice (some ⟨g, 0, none⟩) 0 0) := cell_al c1 _
        have c3 : (w.alloc (.view ⟨g, 0, none⟩ 5)).drew.cell? ⟨E, 1, none⟩ = some (.slice (some ⟨g, 0, none⟩) 0 0) := c2
        have c0 : w.cell? ⟨E, 1, none⟩ = some (.slice (some ⟨g, 0, none⟩) 0 0) := c1
        clear h hbk hown hp hg hcs htake hcm hnc
        go_enter Tryd.func49, Tryd.ntmps49
        go_wp2
        go_region_o
        all_goals (go_wp2; go_ret; exact ⟨rfl, (Below.drew (Below.refl B w)).alloc hB _⟩)
      · have c1 : w.drew.cell? ⟨E, 1, none⟩ = some (.slice (some ⟨g, 0, none⟩) 0 cap) := cell_blk (w := w.drew) hbk rfl
        have hSD : (Builtin.unsafeSliceData_ #[97] 151 #[.slice (some ⟨g, 0, none⟩) 0 cap]).run Tryd.prog w.drew = .ok (.pointer (some ⟨g, 0, none⟩)) w.drew := Lib.run_unsafeSliceData_row _ _ _ _ _ _ hc0
        clear h hbk hown hp hg hcs htake hcm hnc hc0
        go_enter Tryd.func49, Tryd.ntmps49
        go_wp2
        go_region_o
        all_goals (go_wp2; go_ret; exact ⟨rfl, Below.drew (Below.refl B w)⟩)
    · have hpos : bs.length ≠ 0 := by simpa using hl0
      have hbig := hcm
      unfold maxLen at hbig
      have c1 : w.drew.cell? ⟨E, 1, none⟩ = some (.slice (some ⟨g, 0, none⟩) bs.length cap) := cell_blk (w := w.drew) hbk rfl
      have hSD : (Builtin.unsafeSliceData_ #[97] 151 #[.slice (some ⟨g, 0, none⟩) bs.length cap]).run Tryd.prog w.drew = .ok (.pointer (some ⟨g, 0, none⟩)) w.drew := Lib.run_unsafeSliceData_row _ _ _ _ _ _ (by omega)
      have hUS : (Builtin.unsafeString_ #[151, 3] 9 #[.pointer (some ⟨g, 0, none⟩), .int .i64 bs.length]).run Tryd.prog w.drew = .ok (.string ⟨bs.toArray⟩) (w.drew.freeze ⟨g, 0, none⟩ bs.length) := by
        refine Lib.run_unsafeString_row w.drew 151 3 9 5 Tryd.underlying151 Tryd.Builder_Extra_169.cellsByte g cur.size (by have hg' : w.drew.heap[g]? = some (.cells cur 5 (0, 0)) := hg; simp [World.shape?, hg']) bs hl0 (by omega) (by omega) ?_
        intro j x hx
        exact hown.cells (g := g) rfl j (.int .u8 x.toNat) (by simp [Lib.byteCells, hx])
      clear h hbk hown hp hg hcs htake hcm hnc hpos hl0
      go_enter Tryd.func49, Tryd.ntmps49
      go_wp2
      go_region_o
      all_goals (go_wp2; go_ret; exact ⟨rfl, Lib.below_freeze (Below.drew (Below.refl B w)) (p := ⟨g, 0, none⟩) hbg _⟩)
end Go.Proofs.YtfgmfmkibjfknaaDoor
