/-
The walk of dom.New.
-/
import Derived.Test.YtomleengbnfikaaDoorEdDocs
namespace Go.Proofs.YtomleengbnfikaaDoor
open Go.RowKit Go.Cl
attribute [local go_sem ↓] Go.wp_at_zero Go.wp_at_succ

def rootNd : Nd := ⟨1, ⟨#[]⟩, [], ⟨#[]⟩, -1, []⟩
set_option maxRecDepth 100000 in
set_option maxHeartbeats 1000000 in
theorem new_any (w : World) : Calls Tryd.prog 14 #[] w fun e w' => ∃ b, e = .returned (.agg #[.slice (some ⟨b, 0, none⟩) 1 1, .bool false]) ∧ Below w.heap.size w w' ∧ Sl tNd w' (lt w'.heap.size) (some ⟨b, 0, none⟩) 1 1 [rootNd] := by
  go_enter Tryd.func14, Tryd.ntmps14
  go_wp2_with fail
  obtain ⟨w1, hw1⟩ : ∃ w1, w1 = w.alloc (.cells #[.slice (some ⟨w.heap.size + 1, 0, none⟩) 1 1, .bool false] 24) := ⟨_, rfl⟩
  have hz1 : w1.heap.size = w.heap.size + 1 := by rw [hw1]; exact World.size_alloc w _
  have hb1 : Below w.heap.size w w1 := by rw [hw1]; exact (Below.refl _ _).alloc (Nat.le_refl _) _
  have hs := Sl.fresh (n := 1) (w := w1) (B := w1.heap.size) 28 (T := tNd) (xs := [rootNd]) ⟨ndCells rootNd none 0 0 none 0 0, [], rfl, nd_rep ⟨Sl.nil, Sl.nil, by decide, by decide, by decide, by decide⟩, rfl⟩ (Nat.le_refl _) rfl (by decide)
  refine bodyPost_ret (v := .agg #[.slice (some ⟨w.heap.size + 1, 0, none⟩) 1 1, .bool false]) (by simp [results, Tryd.results14, go_sem]) rfl ⟨w.heap.size + 1, rfl, ?_, ?_⟩
  · rw [← hw1]
    exact hb1.alloc (by omega) _
  · rw [← hw1, World.size_alloc, ← hz1]
    exact hs
end Go.Proofs.YtomleengbnfikaaDoor
