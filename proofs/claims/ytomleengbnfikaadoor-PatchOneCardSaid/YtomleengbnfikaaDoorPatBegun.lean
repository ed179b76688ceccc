/-
Patches: the walk of patchBegun.
-/
import Derived.Test.YtomleengbnfikaaDoorPatMade
import Derived.Test.YtomleengbnfikaaDoorPatDiff
import Derived.Test.YtomleengbnfikaaDoorPatRun
import Derived.Test.YtomleengbnfikaaDoorDomNew
namespace Go.Proofs.YtomleengbnfikaaDoor
open Go.RowKit Go.Cl
attribute [local go_sem ↓] Go.wp_at_zero Go.wp_at_succ

def pbegA : List Nd := [⟨1, ⟨#[]⟩, [], ⟨#[]⟩, -1, [1]⟩, ⟨4, ⟨#[]⟩, [], (⟨#[99]⟩ : ByteArray), 0, []⟩]
def insE : Edt := ⟨5, 0, 1, -1, ⟨#[]⟩, ⟨#[]⟩, ⟨0, ⟨#[]⟩, [], ⟨#[]⟩, 0, []⟩⟩
def pbegE : List Edt := [makeE 4 ⟨#[]⟩ (⟨#[99]⟩ : ByteArray), insE]
theorem pbeg_run : alR [rootNd] pbegE = (pbegA, 0, 0) := by kernel_rfl
theorem pbeg_good : checkD pbegA = 0 ∧ checkD [rootNd] = 0 := by decide +kernel
theorem pbeg_own : ownE (0 : Int) rootNd ⟨1, ⟨#[]⟩, [], ⟨#[]⟩, -1, [1]⟩ = [] := by
  show attrsE2 0 [] [] ++ (if (⟨#[]⟩ : ByteArray) = ⟨#[]⟩ then [] else _) = _
  rw [attrs_same, if_pos rfl]
  rfl
set_option maxRecDepth 100000 in
theorem pbeg_node (b bN : Nat) (w : World) (B : Nat) (hl : Sl tNd w (lt B) (some ⟨b, 0, none⟩) 1 1 [rootNd]) (hl2 : Sl tNd w (lt B) (some ⟨bN, 0, none⟩) 2 2 pbegA) (hB : B ≤ w.heap.size) (gi : Nat) (hN : w.heap[bN]? = some (.cells #[.int .i64 1, .string ⟨#[]⟩, .slice none 0 0, .string ⟨#[]⟩, .int .i64 (-1), .slice (some ⟨gi, 0, none⟩) 1 1, .int .i64 4, .string ⟨#[]⟩, .slice none 0 0, .string (⟨#[99]⟩ : ByteArray), .int .i64 0, .slice none 0 0] 28 (0, 0))) :
    Calls Tryd.prog 8 #[.agg #[.slice (some ⟨b, 0, none⟩) 1 1, .bool false], .agg #[.slice (some ⟨bN, 0, none⟩) 2 2, .bool false]] w fun e w' => Below w.heap.size w w' ∧ ∃ A' c', e = .returned (.tuple #[.slice A' pbegE.length c', .int .i64 0]) ∧ Sl tEdt w' (rg w.heap.size w'.heap.size) A' pbegE.length c' pbegE := by
  obtain ⟨_, _, e1, hd1⟩ := doc_at hl (by decide)
  obtain ⟨_, _, e2, hd2⟩ := doc_at hl2 (by decide)
  injection e1 with e1
  injection e1 with e1 e3
  subst e1 e3
  injection e2 with e2
  injection e2 with e2 e4
  subst e2 e4
  have T1 := tree_of pbeg_good.2
  have T2 := tree_of pbeg_good.1
  have hbl : bN < w.heap.size := (Array.getElem?_eq_some_iff.1 hN).1
  refine diff_any (some ⟨b, 0, none⟩) 1 1 [rootNd] false (some ⟨bN, 0, none⟩) 2 2 pbegA false pbegE w B hl hl2 hB (good_of pbeg_good.2) (good_of pbeg_good.1) (by decide) (by decide) (by decide) fun W base E v hbase hb hdf => ?_
  have hb0 : 0 < base := by omega
  have h := dnode_gen T1 T2 base E b 0 1 1 bN 0 2 2 false false v [] 1 (by decide) (by decide) 40 0 0 rootNd ⟨1, ⟨#[]⟩, [], ⟨#[]⟩, -1, [1]⟩ W B rfl rfl (hd1.below hb hB) (hd2.below hb hB) (Nat.le_trans hB hbase) (by decide) (by decide) hdf (by decide)
    (fun z hz => by cases hz) (fun z hz => by obtain rfl := List.mem_singleton.1 hz; exact ⟨1, rfl, by decide⟩) (by decide) (by decide) (by decide) (by decide) (fun i a ha => by simp [rootNd] at ha) (fun i a ha => by simp at ha) (Nat.zero_le _) (fun k hk => absurd hk (Nat.not_lt_zero _))
    (fun k => if k = 0 then [] else pbegE) (fun k => if k = 0 then 1 else 2) (fun k => if k = 0 then -1 else 1) pbeg_own.symm rfl rfl (fun k hk => by
      obtain rfl : k = 0 := by have : k < 1 := hk; omega
      refine .inr ⟨rfl, [makeE 4 ⟨#[]⟩ (⟨#[99]⟩ : ByteArray)], by decide, rfl, rfl, rfl, fun W2 v2 hb2 hd2' => ?_⟩
      have hNW : W2.heap[bN]? = _ := (hb2.block bN (by omega)).trans ((hb.block bN hbl).trans hN)
      refine (made_one W2 base E (some ⟨b, 0, none⟩) 1 1 false bN 0 2 2 false v2 [] 1 1 4 0 ⟨#[]⟩ (⟨#[99]⟩ : ByteArray) hd2' (by decide) (by decide) (by decide) rfl (by decide) (by decide) (cell_blk (i := 6) hNW rfl) (cell_blk (i := 7) hNW rfl) (cell_blk (i := 8) hNW rfl) (cell_blk (i := 9) hNW rfl) (cell_blk (i := 10) hNW rfl) (cell_blk (i := 11) hNW rfl) (by have := hdf.lo; omega)).mono fun e' W' h => h)
  exact h.mono fun e' W' hh => ⟨hh.1, 2, hh.2⟩
end Go.Proofs.YtomleengbnfikaaDoor
