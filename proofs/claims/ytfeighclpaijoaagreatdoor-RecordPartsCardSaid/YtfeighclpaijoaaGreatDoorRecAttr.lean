/-
The walk of attribute: what a step notes of an attribute.
-/
import Derived.Test.YtfeighclpaijoaaGreatDoorRecPlace
import Derived.Test.YtfeighclpaijoaaGreatDoorRegionG
namespace Go.Proofs.YtfeighclpaijoaaGreatDoor
open Go.RowKit Go.Cl
attribute [local go_sem ↓] Go.wp_at_zero Go.wp_at_succ

theorem grown_of_below {w w' : World} {row : Option Nat} (h : Below w.heap.size w w') : w.grownBy w' row := ⟨h.os, h.tape, h.output, h.size, fun k hk _ => h.block k hk⟩
set_option maxRecDepth 100000 in
set_option maxHeartbeats 2000000 in
theorem attribute_any (x : Nd) (Aa : Option Addr) (na ca : Nat) (Ak : Option Addr) (nk ck : Nat) (S : Nat) (e : Edt) (Ab : Option Addr) (nb cb : Nat) (Aj : Option Addr) (nj cj : Nat) (w : World) (B : Nat) (hx : NdAt w (lt B) x Aa na ca Ak nk ck) (hB : B ≤ w.heap.size)
    (hS : w.heap[S]? = some (.cells (stpCells ⟨e, false, ⟨#[]⟩, 0, 0⟩ Ab nb cb Aj nj cj) 48 (0, 0))) :
    Calls Tryz.prog 27 #[.agg #[.int .i64 x.kind, .string x.name, .slice Aa na ca, .string x.text, .int .i64 x.parent, .slice Ak nk ck], .pointer (some ⟨S, 0, none⟩)] w fun e' w' => e' = .returned (.tuple #[]) ∧ w.grownBy w' (some S) ∧ w'.heap[S]? = some (.cells (stpCells (atNote e x.attrs) Ab nb cb Aj nj cj) 48 (0, 0)) := by
  obtain ⟨w0, hw0⟩ : ∃ w0, w0 = w.alloc (.cells #[.int .i64 x.kind, .string x.name, .slice Aa na ca, .string x.text, .int .i64 x.parent, .slice Ak nk ck] 43) := ⟨_, rfl⟩
  have hbx : w0.heap[w.heap.size]? = some (.cells #[.int .i64 x.kind, .string x.name, .slice Aa na ca, .string x.text, .int .i64 x.parent, .slice Ak nk ck] 43 (0, 0)) := by rw [hw0]; exact heap_alloc_new w _
  have hz0 : w0.heap.size = w.heap.size + 1 := by rw [hw0]; exact World.size_alloc w _
  have hb0 : Below w.heap.size w w0 := by rw [hw0]; exact (Below.refl _ _).alloc (Nat.le_refl _) _
  have hSl := (Array.getElem?_eq_some_iff.1 hS).1
  have hs0 : w0.heap[S]? = some (.cells (stpCells ⟨e, false, ⟨#[]⟩, 0, 0⟩ Ab nb cb Aj nj cj) 48 (0, 0)) := (hb0.block S hSl).trans hS
  have HPL := Lib.hid (place_any Aa na ca x.attrs e.name w0.drew B ((hx.attrs.below hb0 hB).drew) (Nat.le_trans hB hb0.size))
  have b2 := cell_blk (i := 2) hbx rfl
  have s4 := cell_blk (i := 4) hs0 rfl
  have HB0 := Lib.hid hb0
  have HS0 := Lib.hid hs0
  have HBX := Lib.hid hbx
  have HAT := Lib.hid (hx.attrs.below hb0 hB)
  have HBB : Hid (B ≤ w0.heap.size) := Nat.le_trans hB hb0.size
  have HSL : Hid (S < w.heap.size) := hSl
  clear hbx hz0 hb0 hSl hs0 hx hS hB
  go_enter Tryz.func27, Tryz.ntmps27
  go_upto_region 1 with fail
  rw [← hw0]
  clear hw0
  go_region_held3 (fun w' => w'.cell? ⟨w.heap.size, 2, none⟩ = some (.slice Aa na ca) ∧ w'.cell? ⟨S, 4, none⟩ = some (.string e.name)) (first | exact ⟨b2, s4⟩ | exact ⟨r0, r1⟩)
    ((go_at_call 47; refine HPL.out.mono ?_; rintro e' w2 ⟨rfl, hb2⟩; have r0 := cell_be (w := w0.drew) b2 hb2; have r1 := cell_be (w := w0.drew) s4 hb2))
  have hb02 : Below w0.heap.size w0 w2 := ((Below.refl _ w0).drew).trans hb2
  have hs2 := (hb02.block S (Nat.lt_of_lt_of_le HSL.out HB0.out.size)).trans HS0.out
  have hg2 := grown_of_below (row := some S) (HB0.out.trans (hb02.mono HB0.out.size))
  have HG2 := Lib.hid hg2
  have HS2 := Lib.hid hs2
  have HA2 := Lib.hid (HAT.out.below hb02 HBB.out)
  clear hb2 hg2 hb02 HPL b2 s4
  rcases findA_cases x.attrs e.name with ⟨hf, _⟩ | ⟨i, a, hf, ha, _⟩
  · have HR := Lib.hid (show atNote e x.attrs = ⟨e, false, ⟨#[]⟩, 0, 0⟩ by unfold atNote; rw [if_neg (by omega)])
    rw [hf]
    clear hf hs2
    go_wp2_with fail
    refine bodyPost_end (results_none rfl _ _ _) rfl ⟨rfl, HG2.out, by rw [HR.out]; exact HS2.out⟩
  · have HR := Lib.hid (show atNote e x.attrs = ⟨e, true, a.2, 0, i⟩ by unfold atNote; rw [if_pos (by omega), hf, Int.toNat_natCast, ha]; rfl)
    obtain ⟨bb, oo, rfl, _, _, ca2, _, _⟩ := da_cells HA2.out ha
    have hcap := HA2.out.hc
    have hil : i < na := by have := HA2.out.hn; have := (List.getElem?_eq_some_iff.1 ha).1; omega
    have i1 : (0 : Int) ≤ (i : Int) := by omega
    have i2 : (i : Int) < (na : Int) := by omega
    have c12 := cell_blk (i := 12) hs2 rfl
    have c13 := cell_blk (i := 13) hs2 rfl
    have c15 := cell_blk (i := 15) hs2 rfl
    have f12 := free_blk (i := 12) hs2
    have f13 := free_blk (i := 13) hs2
    have f15 := free_blk (i := 15) hs2
    rw [hf]
    clear hf hs2 ha
    go_wp2_with fail
    refine bodyPost_end (results_none rfl _ _ _) rfl ⟨rfl, grownBy.trans' (grownBy.trans' (grownBy.trans' HG2.out (grown_set _ _ _ _)) (grown_set _ _ _ _)) (grown_set _ _ _ _), ?_⟩
    rw [HR.out]
    exact set_blk (set_blk (set_blk HS2.out _) _) _
end Go.Proofs.YtfeighclpaijoaaGreatDoor
