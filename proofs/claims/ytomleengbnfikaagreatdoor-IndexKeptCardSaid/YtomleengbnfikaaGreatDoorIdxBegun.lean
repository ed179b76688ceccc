/-
The walk of indexBegun; dom.Attr of an element.
-/
import Derived.Test.YtomleengbnfikaaGreatDoorIdxOf
namespace Go.Proofs.YtomleengbnfikaaGreatDoor
open Go.RowKit Go.Cl
attribute [local go_sem ↓] Go.wp_at_zero Go.wp_at_succ

def begunI : List Nd := [⟨1, ⟨#[]⟩, [], ⟨#[]⟩, -1, [1]⟩, ⟨2, (⟨#[112]⟩ : ByteArray), [((⟨#[99, 108, 97, 115, 115]⟩ : ByteArray), (⟨#[98, 32, 97]⟩ : ByteArray))], ⟨#[]⟩, 0, []⟩]
def begunL : Nat → List Ref := anTo (rkF (preR begunI 0) (preR begunI 0).length) begunI (preR begunI 0) (preR begunI 0).length
theorem begun_idx : checkD begunI = 0 ∧ begunL 1 = [((⟨#[97]⟩ : ByteArray), [1]), ((⟨#[98]⟩ : ByteArray), [1])] ∧ begunL 2 = [((⟨#[112]⟩ : ByteArray), [1])] := by decide +kernel
set_option maxRecDepth 100000 in
set_option maxHeartbeats 4000000 in
theorem indexBegun_any (w : World) : Calls Tryz.prog 6 #[] w fun e w' => e = .returned (.bool true) ∧ Below w.heap.size w w' := by
  obtain ⟨w1, hw1⟩ : ∃ w1, w1 = w.alloc (.cells #[.int .i64 1] 3) := ⟨_, rfl⟩
  have z1 : w1.heap.size = w.heap.size + 1 := by rw [hw1]; exact World.size_alloc w _
  obtain ⟨w2, hw2⟩ : ∃ w2, w2 = w1.alloc (.cells #[.string (⟨#[99, 108, 97, 115, 115]⟩ : ByteArray), .string (⟨#[98, 32, 97]⟩ : ByteArray)] 48) := ⟨_, rfl⟩
  have z2 : w2.heap.size = w.heap.size + 1 + 1 := by rw [hw2, World.size_alloc, z1]
  obtain ⟨w3, hw3⟩ : ∃ w3, w3 = w2.alloc (.cells #[.int .i64 1, .string ⟨#[]⟩, .slice none 0 0, .string ⟨#[]⟩, .int .i64 (-1), .slice (some ⟨w.heap.size, 0, none⟩) 1 1, .int .i64 2, .string (⟨#[112]⟩ : ByteArray), .slice (some ⟨w.heap.size + 1, 0, none⟩) 1 1, .string ⟨#[]⟩, .int .i64 0, .slice none 0 0] 39) := ⟨_, rfl⟩
  have z3 : w3.heap.size = w.heap.size + 1 + 1 + 1 := by rw [hw3, World.size_alloc, z2]
  obtain ⟨w4, hw4⟩ : ∃ w4, w4 = w3.alloc (.cells #[.slice (some ⟨w.heap.size + 1 + 1, 0, none⟩) 2 2, .bool false] 24) := ⟨_, rfl⟩
  have hs1 : Sl (tInt .i64) w1 (lt w1.heap.size) (some ⟨w.heap.size, 0, none⟩) 1 1 [1] := by rw [z1, hw1]; exact ints_one (by decide)
  have hb12 : Below w1.heap.size w1 w2 := by rw [hw2]; exact (Below.refl _ _).alloc (Nat.le_refl _) _
  have hsa : Sl tDA w2 (lt w2.heap.size) (some ⟨w.heap.size + 1, 0, none⟩) 1 1 [((⟨#[99, 108, 97, 115, 115]⟩ : ByteArray), (⟨#[98, 32, 97]⟩ : ByteArray))] := by
    have h := Sl.one_new (T := tDA) (flatPair flatStr flatStr) w1 48 (x := ((⟨#[99, 108, 97, 115, 115]⟩ : ByteArray), (⟨#[98, 32, 97]⟩ : ByteArray))) (cs := [.string (⟨#[99, 108, 97, 115, 115]⟩ : ByteArray), .string (⟨#[98, 32, 97]⟩ : ByteArray)]) ⟨[_], [_], rfl, ⟨rfl, by decide⟩, rfl, by decide⟩ (by decide)
    rw [hw2, ← z1, World.size_alloc]
    exact h
  have hs3 : Sl tNd w3 (lt (w.heap.size + 1 + 1 + 1)) (some ⟨w.heap.size + 1 + 1, 0, none⟩) 2 2 begunI := by
    have h := Sl.fresh (n := 2) (w := w2) (B := w2.heap.size) 39 (T := tNd) (xs := begunI) ⟨ndCells ⟨1, ⟨#[]⟩, [], ⟨#[]⟩, -1, [1]⟩ none 0 0 (some ⟨w.heap.size, 0, none⟩) 1 1, _, rfl, nd_rep ⟨Sl.nil, (hs1.below hb12 (Nat.le_refl _)).up (by omega), by decide, by decide, by decide, by decide⟩, ndCells ⟨2, (⟨#[112]⟩ : ByteArray), [((⟨#[99, 108, 97, 115, 115]⟩ : ByteArray), (⟨#[98, 32, 97]⟩ : ByteArray))], ⟨#[]⟩, 0, []⟩ (some ⟨w.heap.size + 1, 0, none⟩) 1 1 none 0 0, [], rfl, nd_rep ⟨hsa, Sl.nil, by decide, by decide, by decide, by decide⟩, rfl⟩ (Nat.le_refl _) rfl (by decide)
    rw [hw3, ← z2]
    exact h
  have hb03 : Below w.heap.size w w3 := by rw [hw3, hw2, hw1]; exact balloc (balloc (balloc (Below.refl _ _) _) _) _
  have hb34 : Below w3.heap.size w3 w4 := by rw [hw4]; exact (Below.refl _ _).alloc (Nat.le_refl _) _
  have hb04 := bstep hb03 hb34
  have hx4 : w4.heap[w.heap.size + 1 + 1 + 1]? = some (.cells #[.slice (some ⟨w.heap.size + 1 + 1, 0, none⟩) 2 2, .bool false] 24 (0, 0)) := by rw [hw4, ← z3]; exact heap_alloc_new w3 _
  have hs4 := hs3.below hb34 (by omega)
  have hz4 : w.heap.size + 1 + 1 + 1 ≤ w4.heap.size := by rw [← z3]; exact hb34.size
  obtain ⟨l1, l2, l3⟩ := begun_idx
  have HOF := Lib.hid ((indexOf_any (some ⟨w.heap.size + 1 + 1, 0, none⟩) 2 2 begunI false w4 _ hs4 hz4).mono (R' := fun e w' => Below w4.heap.size w4 w' ∧ ∃ base K M rk V P, KpAt w' base K M rk begunL V P ∧ e = .returned (.tuple #[.agg #[V 0, V 1, V 2, V 3], .int .i64 0])) fun e w' h => ⟨h.1, by
    obtain ⟨_, base, K, M, rk, V, P, _, h2, h3⟩ := h.2.resolve_left fun h => h.1 l1
    exact ⟨base, K, M, rk, V, P, h2, h3⟩⟩)
  have HB4 := Lib.hid hb04
  have HL2 := Lib.hid l2
  have HL3 := Lib.hid l3
  have d0 := cell_blk (i := 0) hx4 rfl
  have d1 := cell_blk (i := 1) hx4 rfl
  clear z1 z2 z3 hs1 hb12 hsa hs3 hb03 hb34 hb04 hx4 hs4 hz4 l1 l2 l3
  go_enter Tryz.func6, Tryz.ntmps6
  go_upto_region 2 with fail
  rw [← hw1, ← hw2, ← hw3, ← hw4]
  clear hw1 hw2 hw3 hw4
  go_upto_region 3 with (go_at_call 5; refine HOF.out.mono ?_; rintro e w5 ⟨hb5, base, K, M, rk, V, P, hkp, rfl⟩; obtain ⟨A0, m0, h0'⟩ := Own.form (hkp.lists 0 (by decide)).row; obtain ⟨g1, m1, h1', hg1, hl1, hc1, _, hcl1⟩ := (hkp.lists 1 (by decide)).where_ (by rw [HL2.out]; decide); obtain ⟨g2, m2, h2', hg2, hl2, hc2, _, hcl2⟩ := (hkp.lists 2 (by decide)).where_ (by rw [HL3.out]; decide); obtain ⟨A3, m3, h3'⟩ := Own.form (hkp.lists 3 (by decide)).row; rw [HL2.out] at h1'; rw [HL3.out] at h2'; rw [h0', h1', h2', h3'])
  obtain ⟨p1, hp1, _⟩ := (hkp.lists 1 (by decide)).part_at (i := 0) (r := ((⟨#[97]⟩ : ByteArray), [1])) (by rw [HL2.out]; rfl)
  obtain ⟨p2, hp2, _⟩ := (hkp.lists 2 (by decide)).part_at (i := 0) (r := ((⟨#[112]⟩ : ByteArray), [1])) (by rw [HL3.out]; rfl)
  have c1 := (hcl1 0 _ p1 (by rw [HL2.out]; rfl) hp1).1
  have c2 := (hcl2 0 _ p2 (by rw [HL3.out]; rfl) hp2).1
  rw [Nat.zero_mul] at c1 c2
  have c1' : ∀ o, (w5.alloc o).cell? ⟨g1, 0, none⟩ = some (.string (⟨#[97]⟩ : ByteArray)) := fun o => cell_al c1 o
  have c2' : ∀ o, (w5.alloc o).cell? ⟨g2, 0, none⟩ = some (.string (⟨#[112]⟩ : ByteArray)) := fun o => cell_al c2 o
  have HB5 := Lib.hid (HB4.out.trans (hb5.mono HB4.out.size))
  clear hcl1 hcl2 hp1 hp2 h0' h1' h2' h3' hkp hb5 hc1 hc2 c1 c2 d0 d1 HOF
  have HAL := Lib.hid (fun o => HB5.out.alloc HB5.out.size o)
  go_wp2_with fail
  go_ret
  exact ⟨rfl, HAL.out _⟩

/-! ### dom.Attr -/
end Go.Proofs.YtomleengbnfikaaGreatDoor
