/-
Forms: the walk of formBegun; of Owner; dom.Attr of an element.
-/
import Derived.Test.YtpbngckplbnahaaGreatDoorFormEnts
import Derived.Test.YtpbngckplbnahaaGreatDoorFormFault2
namespace Go.Proofs.YtpbngckplbnahaaGreatDoor
open Go.RowKit Go.Cl
attribute [local go_sem ↓] Go.wp_at_zero Go.wp_at_succ

def begunF : List Nd := [⟨1, ⟨#[]⟩, [], ⟨#[]⟩, -1, [1]⟩, ⟨2, (⟨#[102, 111, 114, 109]⟩ : ByteArray), [], ⟨#[]⟩, 0, [2]⟩, ⟨2, (⟨#[105, 110, 112, 117, 116]⟩ : ByteArray), [((⟨#[110, 97, 109, 101]⟩ : ByteArray), (⟨#[97]⟩ : ByteArray)), ((⟨#[114, 101, 113, 117, 105, 114, 101, 100]⟩ : ByteArray), ⟨#[]⟩)], ⟨#[]⟩, 1, []⟩]
theorem begun_f : entR begunF 1 = ([((⟨#[97]⟩ : ByteArray), ⟨#[]⟩)], 0) ∧ ctrlE begunF 2 (⟨#[32, 105, 110, 112, 117, 116, 32, 116, 101, 120, 116, 97, 114, 101, 97, 32, 115, 101, 108, 101, 99, 116, 32, 98, 117, 116, 116, 111, 110, 32]⟩ : ByteArray) = 0 ∧ attrF begunF 2 (⟨#[109, 97, 120, 108, 101, 110, 103, 116, 104]⟩ : ByteArray) = ⟨#[]⟩ ∧ attrF begunF 2 (⟨#[109, 105, 110, 108, 101, 110, 103, 116, 104]⟩ : ByteArray) = ⟨#[]⟩ ∧ ((kindF begunF 2).toList == ([110, 117, 109, 98, 101, 114] : List UInt8)) = false ∧ missF begunF (preR begunF 0) 2 = true := by decide +kernel
set_option maxRecDepth 100000 in
set_option maxHeartbeats 8000000 in
theorem formBegun_any (w : World) (hE : Env w) : Calls Tryz.prog 12 #[] w fun e w' => e = .returned (.bool true) ∧ Below w.heap.size w w' := by
  obtain ⟨w1, hw1⟩ : ∃ w1, w1 = w.alloc (.cells #[.int .i64 1] 3) := ⟨_, rfl⟩
  have z1 : w1.heap.size = w.heap.size + 1 := by rw [hw1]; exact World.size_alloc w _
  obtain ⟨w2, hw2⟩ : ∃ w2, w2 = w1.alloc (.cells #[.int .i64 2] 3) := ⟨_, rfl⟩
  have z2 : w2.heap.size = w.heap.size + 1 + 1 := by rw [hw2, World.size_alloc, z1]
  obtain ⟨w3, hw3⟩ : ∃ w3, w3 = w2.alloc (.cells #[.string (⟨#[110, 97, 109, 101]⟩ : ByteArray), .string (⟨#[97]⟩ : ByteArray), .string (⟨#[114, 101, 113, 117, 105, 114, 101, 100]⟩ : ByteArray), .string ⟨#[]⟩] 31) := ⟨_, rfl⟩
  have z3 : w3.heap.size = w.heap.size + 1 + 1 + 1 := by rw [hw3, World.size_alloc, z2]
  obtain ⟨w4, hw4⟩ : ∃ w4, w4 = w3.alloc (.cells #[.int .i64 1, .string ⟨#[]⟩, .slice none 0 0, .string ⟨#[]⟩, .int .i64 (-1), .slice (some ⟨w.heap.size, 0, none⟩) 1 1, .int .i64 2, .string (⟨#[102, 111, 114, 109]⟩ : ByteArray), .slice none 0 0, .string ⟨#[]⟩, .int .i64 0, .slice (some ⟨w.heap.size + 1, 0, none⟩) 1 1, .int .i64 2, .string (⟨#[105, 110, 112, 117, 116]⟩ : ByteArray), .slice (some ⟨w.heap.size + 1 + 1, 0, none⟩) 2 2, .string ⟨#[]⟩, .int .i64 1, .slice none 0 0] 26) := ⟨_, rfl⟩
  have z4 : w4.heap.size = w.heap.size + 1 + 1 + 1 + 1 := by rw [hw4, World.size_alloc, z3]
  obtain ⟨w5, hw5⟩ : ∃ w5, w5 = w4.alloc (.cells #[.slice (some ⟨w.heap.size + 1 + 1 + 1, 0, none⟩) 3 3, .bool false] 29) := ⟨_, rfl⟩
  have hs1 : Sl (tInt .i64) w1 (lt w1.heap.size) (some ⟨w.heap.size, 0, none⟩) 1 1 [1] := by rw [z1, hw1]; exact ints_one (by decide)
  have hs2 : Sl (tInt .i64) w2 (lt w2.heap.size) (some ⟨w.heap.size + 1, 0, none⟩) 1 1 [2] := by
    have h := ints_one (w := w1) (x := 2) (by decide)
    rw [hw2, World.size_alloc, ← z1]
    exact h
  have hsa : Sl tDA w3 (lt w3.heap.size) (some ⟨w.heap.size + 1 + 1, 0, none⟩) 2 2 [((⟨#[110, 97, 109, 101]⟩ : ByteArray), (⟨#[97]⟩ : ByteArray)), ((⟨#[114, 101, 113, 117, 105, 114, 101, 100]⟩ : ByteArray), ⟨#[]⟩)] := by
    have h := Sl.fresh (n := 2) (w := w2) (B := w2.heap.size) 31 (T := tDA) (xs := [((⟨#[110, 97, 109, 101]⟩ : ByteArray), (⟨#[97]⟩ : ByteArray)), ((⟨#[114, 101, 113, 117, 105, 114, 101, 100]⟩ : ByteArray), ⟨#[]⟩)]) ⟨[.string (⟨#[110, 97, 109, 101]⟩ : ByteArray), .string (⟨#[97]⟩ : ByteArray)], _, rfl, ⟨[_], [_], rfl, ⟨rfl, by decide⟩, rfl, by decide⟩, [.string (⟨#[114, 101, 113, 117, 105, 114, 101, 100]⟩ : ByteArray), .string ⟨#[]⟩], [], rfl, ⟨[_], [_], rfl, ⟨rfl, by decide⟩, rfl, by decide⟩, rfl⟩ (Nat.le_refl _) rfl (by decide)
    rw [z3, hw3, ← z2]
    exact h
  have hb13 : Below w1.heap.size w1 w3 := by rw [hw3, hw2]; exact balloc (balloc (Below.refl _ _) _) _
  have hb23 : Below w2.heap.size w2 w3 := by rw [hw3]; exact balloc (Below.refl _ _) _
  have hs4 : Sl tNd w4 (lt (w.heap.size + 1 + 1 + 1 + 1)) (some ⟨w.heap.size + 1 + 1 + 1, 0, none⟩) 3 3 begunF := by
    have h := Sl.fresh (n := 3) (w := w3) (B := w3.heap.size) 26 (T := tNd) (xs := begunF) ⟨ndCells ⟨1, ⟨#[]⟩, [], ⟨#[]⟩, -1, [1]⟩ none 0 0 (some ⟨w.heap.size, 0, none⟩) 1 1, _, rfl, nd_rep ⟨Sl.nil, (hs1.below hb13 (Nat.le_refl _)).up (by omega), by decide, by decide, by decide, by decide⟩, ndCells ⟨2, (⟨#[102, 111, 114, 109]⟩ : ByteArray), [], ⟨#[]⟩, 0, [2]⟩ none 0 0 (some ⟨w.heap.size + 1, 0, none⟩) 1 1, _, rfl, nd_rep ⟨Sl.nil, (hs2.below hb23 (Nat.le_refl _)).up (by omega), by decide, by decide, by decide, by decide⟩, ndCells ⟨2, (⟨#[105, 110, 112, 117, 116]⟩ : ByteArray), [((⟨#[110, 97, 109, 101]⟩ : ByteArray), (⟨#[97]⟩ : ByteArray)), ((⟨#[114, 101, 113, 117, 105, 114, 101, 100]⟩ : ByteArray), ⟨#[]⟩)], ⟨#[]⟩, 1, []⟩ (some ⟨w.heap.size + 1 + 1, 0, none⟩) 2 2 none 0 0, [], rfl, nd_rep ⟨hsa, Sl.nil, by decide, by decide, by decide, by decide⟩, rfl⟩ (Nat.le_refl _) rfl (by decide)
    rw [hw4, ← z3]
    exact h
  have hb04 : Below w.heap.size w w4 := by rw [hw4, hw3, hw2, hw1]; exact balloc (balloc (balloc (balloc (Below.refl _ _) _) _) _) _
  have hb45 : Below w4.heap.size w4 w5 := by rw [hw5]; exact balloc (Below.refl _ _) _
  have hb05 := bst hb04 hb45
  have hx5 : w5.heap[w.heap.size + 1 + 1 + 1 + 1]? = some (.cells #[.slice (some ⟨w.heap.size + 1 + 1 + 1, 0, none⟩) 3 3, .bool false] 29 (0, 0)) := by rw [hw5, ← z4]; exact heap_alloc_new w4 _
  have hs5 := hs4.below hb45 (by omega)
  have hz5 : w.heap.size + 1 + 1 + 1 + 1 ≤ w5.heap.size := by rw [← z4]; exact hb45.size
  obtain ⟨l1, l2, l3, l4, l5, l6⟩ := begun_f
  have HEN := Lib.hid ((entries_any (some ⟨w.heap.size + 1 + 1 + 1, 0, none⟩) 3 3 begunF false 1 w5 _ hs5 hz5 (hE.below hb05) (by decide)).mono (R' := fun e w' => Below w5.heap.size w5 w' ∧ ∃ g o c, e = .returned (.tuple #[.slice (some ⟨g, o, none⟩) 1 c, .int .i64 0]) ∧ w'.cell? ⟨g, o, none⟩ = some (.string (⟨#[97]⟩ : ByteArray))) fun e w' h => ⟨h.1, by
    obtain ⟨_, v, rfl, ho⟩ := h.2.resolve_left fun h => h.1 (by rw [l1])
    rw [l1] at ho
    obtain ⟨A, c, e, hs⟩ := OwnF.sl ho (by decide) (by decide)
    subst e
    obtain ⟨b2, o2, e2, _, c1, _⟩ := da_get hs (i := 0) (a := ((⟨#[97]⟩ : ByteArray), ⟨#[]⟩)) rfl
    subst e2
    exact ⟨b2, o2, c, rfl, c1⟩⟩)
  have HFT : Hid (∀ V, Below w5.heap.size w5 V → Calls Tryz.prog 11 #[.agg #[.slice (some ⟨w.heap.size + 1 + 1 + 1, 0, none⟩) 3 3, .bool false], .int .i64 2] V fun e w' => e = .returned (.tuple #[.int .i64 1, .int .i64 0]) ∧ Below V.heap.size V w') := fun V hV => by
    have h := fault_no (some ⟨w.heap.size + 1 + 1 + 1, 0, none⟩) 3 3 begunF false (i := 2) V _ (hs5.below hV hz5) (Nat.le_trans hz5 hV.size) (hE.below (bst hb05 hV)) l2 l3 l4 l5
    rw [show missF begunF (preR begunF 0) ((2 : Nat) : Int) = true from l6] at h
    exact h
  have HB5 := Lib.hid hb05
  have HX5 := Lib.hid (fun V (hV : Below w5.heap.size w5 V) => And.intro (cell_be (cell_blk (i := 0) hx5 rfl) hV) (cell_be (cell_blk (i := 1) hx5 rfl) hV))
  clear z1 z2 z3 z4 hs1 hs2 hb13 hb23 hsa hs4 hb04 hb45 hb05 hx5 hs5 hz5 l1 l2 l3 l4 l5 l6 hE
  go_enter Tryz.func12, Tryz.ntmps12
  go_upto_region 2 with fail
  rw [← hw1, ← hw2, ← hw3, ← hw4, ← hw5]
  clear hw1 hw2 hw3 hw4 hw5
  have x5 := HX5.out w5 (Below.refl _ _)
  go_upto_region 3 with (go_at_call 10; refine HEN.out.mono ?_; rintro e w6 ⟨hb6, g, o, c, rfl, c1⟩; have x6 := HX5.out w6 hb6; have HB6 := Lib.hid hb6; have HC1 := Lib.hid c1; clear hb6 c1 x5)
  go_upto_region 4 with (go_at_call 11; refine (HFT.out w6 HB6.out).mono ?_; rintro e w7 ⟨rfl, hb7⟩; have y1 := cell_be HC1.out hb7; have HB7 := Lib.hid (bst HB6.out hb7); clear hb7 x6)
  go_wp2_with fail
  go_ret
  exact ⟨rfl, bst HB5.out HB7.out⟩
end Go.Proofs.YtpbngckplbnahaaGreatDoor
