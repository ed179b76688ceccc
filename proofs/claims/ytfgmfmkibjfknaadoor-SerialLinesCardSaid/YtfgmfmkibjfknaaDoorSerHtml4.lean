/-
serial.HTML, whatever is asked.
-/
import Derived.Test.YtfgmfmkibjfknaaDoorSerLaw
import Derived.Test.YtfgmfmkibjfknaaDoorSerStr
namespace Go.Proofs.YtfgmfmkibjfknaaDoor
open Go.RowKit Go.Cl
attribute [local go_sem ↓] Go.wp_at_zero Go.wp_at_succ
set_option maxRecDepth 100000 in
set_option maxHeartbeats 8000000 in
theorem html_any (A : Option Addr) (n c : Nat) (l : List Nd) (q : Bool) (z : Int) (w : World) (B : Nat) (m : Int) (hl : Sl tNd w (lt B) A n c l) (hB : B ≤ w.heap.size) (hm : maxLenAt w m) :
    Calls Tryd.prog 30 #[.agg #[.slice A n c, .bool q], .int .i64 z] w fun e w' => e = .returned (.tuple #[.string ⟨(htmlR l z).1.toArray⟩, .int .i64 (htmlR l z).2]) ∧ Below w.heap.size w w' := by
  obtain ⟨w0, hw0⟩ : ∃ w0, w0 = w.alloc (.cells #[.slice A n c, .bool q] 24) := ⟨_, rfl⟩
  have hbx : w0.heap[w.heap.size]? = some (.cells #[.slice A n c, .bool q] 24 (0, 0)) := by rw [hw0]; exact heap_alloc_new w _
  have b0 : w0.cell? ⟨w.heap.size, 0, none⟩ = some (.slice A n c) := cell_blk hbx rfl
  have b1 : w0.cell? ⟨w.heap.size, 1, none⟩ = some (.bool q) := cell_blk hbx rfl
  have hb0 : Below w.heap.size w w0 := by rw [hw0]; exact (Below.refl _ _).alloc (Nat.le_refl _) _
  have HB0 := Lib.hid hb0
  have HBX := Lib.hid hbx
  have HN := Lib.hid hl.hn
  have HL := Lib.hid (hl.below hb0 hB)
  have HM : Hid (maxLenAt w m) := hm
  have HBW : Hid (B ≤ w.heap.size) := hB
  have HCH := Lib.hid (check_dom A n c l q w0 B (hl.below hb0 hB) (Nat.le_trans hB hb0.size))
  clear hb0 hbx hl hm hB
  go_enter Tryd.func30, Tryd.ntmps30
  go_upto_region 1 with fail
  rw [← hw0]
  clear hw0
  go_upto_region 2 with (go_at_call 22; refine HCH.out.mono ?_; rintro e w1 ⟨rfl, hb1⟩)
  have HB1 := Lib.hid (HB0.out.trans (hb1.mono HB0.out.size))
  have HL1 := Lib.hid ((HL.out.below hb1 (Nat.le_trans HBW.out HB0.out.size)))
  have hbx1 := (hb1.block _ (Array.getElem?_eq_some_iff.1 HBX.out).1).trans HBX.out
  have y0 : w1.cell? ⟨w.heap.size, 0, none⟩ = some (.slice A n c) := cell_blk hbx1 rfl
  have y1 : w1.cell? ⟨w.heap.size, 1, none⟩ = some (.bool q) := cell_blk hbx1 rfl
  clear hb1 hbx1 b0 b1
  by_cases hce : checkD l = 0
  · by_cases hm : z < 0 ∨ (n : Int) ≤ z
    · have HR := Lib.hid (show htmlR l z = ([], 1) from by unfold htmlR; rw [if_neg (by rw [hce]; simp), if_pos (by have := HN.out; omega)])
      rw [hce]
      rcases hm with hm | hm
      · go_wp2_with fail
        refine bodyPost_ret (v := .tuple #[.string ⟨#[]⟩, .int .i64 1]) (by simp [results, Tryd.results30, go_sem]) rfl ⟨by rw [HR.out], HB1.out⟩
      · by_cases hm0 : z < 0
        · go_wp2_with fail
          refine bodyPost_ret (v := .tuple #[.string ⟨#[]⟩, .int .i64 1]) (by simp [results, Tryd.results30, go_sem]) rfl ⟨by rw [HR.out], HB1.out⟩
        · go_wp2_with fail
          refine bodyPost_ret (v := .tuple #[.string ⟨#[]⟩, .int .i64 1]) (by simp [results, Tryd.results30, go_sem]) rfl ⟨by rw [HR.out], HB1.out⟩
    · have i1 : (0 : Int) ≤ z := by omega
      have i2 : z < (n : Int) := by omega
      obtain ⟨k, rfl⟩ : ∃ k : Nat, z = (k : Int) := ⟨z.toNat, by omega⟩
      have HKL : Hid (k < l.length) := by have := HN.out; show k < l.length; omega
      have HR := Lib.hid (show htmlR l (k : Int) = (htmlN l (41 - upN l (k : Int)) k, 0) from by unfold htmlR; rw [if_neg (by rw [hce]; simp), if_neg (by have := HN.out; omega)])
      have HG := Lib.hid (good_of hce)
      have HT := Lib.hid (tree_of hce)
      rw [hce]
      clear hce hm
      obtain ⟨b, o, rfl, hd⟩ := doc_at HL1.out (by omega)
      have HD := Lib.hid hd
      clear hd
      go_upto_region 7 with fail
      obtain ⟨w2, hw2⟩ : ∃ w2, w2 = w1.alloc (.cells #[.pointer none, .slice none 0 0, .slice (some ⟨b, o, none⟩) n c, .bool q] 117) := ⟨_, rfl⟩
      have hb12 : Below w1.heap.size w1 w2 := by rw [hw2]; exact (Below.refl _ _).alloc (Nat.le_refl _) _
      have hx2 : w2.heap[w1.heap.size]? = some (.cells #[.pointer none, .slice none 0 0, .slice (some ⟨b, o, none⟩) n c, .bool q] 117 (0, 0)) := by rw [hw2]; exact heap_alloc_new w1 _
      have HB2 := Lib.hid (HB1.out.trans (hb12.mono HB1.out.size))
      have HW2 : Hid (WrAt w2 w1.heap.size w.heap.size (some ⟨b, o, none⟩) n c q []) := ⟨HB1.out.size, _, _, hx2, Or.inl rfl, World.ownsRow_nil _ _ _ _⟩
      have HE2 : Hid (SEnv w2 w.heap.size m b o n l) := by
        have hlow := World.block_lt_of_cell? _ _ HM.out
        exact ⟨(HD.out.below hb12 (Nat.le_trans HBW.out HB1.out.size)).more HBW.out, (HB2.out.cell (p := ⟨0, 0, none⟩) hlow).trans HM.out, hlow, HB2.out.size⟩
      rw [← hw2]
      clear hw2 hb12 hx2 y0 y1
      have HC := Lib.hid (wnode_any HT.out (nok_good HG.out) m b o n c q w.heap.size w1.heap.size (41 - upN l (k : Int)) k [] w2 HKL.out (by have := (HT.out.deep k HKL.out).1; omega) HE2.out HW2.out (by have := html_small HG.out HKL.out; simp only [List.length_nil]; omega))
      go_upto_region 8 with (go_at_call 58; refine HC.out.mono ?_; rintro e' w3 ⟨rfl, hw3, hb3, _⟩)
      have HC2 := Lib.hid (strW _ _ _ _ _ _ _ w3 hw3 (Nat.le_trans HE2.out.le hb3.size))
      have HB3 := Lib.hid (HB2.out.trans hb3)
      obtain ⟨pp, vv, hx3, _, _⟩ := hw3.box
      have hsz3 := (Array.getElem?_eq_some_iff.1 hx3).1
      clear hw3 hb3 HC
      go_wp2_with (go_at_call 49; refine HC2.out.mono ?_; rintro e' w4 ⟨rfl, hb4⟩)
      refine bodyPost_ret (v := .tuple #[.string ⟨(htmlN l (41 - upN l (k : Int)) k).toArray⟩, .int .i64 0]) (by simp [results, Tryd.results30, go_sem]) rfl ⟨by rw [HR.out], HB3.out.trans hb4⟩
  · have HR := Lib.hid (show htmlR l z = ([], checkD l) from by unfold htmlR; rw [if_pos hce])
    have hce1 : (checkD l == 0) = false := by simpa using hce
    generalize checkD l = e0 at *
    clear hce
    go_wp2_with fail
    refine bodyPost_ret (v := .tuple #[.string ⟨#[]⟩, .int .i64 e0]) (by simp [results, Tryd.results30, go_sem]) rfl ⟨by rw [HR.out], HB1.out⟩
end Go.Proofs.YtfgmfmkibjfknaaDoor
