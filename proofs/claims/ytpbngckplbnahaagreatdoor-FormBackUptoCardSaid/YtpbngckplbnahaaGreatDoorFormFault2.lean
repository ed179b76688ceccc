/-
Forms: the walk of Fault, where no bound is set: the whole.
-/
import Derived.Test.YtpbngckplbnahaaGreatDoorFormFault
namespace Go.Proofs.YtpbngckplbnahaaGreatDoor
open Go.RowKit Go.Cl
attribute [local go_sem ↓] Go.wp_at_zero Go.wp_at_succ
set_option maxRecDepth 100000 in
set_option maxHeartbeats 8000000 in
/-- Fault, where no bound is set and it is no number. -/
theorem fault_no (A : Option Addr) (n c : Nat) (l : List Nd) (q : Bool) {i : Nat} (w : World) (B : Nat) (hl : Sl tNd w (lt B) A n c l) (hB : B ≤ w.heap.size) (hE : Env w) (hc : ctrlE l i (⟨#[32, 105, 110, 112, 117, 116, 32, 116, 101, 120, 116, 97, 114, 101, 97, 32, 115, 101, 108, 101, 99, 116, 32, 98, 117, 116, 116, 111, 110, 32]⟩ : ByteArray) = 0)
    (h1 : attrF l i (⟨#[109, 97, 120, 108, 101, 110, 103, 116, 104]⟩ : ByteArray) = ⟨#[]⟩) (h2 : attrF l i (⟨#[109, 105, 110, 108, 101, 110, 103, 116, 104]⟩ : ByteArray) = ⟨#[]⟩) (h3 : ((kindF l i).toList == ([110, 117, 109, 98, 101, 114] : List UInt8)) = false) :
    Calls Tryz.prog 11 #[.agg #[.slice A n c, .bool q], .int .i64 (i : Int)] w fun e w' => e = .returned (.tuple #[.int .i64 (if missF l (preR l 0) i then 1 else 0), .int .i64 0]) ∧ Below w.heap.size w w' := by
  obtain ⟨hck, j, hj, hi⟩ := ctrl_zero hc
  obtain rfl : i = j := by omega
  have T := tree_of hck
  have G := good_of hck
  have hK : Known l (preR l 0) := fun x hx => by obtain ⟨y, e, hy, _⟩ := T.all_chain.2.2 x hx; exact ⟨y, e, hy⟩
  obtain ⟨wa, hwa⟩ : ∃ wa, wa = w.alloc (.cells #[.slice A n c, .bool q] 29) := ⟨_, rfl⟩
  have hxd : wa.heap[w.heap.size]? = some (.cells #[.slice A n c, .bool q] 29 (0, 0)) := by rw [hwa]; exact heap_alloc_new w _
  have hba : Below w.heap.size w wa := by rw [hwa]; exact balloc (Below.refl _ _) _
  have x0 := cell_blk (i := 0) hxd rfl
  have x1 := cell_blk (i := 1) hxd rfl
  have HBA := Lib.hid hba
  have HCT := Lib.hid (control_f A n c l q (i : Int) (⟨#[32, 105, 110, 112, 117, 116, 32, 116, 101, 120, 116, 97, 114, 101, 97, 32, 115, 101, 108, 101, 99, 116, 32, 98, 117, 116, 116, 111, 110, 32]⟩ : ByteArray) wa B (hl.below hba hB) (Nat.le_trans hB hba.size) (hE.below hba) (by decide) (WalkArith.wf_i64 (by have := T.small; omega)))
  have HC := Lib.hid hc
  have HH1 := Lib.hid h1
  have HH2 := Lib.hid h2
  have HH3 := Lib.hid h3
  have HT := Lib.hid T
  have HG := Lib.hid G
  have HK := Lib.hid hK
  have HI : Hid (i < l.length) := hi
  have HVS := Lib.hid (valueF_small T G hi)
  clear hl hB hE hc h1 h2 h3 hck hj hi T G hK hba hxd
  obtain ⟨r, hr⟩ : ∃ r, missF l (preR l 0) (i : Int) = r := ⟨_, rfl⟩
  rw [hr]
  have HRR := Lib.hid hr
  clear hr
  go_enter Tryz.func11, Tryz.ntmps11
  go_upto_region 1 with fail
  rw [← hwa]
  clear hwa
  go_upto_region 4 with (go_at_call 25; refine HCT.out.mono ?_; rintro e w1 ⟨hb1, F, rfl, hF1, hF2, hfm⟩; rw [HC.out])
  obtain ⟨Bf, O, m, k, hfm⟩ := hfm HC.out
  have HB1 := Lib.hid hb1
  have HF1 := Lib.hid hfm
  have HV1 := Lib.hid (value_f HT.out HG.out hfm HI.out)
  clear hb1 hF1 hF2 hfm HCT x0 x1
  generalize valueF l (i : Int) = vl at *
  go_upto_region 5 with (first | (go_at_call 34; refine HV1.out.mono ?_; rintro e w2 ⟨rfl, hb2⟩; have HB2 := Lib.hid hb2; clear hb2) | (go_at_call 33; refine (decode_any vl _ (by have := HVS.out; omega)).mono ?_; rintro e w3 ⟨v3, rfl, ho3, hb3⟩; obtain ⟨A3, c3, e3⟩ := Cl.Own.form ho3; subst e3; have HB3 := Lib.hid (bst HB2.out hb3); clear ho3 hb3))
  generalize (signsL 0 vl.data.toList).length = many at *
  obtain ⟨w4, hw4⟩ : ∃ w4, w4 = w3.alloc (.cells #[.int .i64 (many : Int)] 3) := ⟨_, rfl⟩
  have hx4 : w4.heap[w3.heap.size]? = some (.cells #[.int .i64 (many : Int)] 3 (0, 0)) := by rw [hw4]; exact heap_alloc_new w3 _
  have hb4 : Below w1.heap.size w1 w4 := by rw [hw4]; exact balloc HB3.out _
  have HB4 := Lib.hid hb4
  have HM4 := Lib.hid (fun V (hV : Below w4.heap.size w4 V) => cell_be (cell_blk (i := 0) hx4 rfl) hV)
  have HMI := Lib.hid (miss_f HT.out HG.out (HF1.out.below hb4) HK.out HI.out)
  have HBD1 := Lib.hid (fun V (hV : Below w4.heap.size w4 V) => bound_no ((HF1.out.below HB4.out).below hV) HI.out (⟨#[109, 97, 120, 108, 101, 110, 103, 116, 104]⟩ : ByteArray) HH1.out)
  have HBD2 := Lib.hid (fun V (hV : Below w4.heap.size w4 V) => bound_no ((HF1.out.below HB4.out).below hV) HI.out (⟨#[109, 105, 110, 108, 101, 110, 103, 116, 104]⟩ : ByteArray) HH2.out)
  have HWR := Lib.hid (fun V (hV : Below w4.heap.size w4 V) => wrong_no HG.out ((HF1.out.below HB4.out).below hV) HI.out HH3.out)
  rw [← hw4]
  rw [HRR.out] at HMI
  clear hw4 hx4 hb4
  cases r with
  | true =>
    go_wp2_with (go_at_call 35; refine HMI.out.mono ?_; rintro e w5 ⟨rfl, hb5⟩)
    go_ret2
    exact ⟨rfl, bst HBA.out (bst HB1.out (bst HB4.out hb5))⟩
  | false =>
    go_upto_region 9 with (first | (go_at_call 35; refine HMI.out.mono ?_; rintro e w5 ⟨rfl, hb5⟩; have HB5 := Lib.hid hb5; clear hb5) | (go_at_call 36; refine (HBD1.out w5 HB5.out _ _).mono ?_; rintro e w6 ⟨rfl, hb6⟩; have HB6 := Lib.hid (bst HB5.out hb6); have m6 := HM4.out w6 (bst HB5.out hb6); clear hb6))
    by_cases hm : 0 < many
    · have t1 : decide (0 < many) = true := decide_eq_true hm
      go_wp2_with (first | (go_at_call 36; refine (HBD2.out w6 HB6.out _ _).mono ?_; rintro e w7 ⟨rfl, hb7⟩; have HB7 := Lib.hid (bst HB6.out hb7); clear hb7) | (go_at_call 39; refine (HWR.out _ HB7.out).mono ?_; rintro e w8 ⟨rfl, hb8⟩))
      go_ret2
      exact ⟨rfl, bst HBA.out (bst HB1.out (bst HB4.out (bst HB7.out hb8)))⟩
    · have t1 : decide (0 < many) = false := decide_eq_false hm
      go_wp2_with (go_at_call 39; refine (HWR.out _ HB6.out).mono ?_; rintro e w8 ⟨rfl, hb8⟩)
      go_ret2
      exact ⟨rfl, bst HBA.out (bst HB1.out (bst HB4.out (bst HB6.out hb8)))⟩
end Go.Proofs.YtpbngckplbnahaaGreatDoor
