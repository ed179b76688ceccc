/-
The shower's fits.
-/
import Derived.Test.YtbddnohbkafagaaGreatDoorTkS2
namespace Go.Proofs.YtbddnohbkafagaaGreatDoor
open Go.RowKit Go.Cl
attribute [local go_sem ↓] Go.wp_at_zero Go.wp_at_succ
/-- The shower in its box. -/
def ShM (w : World) (Y : Nat) (rw : ByteArray) (st : Int) (tb : Bool) : Prop := w.heap[Y]? = some (.cells #[.string rw, .int .i64 st, .bool tb] 41 (0, 0))
theorem ShM.lt {w : World} {Y : Nat} {rw : ByteArray} {st : Int} {tb : Bool} (h : ShM w Y rw st tb) : Y < w.heap.size := (Array.getElem?_eq_some_iff.1 h).1
theorem ShM.next {w w' : World} {Y : Nat} {rw : ByteArray} {st : Int} {tb : Bool} (h : ShM w Y rw st tb) (hb : Below w.heap.size w w') : ShM w' Y rw st tb := (hb.block Y h.lt).trans h
theorem noClose_iff {raw x : List UInt8} {st : Int} {tb : Bool} : noCloseB ⟨raw, st, tb⟩ x = true ↔ ∀ i, i < x.length → rawN raw = 1 → closesF raw ((x ++ [60, 47] ++ raw ++ [62]).drop i) = false := by
  unfold noCloseB
  rw [List.all_eq_true]
  constructor
  · intro h i hi hr
    have h1 := h i (List.mem_range.2 hi)
    rw [Bool.not_eq_true', Bool.and_eq_false_iff] at h1
    rcases h1 with h1 | h1
    · exact absurd hr (of_decide_eq_false h1)
    · exact h1
  · intro h i hi
    rw [Bool.not_eq_true', Bool.and_eq_false_iff]
    by_cases hr : rawN raw = 1
    · exact .inr (h i (List.mem_range.1 hi) hr)
    · exact .inl (decide_eq_false hr)
theorem noClose_no {raw x : List UInt8} {st : Int} {tb : Bool} {i : Nat} (hi : i < x.length) (hr : rawN raw = 1) (hc : closesF raw ((x ++ [60, 47] ++ raw ++ [62]).drop i) = true) : noCloseB ⟨raw, st, tb⟩ x = false := by
  cases h : noCloseB ⟨raw, st, tb⟩ x with
  | false => rfl
  | true =>
    rw [noClose_iff.1 h i hi hr] at hc
    cases hc
set_option maxRecDepth 100000 in
set_option maxHeartbeats 4000000 in
theorem tkFits_any (x : TkP) (A : Option Addr) (n c : Nat) (w : World) (Y : Nat) (rw : ByteArray) (st : Int) (tb : Bool) (hY : ShM w Y rw st tb) (hrz : rw.size ≤ 1000) (hra : ∀ b ∈ rw.data.toList, b.toNat < 128) (htx : x.1.text.size ≤ 1048576) (hT : FoldTabs w) :
    Calls Tryz.prog 14 #[.pointer (some ⟨Y, 0, none⟩), .agg (tokC x.1.kind x.1.name (.slice A n c) x.1.text x.1.self x.2.1 x.2.2)] w fun e w' => e = .returned (.bool (fitsB ⟨rw.data.toList, st, tb⟩ x.1)) ∧ Below w.heap.size w w' := by
  obtain ⟨⟨k, nm, at_, tx, sf⟩, f, t⟩ := x
  dsimp only at htx ⊢
  have HF := Lib.hid (fold_ok w w.heap.size (Nat.le_refl _) hT)
  obtain ⟨r, hr⟩ : ∃ r, fitsB ⟨rw.data.toList, st, tb⟩ ⟨k, nm, at_, tx, sf⟩ = r := ⟨_, rfl⟩
  have hq : r = if k = 3 ∧ tb = true then false else if st = 1 ∧ k = 3 then noCloseB ⟨rw.data.toList, st, tb⟩ tx.data.toList else if 0 < st then k == 2 && (nm.data.toList == rw.data.toList) else true := hr.symm
  rw [hr]
  have HQ := Lib.hid hq
  have HRA := Lib.hid hra
  clear hr hq hT hra
  obtain ⟨w1, hw1⟩ : ∃ w1, w1 = w.alloc (.cells (tokC k nm (.slice A n c) tx sf f t) 32) := ⟨_, rfl⟩
  have HX1 := Lib.hid (show w1.heap[w.heap.size]? = some (.cells (tokC k nm (.slice A n c) tx sf f t) 32 (0, 0)) from by rw [hw1]; exact heap_alloc_new w _)
  have HB1 := Lib.hid (show Below w.heap.size w w1 from by rw [hw1]; exact tal (Below.refl _ _) _)
  have HY1 := Lib.hid (hY.next HB1.out)
  clear hY
  have x0 := cell_blk (i := 0) HX1.out rfl
  have x1 := cell_blk (i := 1) HX1.out rfl
  have x2 := cell_blk (i := 2) HX1.out rfl
  have x3 := cell_blk (i := 3) HX1.out rfl
  have x4 := cell_blk (i := 4) HX1.out rfl
  have x5 := cell_blk (i := 5) HX1.out rfl
  have x6 := cell_blk (i := 6) HX1.out rfl
  have y0 := cell_blk (i := 0) HY1.out rfl
  have y1 := cell_blk (i := 1) HY1.out rfl
  have y2 := cell_blk (i := 2) HY1.out rfl
  by_cases k2 : k = 2
  · subst k2
    obtain ⟨q, hq⟩ : ∃ q, (nm.toList == rw.toList) = q := ⟨_, rfl⟩
    have HE : Hid ((nm.data.toList == rw.data.toList) = q) := by show _ = _; rw [← hq, ByteArray.toList_eq, ByteArray.toList_eq]
    by_cases s0 : 0 < st
    · have HR : Hid (r = q) := by
        show _ = _
        rw [HQ.out, if_neg (by omega), if_neg (by omega), if_pos s0, HE.out]
        rfl
      have s0' : decide (0 < st) = true := decide_eq_true s0
      by_cases s1 : st = 1
      · subst s1
        cases q
        all_goals
          go_enter Tryz.func14, Tryz.ntmps14
          go_upto_region 1 with fail
          rw [← hw1]
          clear hw1
          go_quiet (fail)
          go_wp2_with fail
          go_ret
          exact ⟨by rw [HR.out]; rfl, HB1.out.trans ((tdrewN _ _).mono HB1.out.size)⟩
      · have s1' : (st == 1) = false := beq_eq_false_iff_ne.2 s1
        cases q
        all_goals
          go_enter Tryz.func14, Tryz.ntmps14
          go_upto_region 1 with fail
          rw [← hw1]
          clear hw1
          go_quiet (fail)
          go_wp2_with fail
          go_ret
          exact ⟨by rw [HR.out]; rfl, HB1.out.trans ((tdrewN _ _).mono HB1.out.size)⟩
    · have HR : Hid (r = true) := by
        show _ = _
        rw [HQ.out, if_neg (by omega), if_neg (by omega), if_neg s0]
      have s0' : decide (0 < st) = false := decide_eq_false s0
      have s1' : (st == 1) = false := beq_eq_false_iff_ne.2 (by omega)
      cases q
      all_goals
        go_enter Tryz.func14, Tryz.ntmps14
        go_upto_region 1 with fail
        rw [← hw1]
        clear hw1
        go_quiet (fail)
        go_wp2_with fail
        go_ret
        exact ⟨by rw [HR.out]; rfl, HB1.out.trans ((tdrewN _ _).mono HB1.out.size)⟩
  by_cases k3 : k = 3
  · subst k3
    cases tb with
    | true =>
      have HR : Hid (r = false) := by
        show _ = _
        rw [HQ.out, if_pos ⟨rfl, rfl⟩]
      go_enter Tryz.func14, Tryz.ntmps14
      go_upto_region 1 with fail
      rw [← hw1]
      clear hw1
      go_quiet (fail)
      go_wp2_with fail
      go_ret
      exact ⟨by rw [HR.out]; rfl, HB1.out.trans ((tdrewN _ _).mono HB1.out.size)⟩
    | false =>
      by_cases s1 : st = 1
      · subst s1
        have HR : Hid (r = noCloseB ⟨rw.data.toList, 1, false⟩ tx.data.toList) := by
          show _ = _
          rw [HQ.out, if_neg (by simp), if_pos ⟨rfl, rfl⟩]
        have HRW := Lib.hid (fun W : World => raw_any rw W)
        obtain ⟨S, hS⟩ : ∃ S : ByteArray, S = tx ++ ⟨#[60, 47]⟩ ++ rw ++ ⟨#[62]⟩ := ⟨_, rfl⟩
        have hSz : S.size = tx.size + rw.size + 3 := by rw [hS, app_size, app_size, app_size, show (ByteArray.mk #[60, 47]).size = 2 from rfl, show (ByteArray.mk #[62]).size = 1 from rfl]; omega
        have HSL : Hid (S.data.toList = tx.data.toList ++ [60, 47] ++ rw.data.toList ++ [62]) := by show _ = _; rw [hS]; simp
        go_enter Tryz.func14, Tryz.ntmps14
        go_upto_region 1 with fail
        rw [← hw1]
        clear hw1
        go_quiet (fail)
        go_wp2_with fail
        obtain ⟨w2, hw2⟩ : ∃ w2, w2 = w1.drewN nq := ⟨_, rfl⟩
        have hb2 : Below w1.heap.size w1 w2 := by rw [hw2]; exact tdrewN _ _
        rw [← hw2]
        clear hw2 x0 x1 x2 x3 x4 x5 x6 y0 y1 y2
        have x3 := cell_blk (i := 3) ((hb2.block _ (Array.getElem?_eq_some_iff.1 HX1.out).1).trans HX1.out) rfl
        have y0 := cell_blk (i := 0) (HY1.out.next hb2) rfl
        go_cut [6] from 41 to 51 (fun s6 wx => ∃ Z, s6 = .pointer (some ⟨Z, 0, none⟩) ∧ Below w2.heap.size w2 wx ∧ Rc wx Z S 0 0 (.slice none 0 0))
        case first =>
          have hS2 := hS
          clear hS
          go_region_with fail
          all_goals
            go_wp2_with fail
            go_meet
            rw [hS2]
            exact ⟨_, rfl, by first | exact tal (tdrew _) _ | exact tal (Below.refl _ _) _ | exact tst (tal (tdrew _) _) (tdrew _), heap_alloc_new _ _⟩
        case rest =>
          obtain ⟨Z, rfl, hbc, hrc⟩ := hcut
          have x3 := cell_be x3 hbc
          have HBC := Lib.hid hbc
          have HRC := Lib.hid hrc
          have HYC := Lib.hid ((HY1.out.next hb2).next hbc)
          have HBW := Lib.hid (HB1.out.trans ((tst hb2 hbc).mono HB1.out.size))
          clear hbc hrc hb2 y0 hS
          go_wp2_with fail
          go_loopw [55] (fun i wr => ∃ j : Nat, j ≤ tx.size ∧ i = .int .i64 (j : Int) ∧ Below wc.heap.size wc wr ∧ Hid (∀ i, i < j → rawN rw.data.toList = 1 → closesF rw.data.toList (S.data.toList.drop i) = false)) (fun i _ => tx.size - (intOf i).toNat)
          case atStart => exact ⟨0, Nat.zero_le _, rfl, Below.refl _ _, fun i hi => absurd hi (by omega)⟩
          case round =>
            obtain ⟨j, hj, rfl, hb, HNO⟩ := hrel
            have HYR := Lib.hid (HYC.out.next hb)
            have y0 := cell_blk (i := 0) HYR.out rfl
            have htl : tx.data.toList.length = tx.size := (Lib.size_eq tx).symm
            by_cases hlt : j < tx.size
            · by_cases hr1 : rawN rw.data.toList = 1
              · have HRW1 := Lib.hid (fun W : World => (show Calls Tryz.prog 25 #[.string rw] W fun e w' => e = .returned (.int .i64 1) ∧ w' = W from by have h1 := raw_any rw W; rw [hr1] at h1; exact h1))
                have HCL := Lib.hid (tkCloses_big Z S 0 j (S.data.toList.drop j) rw 0 (.slice none 0 0) wr (by omega) (HRC.out.next hb) (by omega) rfl hrz (fun x hx => HF.out wr (HBW.out.trans (hb.mono HBW.out.size)) x rw (by omega) (by omega) HRA.out))
                have HR1 := Lib.hid hr1
                obtain ⟨q, hq⟩ : ∃ q, closesF rw.data.toList (S.data.toList.drop j) = q := ⟨_, rfl⟩
                rw [hq] at HCL
                have HQ2 := Lib.hid hq
                clear hq hr1
                cases q with
                | true =>
                  have HV : Hid (r = false) := HR.out.trans (noClose_no (i := j) (by omega) HR1.out (by rw [← HSL.out]; exact HQ2.out))
                  clear htl
                  go_wp2_with (first | (go_at_call 25; refine (HRW1.out _).mono ?_; rintro e w3 ⟨rfl, hw3⟩; rw [hw3]; clear hw3) | (go_at_call 26; refine HCL.out.mono ?_; rintro e w4 ⟨rfl, hb4⟩; have HB4 := Lib.hid hb4; clear hb4))
                  go_ret
                  exact ⟨by rw [HV.out]; rfl, HBW.out.trans ((hb.trans (HB4.out.mono hb.size)).mono HBW.out.size)⟩
                | false =>
                  have HN2 : Hid (∀ i, i < j + 1 → rawN rw.data.toList = 1 → closesF rw.data.toList (S.data.toList.drop i) = false) := fun i hi hr => by
                    by_cases hij : i < j
                    · exact HNO.out i hij hr
                    · obtain rfl : i = j := by omega
                      exact HQ2.out
                  clear htl
                  go_wp2_with (first | (go_at_call 25; refine (HRW1.out _).mono ?_; rintro e w3 ⟨rfl, hw3⟩; rw [hw3]; clear hw3) | (go_at_call 26; refine HCL.out.mono ?_; rintro e w4 ⟨rfl, hb4⟩; have HB4 := Lib.hid hb4; clear hb4))
                  go_roundw
                  case rel => exact ⟨j + 1, by omega, by first | rfl | (congr 1; omega), hb.trans (HB4.out.mono hb.size), HN2⟩
                  case measure => simp [intOf]; omega
              · have hr1' : ((rawN rw.data.toList : Int) == 1) = false := beq_eq_false_iff_ne.2 (by omega)
                have HR1 := Lib.hid hr1
                have HN2 : Hid (∀ i, i < j + 1 → rawN rw.data.toList = 1 → closesF rw.data.toList (S.data.toList.drop i) = false) := fun i hi hr => absurd hr HR1.out
                clear htl hr1
                go_wp2_with (first | (go_at_call 25; refine (HRW.out _).mono ?_; rintro e w3 ⟨rfl, hw3⟩; rw [hw3]; clear hw3))
                go_roundw
                case rel => exact ⟨j + 1, by omega, by first | rfl | (congr 1; omega), hb, HN2⟩
                case measure => simp [intOf]; omega
            · obtain rfl : j = tx.size := by omega
              have HV : Hid (r = true) := HR.out.trans (noClose_iff.2 fun i hi hr => by rw [← HSL.out]; exact HNO.out i (by omega) hr)
              clear htl
              go_wp2_with fail
              go_ret
              exact ⟨by rw [HV.out]; rfl, HBW.out.trans (hb.mono HBW.out.size)⟩
      · have s1' : (st == 1) = false := beq_eq_false_iff_ne.2 s1
        by_cases s0 : 0 < st
        · have HR : Hid (r = false) := by
            show _ = _
            rw [HQ.out, if_neg (by simp), if_neg (by omega), if_pos s0]
            rfl
          have s0' : decide (0 < st) = true := decide_eq_true s0
          go_enter Tryz.func14, Tryz.ntmps14
          go_upto_region 1 with fail
          rw [← hw1]
          clear hw1
          go_quiet (fail)
          go_wp2_with fail
          go_ret
          exact ⟨by rw [HR.out]; rfl, HB1.out.trans ((tdrewN _ _).mono HB1.out.size)⟩
        · have HR : Hid (r = true) := by
            show _ = _
            rw [HQ.out, if_neg (by simp), if_neg (by omega), if_neg s0]
          have s0' : decide (0 < st) = false := decide_eq_false s0
          go_enter Tryz.func14, Tryz.ntmps14
          go_upto_region 1 with fail
          rw [← hw1]
          clear hw1
          go_quiet (fail)
          go_wp2_with fail
          go_ret
          exact ⟨by rw [HR.out]; rfl, HB1.out.trans ((tdrewN _ _).mono HB1.out.size)⟩
  have k2' : (k == 2) = false := beq_eq_false_iff_ne.2 k2
  have k3' : (k == 3) = false := beq_eq_false_iff_ne.2 k3
  by_cases s0 : 0 < st
  · have HR : Hid (r = false) := by
      show _ = _
      rw [HQ.out, if_neg (by omega), if_neg (by omega), if_pos s0, k2']
      rfl
    have s0' : decide (0 < st) = true := decide_eq_true s0
    by_cases s1 : st = 1
    · subst s1
      go_enter Tryz.func14, Tryz.ntmps14
      go_upto_region 1 with fail
      rw [← hw1]
      clear hw1
      go_quiet (fail)
      go_wp2_with fail
      go_ret
      exact ⟨by rw [HR.out]; rfl, HB1.out.trans ((tdrewN _ _).mono HB1.out.size)⟩
    · have s1' : (st == 1) = false := beq_eq_false_iff_ne.2 s1
      go_enter Tryz.func14, Tryz.ntmps14
      go_upto_region 1 with fail
      rw [← hw1]
      clear hw1
      go_quiet (fail)
      go_wp2_with fail
      go_ret
      exact ⟨by rw [HR.out]; rfl, HB1.out.trans ((tdrewN _ _).mono HB1.out.size)⟩
  · have HR : Hid (r = true) := by
      show _ = _
      rw [HQ.out, if_neg (by omega), if_neg (by omega), if_neg s0]
    have s0' : decide (0 < st) = false := decide_eq_false s0
    have s1' : (st == 1) = false := beq_eq_false_iff_ne.2 (by omega)
    go_enter Tryz.func14, Tryz.ntmps14
    go_upto_region 1 with fail
    rw [← hw1]
    clear hw1
    go_quiet (fail)
    go_wp2_with fail
    go_ret
    exact ⟨by rw [HR.out]; rfl, HB1.out.trans ((tdrewN _ _).mono HB1.out.size)⟩
end Go.Proofs.YtbddnohbkafagaaGreatDoor
