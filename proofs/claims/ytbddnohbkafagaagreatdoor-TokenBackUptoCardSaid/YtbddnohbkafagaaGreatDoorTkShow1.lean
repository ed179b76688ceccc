/-
The shower's show.
-/
import Derived.Test.YtbddnohbkafagaaGreatDoorTkFits
namespace Go.Proofs.YtbddnohbkafagaaGreatDoor
open Go.RowKit Go.Cl
attribute [local go_sem ↓] Go.wp_at_zero Go.wp_at_succ
theorem ShM.fr {w : World} {Y : Nat} {rw : ByteArray} {st : Int} {tb : Bool} (h : ShM w Y rw st tb) (i : Nat) : w.frozen? ⟨Y, i, none⟩ = false := free_blk h
theorem ShM.set2 {w : World} {Y : Nat} {rw : ByteArray} {st : Int} {tb : Bool} (h : ShM w Y rw st tb) (b : Bool) : ShM (w.setCell ⟨Y, 2, none⟩ (.bool b)) Y rw st b := set_blk h _
theorem ShM.set1 {w : World} {Y : Nat} {rw : ByteArray} {st : Int} {tb : Bool} (h : ShM w Y rw st tb) (s : Int) : ShM (w.setCell ⟨Y, 1, none⟩ (.int .i64 s)) Y rw s tb := set_blk h _
theorem ShM.set0 {w : World} {Y : Nat} {rw : ByteArray} {st : Int} {tb : Bool} (h : ShM w Y rw st tb) (r : ByteArray) : ShM (w.setCell ⟨Y, 0, none⟩ (.string r)) Y r st tb := set_blk h _
theorem mx_far {w w' : World} {Y : Nat} {m : Int} (h : maxLenAt w m) (hg : w.grownBy w' (some Y)) (hY : Y ≠ 0) : maxLenAt w' m := by
  exact hg.cell h (by simpa using fun e : 0 = Y => hY e.symm)
/-- What show leaves. -/
def ShPost (s : Sh) (w w' : World) (Y : Nat) : Prop := w.grownBy w' (some Y) ∧ ∃ rw, ShM w' Y rw s.step s.text ∧ rw.data.toList = s.raw
set_option maxRecDepth 100000 in
set_option maxHeartbeats 4000000 in
theorem tkShow_any (x : TkP) (A : Option Addr) (n c : Nat) (w : World) (Y : Nat) (B : Nat) (hB : B ≤ w.heap.size) (hx : Sl tDA w (lt B) A n c x.1.attrs) (hBY : B ≤ Y) (hsz : attW x.1.attrs ≤ 1048576) (hnm : x.1.name.size ≤ 1048576) (htx : x.1.text.size ≤ 1048576) (hk : 1 ≤ x.1.kind ∧ x.1.kind ≤ 5) (m : Int) (hm : maxLenAt w m) (hm0 : Y ≠ 0)
    (rw : ByteArray) (st : Int) (tb : Bool) (hY : ShM w Y rw st tb) (hst : -100 ≤ st ∧ st ≤ 100) :
    Calls Tryz.prog 16 #[.pointer (some ⟨Y, 0, none⟩), .agg (tokC x.1.kind x.1.name (.slice A n c) x.1.text x.1.self x.2.1 x.2.2)] w fun e w' => e = .returned (.string (bs (showS ⟨rw.data.toList, st, tb⟩ x.1))) ∧ ShPost (stepS ⟨rw.data.toList, st, tb⟩ x.1) w w' Y := by
  have HST := Lib.hid (fun (W : World) (hW : w.grownBy W (some Y)) (h : maxLenAt W m) => tkStart_any x A n c W B (Nat.le_trans hB hW.size) (hx.keep fun p hp => World.cell?_of_block (hW.block p.block (Nat.lt_of_lt_of_le hp hB) (fun e => by injection e with e; exact absurd hp (by show ¬ p.block < B; omega)))) hsz hnm m h)
  have HRW := Lib.hid (fun (s : ByteArray) (W : World) => raw_any s W)
  obtain ⟨⟨k, nm, at_, tx, sf⟩, f, t⟩ := x
  dsimp only at hnm htx hk ⊢
  have HES := Lib.hid (fun (W : World) (h : maxLenAt W m) => escape_big tx false W m h htx)
  obtain ⟨S, hS⟩ : ∃ S, showS ⟨rw.data.toList, st, tb⟩ ⟨k, nm, at_, tx, sf⟩ = S := ⟨_, rfl⟩
  obtain ⟨N, hN⟩ : ∃ N, stepS ⟨rw.data.toList, st, tb⟩ ⟨k, nm, at_, tx, sf⟩ = N := ⟨_, rfl⟩
  rw [hS, hN]
  have HS := Lib.hid hS
  have HN := Lib.hid hN
  clear hS hN hx hsz
  obtain ⟨w1, hw1⟩ : ∃ w1, w1 = w.alloc (.cells (tokC k nm (.slice A n c) tx sf f t) 32) := ⟨_, rfl⟩
  have HX1 := Lib.hid (show w1.heap[w.heap.size]? = some (.cells (tokC k nm (.slice A n c) tx sf f t) 32 (0, 0)) from by rw [hw1]; exact heap_alloc_new w _)
  have HB1 := Lib.hid (show Below w.heap.size w w1 from by rw [hw1]; exact tal (Below.refl _ _) _)
  have HY1 := Lib.hid (hY.next HB1.out)
  have hYl := hY.lt
  clear hY
  have x0 := cell_blk (i := 0) HX1.out rfl
  have y0 := cell_blk (i := 0) HY1.out rfl
  have y1 := cell_blk (i := 1) HY1.out rfl
  have y2 := cell_blk (i := 2) HY1.out rfl
  have z1 := HY1.out.fr 1
  have z2 := HY1.out.fr 2
  have HM := Lib.hid hm
  obtain ⟨k1, k5⟩ := hk
  have hkk : k = 1 ∨ k = 2 ∨ k = 3 ∨ k = 4 ∨ k = 5 := by omega
  clear hm
  rcases hkk with rfl | rfl | rfl | rfl | rfl
  · by_cases s0 : 0 < st
    · have s0' : decide (0 < st) = true := decide_eq_true s0
      by_cases s1 : st = 1
      · have s1' : (st == 1) = true := beq_iff_eq.2 s1
        have HS1 := Lib.hid s1
        clear s1
        by_cases p1 : rawN rw.data.toList = 1
        · have p1' : ((rawN rw.data.toList : Int) == 1) = true := beq_iff_eq.2 (by omega)
          have u1 := cell_blk (i := 1) (HY1.out.set2 false) rfl
          have u2 := (HY1.out.set2 false).fr 1
          go_enter Tryz.func16, Tryz.ntmps16
          go_upto_region 1 with fail
          rw [← hw1]
          clear hw1
          go_upto_region 5 with (go_at_call 25; refine (HRW.out _ _).mono ?_; rintro e w3 ⟨rfl, hw3⟩; rw [hw3]; clear hw3)
          obtain ⟨w5, hw5⟩ : ∃ w5, w5 = (w1.setCell ⟨Y, 2, none⟩ (.bool false)).setCell ⟨Y, 1, none⟩ (.int .i64 (st + 1)) := ⟨_, rfl⟩
          have HY5 : Hid (ShM w5 Y rw (st + 1) false) := by rw [hw5]; exact (HY1.out.set2 false).set1 _
          have HG5 : Hid (w1.grownBy w5 (some Y)) := by rw [hw5]; exact (grown_set _ _ _ _).trans (grown_set _ _ _ _)
          rw [← hw5]
          clear hw5 u1 u2 x0 y0 y1 y2 z1 z2
          have HX5 := Lib.hid ((HG5.out.block w.heap.size (Array.getElem?_eq_some_iff.1 HX1.out).1 (by intro e; injection e with e; omega)).trans HX1.out)
          have HW5 := Lib.hid ((grown_below HB1.out (some Y)).trans HG5.out)
          have HM5 : Hid (maxLenAt w5 m) := mx_far HM.out HW5.out hm0
          have x0 := cell_blk (i := 0) HX5.out rfl
          have x1 := cell_blk (i := 1) HX5.out rfl
          have x2 := cell_blk (i := 2) HX5.out rfl
          have x3 := cell_blk (i := 3) HX5.out rfl
          have x4 := cell_blk (i := 4) HX5.out rfl
          have x5 := cell_blk (i := 5) HX5.out rfl
          have x6 := cell_blk (i := 6) HX5.out rfl
          have y0 := cell_blk (i := 0) HY5.out rfl
          have y1 := cell_blk (i := 1) HY5.out rfl
          have z0 := HY5.out.fr 0
          have z1 := HY5.out.fr 1
          have z2 := HY5.out.fr 2
          by_cases p0 : 0 < rawN nm.data.toList
          · have p0' : (0 : Int) < (rawN nm.data.toList : Int) := by omega
            have HNV : Hid (N = ⟨nm.data.toList, 1, false⟩) := by
              show N = _
              rw [← HN.out]
              exact if_pos ⟨rfl, p0⟩
            have HSV : Hid (startS ⟨1, nm, at_, tx, sf⟩ = S) := by show _ = _; rw [← HS.out]; rfl
            go_wp2_with (first | (go_at_call 25; refine (HRW.out _ _).mono ?_; rintro e w3 ⟨rfl, hw3⟩; rw [hw3]; clear hw3) | (go_at_call 28; refine (HST.out _ HW5.out HM5.out).mono ?_; rintro e w6 ⟨rfl, hb6⟩; have HB6 := Lib.hid hb6; have HY6 := Lib.hid (HY5.out.next hb6); have x1 := cell_be x1 hb6; have z0 := HY6.out.fr 0; have z1 := HY6.out.fr 1; have z3 := (HY6.out.set0 nm).fr 1; have v0 := cell_blk (i := 0) HY6.out rfl; have v1 := cell_blk (i := 1) (HY6.out.set0 nm) rfl; clear hb6))
            go_ret
            exact ⟨by rw [HSV.out]; rfl, by rw [HNV.out]; exact ⟨(HW5.out.trans (grown_below HB6.out _)).trans ((grown_set _ _ _ _).trans (grown_set _ _ _ _)), nm, (HY6.out.set0 nm).set1 1, rfl⟩⟩
          · have p0' : ¬ (0 : Int) < (rawN nm.data.toList : Int) := by omega
            have hst2 : (if 0 < st then st + 1 else st) = (st + 1) := if_pos s0
            have HNV : Hid (N = ⟨rw.data.toList, (st + 1), false⟩) := by
              show N = _
              rw [← HN.out]
              show (if (1 : Int) = 1 ∧ 0 < rawN nm.data.toList then _ else if (1 : Int) = 2 then _ else (⟨rw.data.toList, if 0 < st then st + 1 else st, ((1 : Int) == 3)⟩ : Sh)) = _
              rw [if_neg (fun h => p0 h.2), if_neg (by decide), hst2]
              try rfl
            have HSV : Hid (startS ⟨1, nm, at_, tx, sf⟩ = S) := by show _ = _; rw [← HS.out]; rfl
            go_wp2_with (first | (go_at_call 25; refine (HRW.out _ _).mono ?_; rintro e w3 ⟨rfl, hw3⟩; rw [hw3]; clear hw3) | (go_at_call 28; refine (HST.out _ HW5.out HM5.out).mono ?_; rintro e w6 ⟨rfl, hb6⟩; have HB6 := Lib.hid hb6; have HY6 := Lib.hid (HY5.out.next hb6); have x1 := cell_be x1 hb6; have z0 := HY6.out.fr 0; have z1 := HY6.out.fr 1; have z3 := (HY6.out.set0 nm).fr 1; have v0 := cell_blk (i := 0) HY6.out rfl; have v1 := cell_blk (i := 1) (HY6.out.set0 nm) rfl; clear hb6))
            go_ret
            exact ⟨by rw [HSV.out]; rfl, by rw [HNV.out]; exact ⟨HW5.out.trans (grown_below HB6.out _), rw, HY6.out, rfl⟩⟩
        · have p1' : ((rawN rw.data.toList : Int) == 1) = false := beq_eq_false_iff_ne.2 (by omega)
          have u1 := cell_blk (i := 1) (HY1.out.set2 false) rfl
          have u2 := (HY1.out.set2 false).fr 1
          go_enter Tryz.func16, Tryz.ntmps16
          go_upto_region 1 with fail
          rw [← hw1]
          clear hw1
          go_upto_region 5 with (go_at_call 25; refine (HRW.out _ _).mono ?_; rintro e w3 ⟨rfl, hw3⟩; rw [hw3]; clear hw3)
          obtain ⟨w5, hw5⟩ : ∃ w5, w5 = (w1.setCell ⟨Y, 2, none⟩ (.bool false)).setCell ⟨Y, 1, none⟩ (.int .i64 (st + 1)) := ⟨_, rfl⟩
          have HY5 : Hid (ShM w5 Y rw (st + 1) false) := by rw [hw5]; exact (HY1.out.set2 false).set1 _
          have HG5 : Hid (w1.grownBy w5 (some Y)) := by rw [hw5]; exact (grown_set _ _ _ _).trans (grown_set _ _ _ _)
          rw [← hw5]
          clear hw5 u1 u2 x0 y0 y1 y2 z1 z2
          have HX5 := Lib.hid ((HG5.out.block w.heap.size (Array.getElem?_eq_some_iff.1 HX1.out).1 (by intro e; injection e with e; omega)).trans HX1.out)
          have HW5 := Lib.hid ((grown_below HB1.out (some Y)).trans HG5.out)
          have HM5 : Hid (maxLenAt w5 m) := mx_far HM.out HW5.out hm0
          have x0 := cell_blk (i := 0) HX5.out rfl
          have x1 := cell_blk (i := 1) HX5.out rfl
          have x2 := cell_blk (i := 2) HX5.out rfl
          have x3 := cell_blk (i := 3) HX5.out rfl
          have x4 := cell_blk (i := 4) HX5.out rfl
          have x5 := cell_blk (i := 5) HX5.out rfl
          have x6 := cell_blk (i := 6) HX5.out rfl
          have y0 := cell_blk (i := 0) HY5.out rfl
          have y1 := cell_blk (i := 1) HY5.out rfl
          have z0 := HY5.out.fr 0
          have z1 := HY5.out.fr 1
          have z2 := HY5.out.fr 2
          by_cases p0 : 0 < rawN nm.data.toList
          · have p0' : (0 : Int) < (rawN nm.data.toList : Int) := by omega
            have HNV : Hid (N = ⟨nm.data.toList, 1, false⟩) := by
              show N = _
              rw [← HN.out]
              exact if_pos ⟨rfl, p0⟩
            have HSV : Hid (startS ⟨1, nm, at_, tx, sf⟩ = S) := by show _ = _; rw [← HS.out]; rfl
            go_wp2_with (first | (go_at_call 25; refine (HRW.out _ _).mono ?_; rintro e w3 ⟨rfl, hw3⟩; rw [hw3]; clear hw3) | (go_at_call 28; refine (HST.out _ HW5.out HM5.out).mono ?_; rintro e w6 ⟨rfl, hb6⟩; have HB6 := Lib.hid hb6; have HY6 := Lib.hid (HY5.out.next hb6); have x1 := cell_be x1 hb6; have z0 := HY6.out.fr 0; have z1 := HY6.out.fr 1; have z3 := (HY6.out.set0 nm).fr 1; have v0 := cell_blk (i := 0) HY6.out rfl; have v1 := cell_blk (i := 1) (HY6.out.set0 nm) rfl; clear hb6))
            go_ret
            exact ⟨by rw [HSV.out]; rfl, by rw [HNV.out]; exact ⟨(HW5.out.trans (grown_below HB6.out _)).trans ((grown_set _ _ _ _).trans (grown_set _ _ _ _)), nm, (HY6.out.set0 nm).set1 1, rfl⟩⟩
          · have p0' : ¬ (0 : Int) < (rawN nm.data.toList : Int) := by omega
            have hst2 : (if 0 < st then st + 1 else st) = (st + 1) := if_pos s0
            have HNV : Hid (N = ⟨rw.data.toList, (st + 1), false⟩) := by
              show N = _
              rw [← HN.out]
              show (if (1 : Int) = 1 ∧ 0 < rawN nm.data.toList then _ else if (1 : Int) = 2 then _ else (⟨rw.data.toList, if 0 < st then st + 1 else st, ((1 : Int) == 3)⟩ : Sh)) = _
              rw [if_neg (fun h => p0 h.2), if_neg (by decide), hst2]
              try rfl
            have HSV : Hid (startS ⟨1, nm, at_, tx, sf⟩ = S) := by show _ = _; rw [← HS.out]; rfl
            go_wp2_with (first | (go_at_call 25; refine (HRW.out _ _).mono ?_; rintro e w3 ⟨rfl, hw3⟩; rw [hw3]; clear hw3) | (go_at_call 28; refine (HST.out _ HW5.out HM5.out).mono ?_; rintro e w6 ⟨rfl, hb6⟩; have HB6 := Lib.hid hb6; have HY6 := Lib.hid (HY5.out.next hb6); have x1 := cell_be x1 hb6; have z0 := HY6.out.fr 0; have z1 := HY6.out.fr 1; have z3 := (HY6.out.set0 nm).fr 1; have v0 := cell_blk (i := 0) HY6.out rfl; have v1 := cell_blk (i := 1) (HY6.out.set0 nm) rfl; clear hb6))
            go_ret
            exact ⟨by rw [HSV.out]; rfl, by rw [HNV.out]; exact ⟨HW5.out.trans (grown_below HB6.out _), rw, HY6.out, rfl⟩⟩
      · have s1' : (st == 1) = false := beq_eq_false_iff_ne.2 s1
        have u1 := cell_blk (i := 1) (HY1.out.set2 false) rfl
        have u2 := (HY1.out.set2 false).fr 1
        go_enter Tryz.func16, Tryz.ntmps16
        go_upto_region 1 with fail
        rw [← hw1]
        clear hw1
        go_upto_region 5 with (go_at_call 25; refine (HRW.out _ _).mono ?_; rintro e w3 ⟨rfl, hw3⟩; rw [hw3]; clear hw3)
        obtain ⟨w5, hw5⟩ : ∃ w5, w5 = (w1.setCell ⟨Y, 2, none⟩ (.bool false)).setCell ⟨Y, 1, none⟩ (.int .i64 (st + 1)) := ⟨_, rfl⟩
        have HY5 : Hid (ShM w5 Y rw (st + 1) false) := by rw [hw5]; exact (HY1.out.set2 false).set1 _
        have HG5 : Hid (w1.grownBy w5 (some Y)) := by rw [hw5]; exact (grown_set _ _ _ _).trans (grown_set _ _ _ _)
        rw [← hw5]
        clear hw5 u1 u2 x0 y0 y1 y2 z1 z2
        have HX5 := Lib.hid ((HG5.out.block w.heap.size (Array.getElem?_eq_some_iff.1 HX1.out).1 (by intro e; injection e with e; omega)).trans HX1.out)
        have HW5 := Lib.hid ((grown_below HB1.out (some Y)).trans HG5.out)
        have HM5 : Hid (maxLenAt w5 m) := mx_far HM.out HW5.out hm0
        have x0 := cell_blk (i := 0) HX5.out rfl
        have x1 := cell_blk (i := 1) HX5.out rfl
        have x2 := cell_blk (i := 2) HX5.out rfl
        have x3 := cell_blk (i := 3) HX5.out rfl
        have x4 := cell_blk (i := 4) HX5.out rfl
        have x5 := cell_blk (i := 5) HX5.out rfl
        have x6 := cell_blk (i := 6) HX5.out rfl
        have y0 := cell_blk (i := 0) HY5.out rfl
        have y1 := cell_blk (i := 1) HY5.out rfl
        have z0 := HY5.out.fr 0
        have z1 := HY5.out.fr 1
        have z2 := HY5.out.fr 2
        by_cases p0 : 0 < rawN nm.data.toList
        · have p0' : (0 : Int) < (rawN nm.data.toList : Int) := by omega
          have HNV : Hid (N = ⟨nm.data.toList, 1, false⟩) := by
            show N = _
            rw [← HN.out]
            exact if_pos ⟨rfl, p0⟩
          have HSV : Hid (startS ⟨1, nm, at_, tx, sf⟩ = S) := by show _ = _; rw [← HS.out]; rfl
          go_wp2_with (first | (go_at_call 25; refine (HRW.out _ _).mono ?_; rintro e w3 ⟨rfl, hw3⟩; rw [hw3]; clear hw3) | (go_at_call 28; refine (HST.out _ HW5.out HM5.out).mono ?_; rintro e w6 ⟨rfl, hb6⟩; have HB6 := Lib.hid hb6; have HY6 := Lib.hid (HY5.out.next hb6); have x1 := cell_be x1 hb6; have z0 := HY6.out.fr 0; have z1 := HY6.out.fr 1; have z3 := (HY6.out.set0 nm).fr 1; have v0 := cell_blk (i := 0) HY6.out rfl; have v1 := cell_blk (i := 1) (HY6.out.set0 nm) rfl; clear hb6))
          go_ret
          exact ⟨by rw [HSV.out]; rfl, by rw [HNV.out]; exact ⟨(HW5.out.trans (grown_below HB6.out _)).trans ((grown_set _ _ _ _).trans (grown_set _ _ _ _)), nm, (HY6.out.set0 nm).set1 1, rfl⟩⟩
        · have p0' : ¬ (0 : Int) < (rawN nm.data.toList : Int) := by omega
          have hst2 : (if 0 < st then st + 1 else st) = (st + 1) := if_pos s0
          have HNV : Hid (N = ⟨rw.data.toList, (st + 1), false⟩) := by
            show N = _
            rw [← HN.out]
            show (if (1 : Int) = 1 ∧ 0 < rawN nm.data.toList then _ else if (1 : Int) = 2 then _ else (⟨rw.data.toList, if 0 < st then st + 1 else st, ((1 : Int) == 3)⟩ : Sh)) = _
            rw [if_neg (fun h => p0 h.2), if_neg (by decide), hst2]
            try rfl
          have HSV : Hid (startS ⟨1, nm, at_, tx, sf⟩ = S) := by show _ = _; rw [← HS.out]; rfl
          go_wp2_with (first | (go_at_call 25; refine (HRW.out _ _).mono ?_; rintro e w3 ⟨rfl, hw3⟩; rw [hw3]; clear hw3) | (go_at_call 28; refine (HST.out _ HW5.out HM5.out).mono ?_; rintro e w6 ⟨rfl, hb6⟩; have HB6 := Lib.hid hb6; have HY6 := Lib.hid (HY5.out.next hb6); have x1 := cell_be x1 hb6; have z0 := HY6.out.fr 0; have z1 := HY6.out.fr 1; have z3 := (HY6.out.set0 nm).fr 1; have v0 := cell_blk (i := 0) HY6.out rfl; have v1 := cell_blk (i := 1) (HY6.out.set0 nm) rfl; clear hb6))
          go_ret
          exact ⟨by rw [HSV.out]; rfl, by rw [HNV.out]; exact ⟨HW5.out.trans (grown_below HB6.out _), rw, HY6.out, rfl⟩⟩
    · have s0' : decide (0 < st) = false := decide_eq_false s0
      have s1 : ¬ st = 1 := by omega
      have s1' : (st == 1) = false := beq_eq_false_iff_ne.2 s1
      have u1 := cell_blk (i := 1) (HY1.out.set2 false) rfl
      have u2 := (HY1.out.set2 false).fr 1
      go_enter Tryz.func16, Tryz.ntmps16
      go_upto_region 1 with fail
      rw [← hw1]
      clear hw1
      go_upto_region 5 with (go_at_call 25; refine (HRW.out _ _).mono ?_; rintro e w3 ⟨rfl, hw3⟩; rw [hw3]; clear hw3)
      obtain ⟨w5, hw5⟩ : ∃ w5, w5 = w1.setCell ⟨Y, 2, none⟩ (.bool false) := ⟨_, rfl⟩
      have HY5 : Hid (ShM w5 Y rw st false) := by rw [hw5]; exact HY1.out.set2 false
      have HG5 : Hid (w1.grownBy w5 (some Y)) := by rw [hw5]; exact grown_set _ _ _ _
      rw [← hw5]
      clear hw5 u1 u2 x0 y0 y1 y2 z1 z2
      have HX5 := Lib.hid ((HG5.out.block w.heap.size (Array.getElem?_eq_some_iff.1 HX1.out).1 (by intro e; injection e with e; omega)).trans HX1.out)
      have HW5 := Lib.hid ((grown_below HB1.out (some Y)).trans HG5.out)
      have HM5 : Hid (maxLenAt w5 m) := mx_far HM.out HW5.out hm0
      have x0 := cell_blk (i := 0) HX5.out rfl
      have x1 := cell_blk (i := 1) HX5.out rfl
      have x2 := cell_blk (i := 2) HX5.out rfl
      have x3 := cell_blk (i := 3) HX5.out rfl
      have x4 := cell_blk (i := 4) HX5.out rfl
      have x5 := cell_blk (i := 5) HX5.out rfl
      have x6 := cell_blk (i := 6) HX5.out rfl
      have y0 := cell_blk (i := 0) HY5.out rfl
      have y1 := cell_blk (i := 1) HY5.out rfl
      have z0 := HY5.out.fr 0
      have z1 := HY5.out.fr 1
      have z2 := HY5.out.fr 2
      by_cases p0 : 0 < rawN nm.data.toList
      · have p0' : (0 : Int) < (rawN nm.data.toList : Int) := by omega
        have HNV : Hid (N = ⟨nm.data.toList, 1, false⟩) := by
          show N = _
          rw [← HN.out]
          exact if_pos ⟨rfl, p0⟩
        have HSV : Hid (startS ⟨1, nm, at_, tx, sf⟩ = S) := by show _ = _; rw [← HS.out]; rfl
        go_wp2_with (first | (go_at_call 25; refine (HRW.out _ _).mono ?_; rintro e w3 ⟨rfl, hw3⟩; rw [hw3]; clear hw3) | (go_at_call 28; refine (HST.out _ HW5.out HM5.out).mono ?_; rintro e w6 ⟨rfl, hb6⟩; have HB6 := Lib.hid hb6; have HY6 := Lib.hid (HY5.out.next hb6); have x1 := cell_be x1 hb6; have z0 := HY6.out.fr 0; have z1 := HY6.out.fr 1; have z3 := (HY6.out.set0 nm).fr 1; have v0 := cell_blk (i := 0) HY6.out rfl; have v1 := cell_blk (i := 1) (HY6.out.set0 nm) rfl; clear hb6))
        go_ret
        exact ⟨by rw [HSV.out]; rfl, by rw [HNV.out]; exact ⟨(HW5.out.trans (grown_below HB6.out _)).trans ((grown_set _ _ _ _).trans (grown_set _ _ _ _)), nm, (HY6.out.set0 nm).set1 1, rfl⟩⟩
      · have p0' : ¬ (0 : Int) < (rawN nm.data.toList : Int) := by omega
        have hst2 : (if 0 < st then st + 1 else st) = st := if_neg s0
        have HNV : Hid (N = ⟨rw.data.toList, st, false⟩) := by
          show N = _
          rw [← HN.out]
          show (if (1 : Int) = 1 ∧ 0 < rawN nm.data.toList then _ else if (1 : Int) = 2 then _ else (⟨rw.data.toList, if 0 < st then st + 1 else st, ((1 : Int) == 3)⟩ : Sh)) = _
          rw [if_neg (fun h => p0 h.2), if_neg (by decide), hst2]
          try rfl
        have HSV : Hid (startS ⟨1, nm, at_, tx, sf⟩ = S) := by show _ = _; rw [← HS.out]; rfl
        go_wp2_with (first | (go_at_call 25; refine (HRW.out _ _).mono ?_; rintro e w3 ⟨rfl, hw3⟩; rw [hw3]; clear hw3) | (go_at_call 28; refine (HST.out _ HW5.out HM5.out).mono ?_; rintro e w6 ⟨rfl, hb6⟩; have HB6 := Lib.hid hb6; have HY6 := Lib.hid (HY5.out.next hb6); have x1 := cell_be x1 hb6; have z0 := HY6.out.fr 0; have z1 := HY6.out.fr 1; have z3 := (HY6.out.set0 nm).fr 1; have v0 := cell_blk (i := 0) HY6.out rfl; have v1 := cell_blk (i := 1) (HY6.out.set0 nm) rfl; clear hb6))
        go_ret
        exact ⟨by rw [HSV.out]; rfl, by rw [HNV.out]; exact ⟨HW5.out.trans (grown_below HB6.out _), rw, HY6.out, rfl⟩⟩
  · by_cases s0 : 0 < st
    · have s0' : decide (0 < st) = true := decide_eq_true s0
      by_cases s1 : st = 1
      · have s1' : (st == 1) = true := beq_iff_eq.2 s1
        have HS1 := Lib.hid s1
        clear s1
        by_cases p1 : rawN rw.data.toList = 1
        · have p1' : ((rawN rw.data.toList : Int) == 1) = true := beq_iff_eq.2 (by omega)
          have u1 := cell_blk (i := 1) (HY1.out.set2 false) rfl
          have u2 := (HY1.out.set2 false).fr 1
          go_enter Tryz.func16, Tryz.ntmps16
          go_upto_region 1 with fail
          rw [← hw1]
          clear hw1
          go_upto_region 5 with (go_at_call 25; refine (HRW.out _ _).mono ?_; rintro e w3 ⟨rfl, hw3⟩; rw [hw3]; clear hw3)
          obtain ⟨w5, hw5⟩ : ∃ w5, w5 = (w1.setCell ⟨Y, 2, none⟩ (.bool false)).setCell ⟨Y, 1, none⟩ (.int .i64 (st + 1)) := ⟨_, rfl⟩
          have HY5 : Hid (ShM w5 Y rw (st + 1) false) := by rw [hw5]; exact (HY1.out.set2 false).set1 _
          have HG5 : Hid (w1.grownBy w5 (some Y)) := by rw [hw5]; exact (grown_set _ _ _ _).trans (grown_set _ _ _ _)
          rw [← hw5]
          clear hw5 u1 u2 x0 y0 y1 y2 z1 z2
          have HX5 := Lib.hid ((HG5.out.block w.heap.size (Array.getElem?_eq_some_iff.1 HX1.out).1 (by intro e; injection e with e; omega)).trans HX1.out)
          have HW5 := Lib.hid ((grown_below HB1.out (some Y)).trans HG5.out)
          have HM5 : Hid (maxLenAt w5 m) := mx_far HM.out HW5.out hm0
          have x0 := cell_blk (i := 0) HX5.out rfl
          have x1 := cell_blk (i := 1) HX5.out rfl
          have x2 := cell_blk (i := 2) HX5.out rfl
          have x3 := cell_blk (i := 3) HX5.out rfl
          have x4 := cell_blk (i := 4) HX5.out rfl
          have x5 := cell_blk (i := 5) HX5.out rfl
          have x6 := cell_blk (i := 6) HX5.out rfl
          have y0 := cell_blk (i := 0) HY5.out rfl
          have y1 := cell_blk (i := 1) HY5.out rfl
          have z0 := HY5.out.fr 0
          have z1 := HY5.out.fr 1
          have z2 := HY5.out.fr 2
          have HNV : Hid (N = ⟨rw.data.toList, 0, false⟩) := by
            show N = _
            rw [← HN.out]
            exact (if_neg fun h => absurd (show (2 : Int) = 1 from h.1) (by decide)).trans (if_pos rfl)
          have HSV : Hid (bs ([60, 47] ++ nm.data.toList ++ [62]) = bs S) := by show _ = _; rw [← HS.out]; rfl
          go_wp2_with fail
          go_ret
          exact ⟨by rw [← HSV.out]; exact congrArg (fun z => Ending.returned (Value.string z)) (bs_of (by simp)), by rw [HNV.out]; exact ⟨HW5.out.trans (grown_set _ _ _ _), rw, HY5.out.set1 0, rfl⟩⟩
        · have p1' : ((rawN rw.data.toList : Int) == 1) = false := beq_eq_false_iff_ne.2 (by omega)
          have u1 := cell_blk (i := 1) (HY1.out.set2 false) rfl
          have u2 := (HY1.out.set2 false).fr 1
          go_enter Tryz.func16, Tryz.ntmps16
          go_upto_region 1 with fail
          rw [← hw1]
          clear hw1
          go_upto_region 5 with (go_at_call 25; refine (HRW.out _ _).mono ?_; rintro e w3 ⟨rfl, hw3⟩; rw [hw3]; clear hw3)
          obtain ⟨w5, hw5⟩ : ∃ w5, w5 = (w1.setCell ⟨Y, 2, none⟩ (.bool false)).setCell ⟨Y, 1, none⟩ (.int .i64 (st + 1)) := ⟨_, rfl⟩
          have HY5 : Hid (ShM w5 Y rw (st + 1) false) := by rw [hw5]; exact (HY1.out.set2 false).set1 _
          have HG5 : Hid (w1.grownBy w5 (some Y)) := by rw [hw5]; exact (grown_set _ _ _ _).trans (grown_set _ _ _ _)
          rw [← hw5]
          clear hw5 u1 u2 x0 y0 y1 y2 z1 z2
          have HX5 := Lib.hid ((HG5.out.block w.heap.size (Array.getElem?_eq_some_iff.1 HX1.out).1 (by intro e; injection e with e; omega)).trans HX1.out)
          have HW5 := Lib.hid ((grown_below HB1.out (some Y)).trans HG5.out)
          have HM5 : Hid (maxLenAt w5 m) := mx_far HM.out HW5.out hm0
          have x0 := cell_blk (i := 0) HX5.out rfl
          have x1 := cell_blk (i := 1) HX5.out rfl
          have x2 := cell_blk (i := 2) HX5.out rfl
          have x3 := cell_blk (i := 3) HX5.out rfl
          have x4 := cell_blk (i := 4) HX5.out rfl
          have x5 := cell_blk (i := 5) HX5.out rfl
          have x6 := cell_blk (i := 6) HX5.out rfl
          have y0 := cell_blk (i := 0) HY5.out rfl
          have y1 := cell_blk (i := 1) HY5.out rfl
          have z0 := HY5.out.fr 0
          have z1 := HY5.out.fr 1
          have z2 := HY5.out.fr 2
          have HNV : Hid (N = ⟨rw.data.toList, 0, false⟩) := by
            show N = _
            rw [← HN.out]
            exact (if_neg fun h => absurd (show (2 : Int) = 1 from h.1) (by decide)).trans (if_pos rfl)
          have HSV : Hid (bs ([60, 47] ++ nm.data.toList ++ [62]) = bs S) := by show _ = _; rw [← HS.out]; rfl
          go_wp2_with fail
          go_ret
          exact ⟨by rw [← HSV.out]; exact congrArg (fun z => Ending.returned (Value.string z)) (bs_of (by simp)), by rw [HNV.out]; exact ⟨HW5.out.trans (grown_set _ _ _ _), rw, HY5.out.set1 0, rfl⟩⟩
      · have s1' : (st == 1) = false := beq_eq_false_iff_ne.2 s1
        have u1 := cell_blk (i := 1) (HY1.out.set2 false) rfl
        have u2 := (HY1.out.set2 false).fr 1
        go_enter Tryz.func16, Tryz.ntmps16
        go_upto_region 1 with fail
        rw [← hw1]
        clear hw1
        go_upto_region 5 with (go_at_call 25; refine (HRW.out _ _).mono ?_; rintro e w3 ⟨rfl, hw3⟩; rw [hw3]; clear hw3)
        obtain ⟨w5, hw5⟩ : ∃ w5, w5 = (w1.setCell ⟨Y, 2, none⟩ (.bool false)).setCell ⟨Y, 1, none⟩ (.int .i64 (st + 1)) := ⟨_, rfl⟩
        have HY5 : Hid (ShM w5 Y rw (st + 1) false) := by rw [hw5]; exact (HY1.out.set2 false).set1 _
        have HG5 : Hid (w1.grownBy w5 (some Y)) := by rw [hw5]; exact (grown_set _ _ _ _).trans (grown_set _ _ _ _)
        rw [← hw5]
        clear hw5 u1 u2 x0 y0 y1 y2 z1 z2
        have HX5 := Lib.hid ((HG5.out.block w.heap.size (Array.getElem?_eq_some_iff.1 HX1.out).1 (by intro e; injection e with e; omega)).trans HX1.out)
        have HW5 := Lib.hid ((grown_below HB1.out (some Y)).trans HG5.out)
        have HM5 : Hid (maxLenAt w5 m) := mx_far HM.out HW5.out hm0
        have x0 := cell_blk (i := 0) HX5.out rfl
        have x1 := cell_blk (i := 1) HX5.out rfl
        have x2 := cell_blk (i := 2) HX5.out rfl
        have x3 := cell_blk (i := 3) HX5.out rfl
        have x4 := cell_blk (i := 4) HX5.out rfl
        have x5 := cell_blk (i := 5) HX5.out rfl
        have x6 := cell_blk (i := 6) HX5.out rfl
        have y0 := cell_blk (i := 0) HY5.out rfl
        have y1 := cell_blk (i := 1) HY5.out rfl
        have z0 := HY5.out.fr 0
        have z1 := HY5.out.fr 1
        have z2 := HY5.out.fr 2
        have HNV : Hid (N = ⟨rw.data.toList, 0, false⟩) := by
          show N = _
          rw [← HN.out]
          exact (if_neg fun h => absurd (show (2 : Int) = 1 from h.1) (by decide)).trans (if_pos rfl)
        have HSV : Hid (bs ([60, 47] ++ nm.data.toList ++ [62]) = bs S) := by show _ = _; rw [← HS.out]; rfl
        go_wp2_with fail
        go_ret
        exact ⟨by rw [← HSV.out]; exact congrArg (fun z => Ending.returned (Value.string z)) (bs_of (by simp)), by rw [HNV.out]; exact ⟨HW5.out.trans (grown_set _ _ _ _), rw, HY5.out.set1 0, rfl⟩⟩
    · have s0' : decide (0 < st) = false := decide_eq_false s0
      have s1 : ¬ st = 1 := by omega
      have s1' : (st == 1) = false := beq_eq_false_iff_ne.2 s1
      have u1 := cell_blk (i := 1) (HY1.out.set2 false) rfl
      have u2 := (HY1.out.set2 false).fr 1
      go_enter Tryz.func16, Tryz.ntmps16
      go_upto_region 1 with fail
      rw [← hw1]
      clear hw1
      go_upto_region 5 with (go_at_call 25; refine (HRW.out _ _).mono ?_; rintro e w3 ⟨rfl, hw3⟩; rw [hw3]; clear hw3)
      obtain ⟨w5, hw5⟩ : ∃ w5, w5 = w1.setCell ⟨Y, 2, none⟩ (.bool false) := ⟨_, rfl⟩
      have HY5 : Hid (ShM w5 Y rw st false) := by rw [hw5]; exact HY1.out.set2 false
      have HG5 : Hid (w1.grownBy w5 (some Y)) := by rw [hw5]; exact grown_set _ _ _ _
      rw [← hw5]
      clear hw5 u1 u2 x0 y0 y1 y2 z1 z2
      have HX5 := Lib.hid ((HG5.out.block w.heap.size (Array.getElem?_eq_some_iff.1 HX1.out).1 (by intro e; injection e with e; omega)).trans HX1.out)
      have HW5 := Lib.hid ((grown_below HB1.out (some Y)).trans HG5.out)
      have HM5 : Hid (maxLenAt w5 m) := mx_far HM.out HW5.out hm0
      have x0 := cell_blk (i := 0) HX5.out rfl
      have x1 := cell_blk (i := 1) HX5.out rfl
      have x2 := cell_blk (i := 2) HX5.out rfl
      have x3 := cell_blk (i := 3) HX5.out rfl
      have x4 := cell_blk (i := 4) HX5.out rfl
      have x5 := cell_blk (i := 5) HX5.out rfl
      have x6 := cell_blk (i := 6) HX5.out rfl
      have y0 := cell_blk (i := 0) HY5.out rfl
      have y1 := cell_blk (i := 1) HY5.out rfl
      have z0 := HY5.out.fr 0
      have z1 := HY5.out.fr 1
      have z2 := HY5.out.fr 2
      have HNV : Hid (N = ⟨rw.data.toList, 0, false⟩) := by
        show N = _
        rw [← HN.out]
        exact (if_neg fun h => absurd (show (2 : Int) = 1 from h.1) (by decide)).trans (if_pos rfl)
      have HSV : Hid (bs ([60, 47] ++ nm.data.toList ++ [62]) = bs S) := by show _ = _; rw [← HS.out]; rfl
      go_wp2_with fail
      go_ret
      exact ⟨by rw [← HSV.out]; exact congrArg (fun z => Ending.returned (Value.string z)) (bs_of (by simp)), by rw [HNV.out]; exact ⟨HW5.out.trans (grown_set _ _ _ _), rw, HY5.out.set1 0, rfl⟩⟩
  · by_cases s0 : 0 < st
    · have s0' : decide (0 < st) = true := decide_eq_true s0
      by_cases s1 : st = 1
      · have s1' : (st == 1) = true := beq_iff_eq.2 s1
        have HS1 := Lib.hid s1
        clear s1
        by_cases p1 : rawN rw.data.toList = 1
        · have p1' : ((rawN rw.data.toList : Int) == 1) = true := beq_iff_eq.2 (by omega)
          have u1 := cell_blk (i := 1) (HY1.out.set2 true) rfl
          have u2 := (HY1.out.set2 true).fr 1
          go_enter Tryz.func16, Tryz.ntmps16
          go_upto_region 1 with fail
          rw [← hw1]
          clear hw1
          go_upto_region 5 with (go_at_call 25; refine (HRW.out _ _).mono ?_; rintro e w3 ⟨rfl, hw3⟩; rw [hw3]; clear hw3)
          obtain ⟨w5, hw5⟩ : ∃ w5, w5 = (w1.setCell ⟨Y, 2, none⟩ (.bool true)).setCell ⟨Y, 1, none⟩ (.int .i64 (st + 1)) := ⟨_, rfl⟩
          have HY5 : Hid (ShM w5 Y rw (st + 1) true) := by rw [hw5]; exact (HY1.out.set2 true).set1 _
          have HG5 : Hid (w1.grownBy w5 (some Y)) := by rw [hw5]; exact (grown_set _ _ _ _).trans (grown_set _ _ _ _)
          rw [← hw5]
          clear hw5 u1 u2 x0 y0 y1 y2 z1 z2
          have HX5 := Lib.hid ((HG5.out.block w.heap.size (Array.getElem?_eq_some_iff.1 HX1.out).1 (by intro e; injection e with e; omega)).trans HX1.out)
          have HW5 := Lib.hid ((grown_below HB1.out (some Y)).trans HG5.out)
          have HM5 : Hid (maxLenAt w5 m) := mx_far HM.out HW5.out hm0
          have x0 := cell_blk (i := 0) HX5.out rfl
          have x1 := cell_blk (i := 1) HX5.out rfl
          have x2 := cell_blk (i := 2) HX5.out rfl
          have x3 := cell_blk (i := 3) HX5.out rfl
          have x4 := cell_blk (i := 4) HX5.out rfl
          have x5 := cell_blk (i := 5) HX5.out rfl
          have x6 := cell_blk (i := 6) HX5.out rfl
          have y0 := cell_blk (i := 0) HY5.out rfl
          have y1 := cell_blk (i := 1) HY5.out rfl
          have z0 := HY5.out.fr 0
          have z1 := HY5.out.fr 1
          have z2 := HY5.out.fr 2
          have hst2 : (if 0 < st then st + 1 else st) = (st + 1) := if_pos s0
          have HNV : Hid (N = ⟨rw.data.toList, (st + 1), true⟩) := by
            show N = _
            rw [← HN.out]
            show (if (3 : Int) = 1 ∧ 0 < rawN nm.data.toList then _ else if (3 : Int) = 2 then _ else (⟨rw.data.toList, if 0 < st then st + 1 else st, ((3 : Int) == 3)⟩ : Sh)) = _
            rw [if_neg (fun h => absurd h.1 (by decide)), if_neg (by decide), hst2]
            try rfl
          have HPL : Hid (plainB ⟨rw.data.toList, st, tb⟩ = true) := by
            show _ = _
            unfold plainB
            rw [decide_eq_true HS1.out, decide_eq_true p1]; rfl
          have HSV : Hid ((if plainB ⟨rw.data.toList, st, tb⟩ then tx.data.toList else escL false tx.data.toList) = S) := by show _ = _; rw [← HS.out]; rfl
          have HSW : Hid (tx.data.toList = S) := by show _ = _; rw [← HSV.out, HPL.out]; rfl
          go_wp2_with fail
          go_ret
          exact ⟨by rw [← HSW.out]; rfl, by rw [HNV.out]; exact ⟨HW5.out, rw, HY5.out, rfl⟩⟩
        · have p1' : ((rawN rw.data.toList : Int) == 1) = false := beq_eq_false_iff_ne.2 (by omega)
          have u1 := cell_blk (i := 1) (HY1.out.set2 true) rfl
          have u2 := (HY1.out.set2 true).fr 1
          go_enter Tryz.func16, Tryz.ntmps16
          go_upto_region 1 with fail
          rw [← hw1]
          clear hw1
          go_upto_region 5 with (go_at_call 25; refine (HRW.out _ _).mono ?_; rintro e w3 ⟨rfl, hw3⟩; rw [hw3]; clear hw3)
          obtain ⟨w5, hw5⟩ : ∃ w5, w5 = (w1.setCell ⟨Y, 2, none⟩ (.bool true)).setCell ⟨Y, 1, none⟩ (.int .i64 (st + 1)) := ⟨_, rfl⟩
          have HY5 : Hid (ShM w5 Y rw (st + 1) true) := by rw [hw5]; exact (HY1.out.set2 true).set1 _
          have HG5 : Hid (w1.grownBy w5 (some Y)) := by rw [hw5]; exact (grown_set _ _ _ _).trans (grown_set _ _ _ _)
          rw [← hw5]
          clear hw5 u1 u2 x0 y0 y1 y2 z1 z2
          have HX5 := Lib.hid ((HG5.out.block w.heap.size (Array.getElem?_eq_some_iff.1 HX1.out).1 (by intro e; injection e with e; omega)).trans HX1.out)
          have HW5 := Lib.hid ((grown_below HB1.out (some Y)).trans HG5.out)
          have HM5 : Hid (maxLenAt w5 m) := mx_far HM.out HW5.out hm0
          have x0 := cell_blk (i := 0) HX5.out rfl
          have x1 := cell_blk (i := 1) HX5.out rfl
          have x2 := cell_blk (i := 2) HX5.out rfl
          have x3 := cell_blk (i := 3) HX5.out rfl
          have x4 := cell_blk (i := 4) HX5.out rfl
          have x5 := cell_blk (i := 5) HX5.out rfl
          have x6 := cell_blk (i := 6) HX5.out rfl
          have y0 := cell_blk (i := 0) HY5.out rfl
          have y1 := cell_blk (i := 1) HY5.out rfl
          have z0 := HY5.out.fr 0
          have z1 := HY5.out.fr 1
          have z2 := HY5.out.fr 2
          have hst2 : (if 0 < st then st + 1 else st) = (st + 1) := if_pos s0
          have HNV : Hid (N = ⟨rw.data.toList, (st + 1), true⟩) := by
            show N = _
            rw [← HN.out]
            show (if (3 : Int) = 1 ∧ 0 < rawN nm.data.toList then _ else if (3 : Int) = 2 then _ else (⟨rw.data.toList, if 0 < st then st + 1 else st, ((3 : Int) == 3)⟩ : Sh)) = _
            rw [if_neg (fun h => absurd h.1 (by decide)), if_neg (by decide), hst2]
            try rfl
          have HPL : Hid (plainB ⟨rw.data.toList, st, tb⟩ = false) := by
            show _ = _
            unfold plainB
            first | rw [decide_eq_false s1, Bool.false_and] | rw [decide_eq_false p1, Bool.and_false]
          have HSV : Hid ((if plainB ⟨rw.data.toList, st, tb⟩ then tx.data.toList else escL false tx.data.toList) = S) := by show _ = _; rw [← HS.out]; rfl
          have HSW : Hid (escL false tx.data.toList = S) := by show _ = _; rw [← HSV.out, HPL.out]; rfl
          go_wp2_with (go_at_call 29; refine (HES.out _ HM5.out).mono ?_; rintro e w6 ⟨rfl, hb6⟩; have HB6 := Lib.hid hb6; have HY6 := Lib.hid (HY5.out.next hb6); clear hb6)
          go_ret
          exact ⟨by rw [← HSW.out]; rfl, by rw [HNV.out]; exact ⟨HW5.out.trans (grown_below HB6.out _), rw, HY6.out, rfl⟩⟩
      · have s1' : (st == 1) = false := beq_eq_false_iff_ne.2 s1
        have u1 := cell_blk (i := 1) (HY1.out.set2 true) rfl
        have u2 := (HY1.out.set2 true).fr 1
        go_enter Tryz.func16, Tryz.ntmps16
        go_upto_region 1 with fail
        rw [← hw1]
        clear hw1
        go_upto_region 5 with (go_at_call 25; refine (HRW.out _ _).mono ?_; rintro e w3 ⟨rfl, hw3⟩; rw [hw3]; clear hw3)
        obtain ⟨w5, hw5⟩ : ∃ w5, w5 = (w1.setCell ⟨Y, 2, none⟩ (.bool true)).setCell ⟨Y, 1, none⟩ (.int .i64 (st + 1)) := ⟨_, rfl⟩
        have HY5 : Hid (ShM w5 Y rw (st + 1) true) := by rw [hw5]; exact (HY1.out.set2 true).set1 _
        have HG5 : Hid (w1.grownBy w5 (some Y)) := by rw [hw5]; exact (grown_set _ _ _ _).trans (grown_set _ _ _ _)
        rw [← hw5]
        clear hw5 u1 u2 x0 y0 y1 y2 z1 z2
        have HX5 := Lib.hid ((HG5.out.block w.heap.size (Array.getElem?_eq_some_iff.1 HX1.out).1 (by intro e; injection e with e; omega)).trans HX1.out)
        have HW5 := Lib.hid ((grown_below HB1.out (some Y)).trans HG5.out)
        have HM5 : Hid (maxLenAt w5 m) := mx_far HM.out HW5.out hm0
        have x0 := cell_blk (i := 0) HX5.out rfl
        have x1 := cell_blk (i := 1) HX5.out rfl
        have x2 := cell_blk (i := 2) HX5.out rfl
        have x3 := cell_blk (i := 3) HX5.out rfl
        have x4 := cell_blk (i := 4) HX5.out rfl
        have x5 := cell_blk (i := 5) HX5.out rfl
        have x6 := cell_blk (i := 6) HX5.out rfl
        have y0 := cell_blk (i := 0) HY5.out rfl
        have y1 := cell_blk (i := 1) HY5.out rfl
        have z0 := HY5.out.fr 0
        have z1 := HY5.out.fr 1
        have z2 := HY5.out.fr 2
        have hst2 : (if 0 < st then st + 1 else st) = (st + 1) := if_pos s0
        have HNV : Hid (N = ⟨rw.data.toList, (st + 1), true⟩) := by
          show N = _
          rw [← HN.out]
          show (if (3 : Int) = 1 ∧ 0 < rawN nm.data.toList then _ else if (3 : Int) = 2 then _ else (⟨rw.data.toList, if 0 < st then st + 1 else st, ((3 : Int) == 3)⟩ : Sh)) = _
          rw [if_neg (fun h => absurd h.1 (by decide)), if_neg (by decide), hst2]
          try rfl
        have HPL : Hid (plainB ⟨rw.data.toList, st, tb⟩ = false) := by
          show _ = _
          unfold plainB
          first | rw [decide_eq_false s1, Bool.false_and] | rw [decide_eq_false p1, Bool.and_false]
        have HSV : Hid ((if plainB ⟨rw.data.toList, st, tb⟩ then tx.data.toList else escL false tx.data.toList) = S) := by show _ = _; rw [← HS.out]; rfl
        have HSW : Hid (escL false tx.data.toList = S) := by show _ = _; rw [← HSV.out, HPL.out]; rfl
        go_wp2_with (go_at_call 29; refine (HES.out _ HM5.out).mono ?_; rintro e w6 ⟨rfl, hb6⟩; have HB6 := Lib.hid hb6; have HY6 := Lib.hid (HY5.out.next hb6); clear hb6)
        go_ret
        exact ⟨by rw [← HSW.out]; rfl, by rw [HNV.out]; exact ⟨HW5.out.trans (grown_below HB6.out _), rw, HY6.out, rfl⟩⟩
    · have s0' : decide (0 < st) = false := decide_eq_false s0
      have s1 : ¬ st = 1 := by omega
      have s1' : (st == 1) = false := beq_eq_false_iff_ne.2 s1
      have u1 := cell_blk (i := 1) (HY1.out.set2 true) rfl
      have u2 := (HY1.out.set2 true).fr 1
      go_enter Tryz.func16, Tryz.ntmps16
      go_upto_region 1 with fail
      rw [← hw1]
      clear hw1
      go_upto_region 5 with (go_at_call 25; refine (HRW.out _ _).mono ?_; rintro e w3 ⟨rfl, hw3⟩; rw [hw3]; clear hw3)
      obtain ⟨w5, hw5⟩ : ∃ w5, w5 = w1.setCell ⟨Y, 2, none⟩ (.bool true) := ⟨_, rfl⟩
      have HY5 : Hid (ShM w5 Y rw st true) := by rw [hw5]; exact HY1.out.set2 true
      have HG5 : Hid (w1.grownBy w5 (some Y)) := by rw [hw5]; exact grown_set _ _ _ _
      rw [← hw5]
      clear hw5 u1 u2 x0 y0 y1 y2 z1 z2
      have HX5 := Lib.hid ((HG5.out.block w.heap.size (Array.getElem?_eq_some_iff.1 HX1.out).1 (by intro e; injection e with e; omega)).trans HX1.out)
      have HW5 := Lib.hid ((grown_below HB1.out (some Y)).trans HG5.out)
      have HM5 : Hid (maxLenAt w5 m) := mx_far HM.out HW5.out hm0
      have x0 := cell_blk (i := 0) HX5.out rfl
      have x1 := cell_blk (i := 1) HX5.out rfl
      have x2 := cell_blk (i := 2) HX5.out rfl
      have x3 := cell_blk (i := 3) HX5.out rfl
      have x4 := cell_blk (i := 4) HX5.out rfl
      have x5 := cell_blk (i := 5) HX5.out rfl
      have x6 := cell_blk (i := 6) HX5.out rfl
      have y0 := cell_blk (i := 0) HY5.out rfl
      have y1 := cell_blk (i := 1) HY5.out rfl
      have z0 := HY5.out.fr 0
      have z1 := HY5.out.fr 1
      have z2 := HY5.out.fr 2
      have hst2 : (if 0 < st then st + 1 else st) = st := if_neg s0
      have HNV : Hid (N = ⟨rw.data.toList, st, true⟩) := by
        show N = _
        rw [← HN.out]
        show (if (3 : Int) = 1 ∧ 0 < rawN nm.data.toList then _ else if (3 : Int) = 2 then _ else (⟨rw.data.toList, if 0 < st then st + 1 else st, ((3 : Int) == 3)⟩ : Sh)) = _
        rw [if_neg (fun h => absurd h.1 (by decide)), if_neg (by decide), hst2]
        try rfl
      have HPL : Hid (plainB ⟨rw.data.toList, st, tb⟩ = false) := by
        show _ = _
        unfold plainB
        first | rw [decide_eq_false s1, Bool.false_and] | rw [decide_eq_false p1, Bool.and_false]
      have HSV : Hid ((if plainB ⟨rw.data.toList, st, tb⟩ then tx.data.toList else escL false tx.data.toList) = S) := by show _ = _; rw [← HS.out]; rfl
      have HSW : Hid (escL false tx.data.toList = S) := by show _ = _; rw [← HSV.out, HPL.out]; rfl
      go_wp2_with (go_at_call 29; refine (HES.out _ HM5.out).mono ?_; rintro e w6 ⟨rfl, hb6⟩; have HB6 := Lib.hid hb6; have HY6 := Lib.hid (HY5.out.next hb6); clear hb6)
      go_ret
      exact ⟨by rw [← HSW.out]; rfl, by rw [HNV.out]; exact ⟨HW5.out.trans (grown_below HB6.out _), rw, HY6.out, rfl⟩⟩
  · by_cases s0 : 0 < st
    · have s0' : decide (0 < st) = true := decide_eq_true s0
      by_cases s1 : st = 1
      · have s1' : (st == 1) = true := beq_iff_eq.2 s1
        have HS1 := Lib.hid s1
        clear s1
        by_cases p1 : rawN rw.data.toList = 1
        · have p1' : ((rawN rw.data.toList : Int) == 1) = true := beq_iff_eq.2 (by omega)
          have u1 := cell_blk (i := 1) (HY1.out.set2 false) rfl
          have u2 := (HY1.out.set2 false).fr 1
          go_enter Tryz.func16, Tryz.ntmps16
          go_upto_region 1 with fail
          rw [← hw1]
          clear hw1
          go_upto_region 5 with (go_at_call 25; refine (HRW.out _ _).mono ?_; rintro e w3 ⟨rfl, hw3⟩; rw [hw3]; clear hw3)
          obtain ⟨w5, hw5⟩ : ∃ w5, w5 = (w1.setCell ⟨Y, 2, none⟩ (.bool false)).setCell ⟨Y, 1, none⟩ (.int .i64 (st + 1)) := ⟨_, rfl⟩
          have HY5 : Hid (ShM w5 Y rw (st + 1) false) := by rw [hw5]; exact (HY1.out.set2 false).set1 _
          have HG5 : Hid (w1.grownBy w5 (some Y)) := by rw [hw5]; exact (grown_set _ _ _ _).trans (grown_set _ _ _ _)
          rw [← hw5]
          clear hw5 u1 u2 x0 y0 y1 y2 z1 z2
          have HX5 := Lib.hid ((HG5.out.block w.heap.size (Array.getElem?_eq_some_iff.1 HX1.out).1 (by intro e; injection e with e; omega)).trans HX1.out)
          have HW5 := Lib.hid ((grown_below HB1.out (some Y)).trans HG5.out)
          have HM5 : Hid (maxLenAt w5 m) := mx_far HM.out HW5.out hm0
          have x0 := cell_blk (i := 0) HX5.out rfl
          have x1 := cell_blk (i := 1) HX5.out rfl
          have x2 := cell_blk (i := 2) HX5.out rfl
          have x3 := cell_blk (i := 3) HX5.out rfl
          have x4 := cell_blk (i := 4) HX5.out rfl
          have x5 := cell_blk (i := 5) HX5.out rfl
          have x6 := cell_blk (i := 6) HX5.out rfl
          have y0 := cell_blk (i := 0) HY5.out rfl
          have y1 := cell_blk (i := 1) HY5.out rfl
          have z0 := HY5.out.fr 0
          have z1 := HY5.out.fr 1
          have z2 := HY5.out.fr 2
          have hst2 : (if 0 < st then st + 1 else st) = (st + 1) := if_pos s0
          have HNV : Hid (N = ⟨rw.data.toList, (st + 1), false⟩) := by
            show N = _
            rw [← HN.out]
            show (if (4 : Int) = 1 ∧ 0 < rawN nm.data.toList then _ else if (4 : Int) = 2 then _ else (⟨rw.data.toList, if 0 < st then st + 1 else st, ((4 : Int) == 3)⟩ : Sh)) = _
            rw [if_neg (fun h => absurd h.1 (by decide)), if_neg (by decide), hst2]
            try rfl
          have HSV : Hid (bs (([60, 33, 45, 45] : List UInt8) ++ tx.data.toList ++ ([45, 45, 62] : List UInt8)) = bs S) := by show _ = _; rw [← HS.out]; rfl
          go_wp2_with fail
          go_ret
          exact ⟨by rw [← HSV.out]; exact congrArg (fun z => Ending.returned (Value.string z)) (bs_of (by simp)), by rw [HNV.out]; exact ⟨HW5.out, rw, HY5.out, rfl⟩⟩
        · have p1' : ((rawN rw.data.toList : Int) == 1) = false := beq_eq_false_iff_ne.2 (by omega)
          have u1 := cell_blk (i := 1) (HY1.out.set2 false) rfl
          have u2 := (HY1.out.set2 false).fr 1
          go_enter Tryz.func16, Tryz.ntmps16
          go_upto_region 1 with fail
          rw [← hw1]
          clear hw1
          go_upto_region 5 with (go_at_call 25; refine (HRW.out _ _).mono ?_; rintro e w3 ⟨rfl, hw3⟩; rw [hw3]; clear hw3)
          obtain ⟨w5, hw5⟩ : ∃ w5, w5 = (w1.setCell ⟨Y, 2, none⟩ (.bool false)).setCell ⟨Y, 1, none⟩ (.int .i64 (st + 1)) := ⟨_, rfl⟩
          have HY5 : Hid (ShM w5 Y rw (st + 1) false) := by rw [hw5]; exact (HY1.out.set2 false).set1 _
          have HG5 : Hid (w1.grownBy w5 (some Y)) := by rw [hw5]; exact (grown_set _ _ _ _).trans (grown_set _ _ _ _)
          rw [← hw5]
          clear hw5 u1 u2 x0 y0 y1 y2 z1 z2
          have HX5 := Lib.hid ((HG5.out.block w.heap.size (Array.getElem?_eq_some_iff.1 HX1.out).1 (by intro e; injection e with e; omega)).trans HX1.out)
          have HW5 := Lib.hid ((grown_below HB1.out (some Y)).trans HG5.out)
          have HM5 : Hid (maxLenAt w5 m) := mx_far HM.out HW5.out hm0
          have x0 := cell_blk (i := 0) HX5.out rfl
          have x1 := cell_blk (i := 1) HX5.out rfl
          have x2 := cell_blk (i := 2) HX5.out rfl
          have x3 := cell_blk (i := 3) HX5.out rfl
          have x4 := cell_blk (i := 4) HX5.out rfl
          have x5 := cell_blk (i := 5) HX5.out rfl
          have x6 := cell_blk (i := 6) HX5.out rfl
          have y0 := cell_blk (i := 0) HY5.out rfl
          have y1 := cell_blk (i := 1) HY5.out rfl
          have z0 := HY5.out.fr 0
          have z1 := HY5.out.fr 1
          have z2 := HY5.out.fr 2
          have hst2 : (if 0 < st then st + 1 else st) = (st + 1) := if_pos s0
          have HNV : Hid (N = ⟨rw.data.toList, (st + 1), false⟩) := by
            show N = _
            rw [← HN.out]
            show (if (4 : Int) = 1 ∧ 0 < rawN nm.data.toList then _ else if (4 : Int) = 2 then _ else (⟨rw.data.toList, if 0 < st then st + 1 else st, ((4 : Int) == 3)⟩ : Sh)) = _
            rw [if_neg (fun h => absurd h.1 (by decide)), if_neg (by decide), hst2]
            try rfl
          have HSV : Hid (bs (([60, 33, 45, 45] : List UInt8) ++ tx.data.toList ++ ([45, 45, 62] : List UInt8)) = bs S) := by show _ = _; rw [← HS.out]; rfl
          go_wp2_with fail
          go_ret
          exact ⟨by rw [← HSV.out]; exact congrArg (fun z => Ending.returned (Value.string z)) (bs_of (by simp)), by rw [HNV.out]; exact ⟨HW5.out, rw, HY5.out, rfl⟩⟩
      · have s1' : (st == 1) = false := beq_eq_false_iff_ne.2 s1
        have u1 := cell_blk (i := 1) (HY1.out.set2 false) rfl
        have u2 := (HY1.out.set2 false).fr 1
        go_enter Tryz.func16, Tryz.ntmps16
        go_upto_region 1 with fail
        rw [← hw1]
        clear hw1
        go_upto_region 5 with (go_at_call 25; refine (HRW.out _ _).mono ?_; rintro e w3 ⟨rfl, hw3⟩; rw [hw3]; clear hw3)
        obtain ⟨w5, hw5⟩ : ∃ w5, w5 = (w1.setCell ⟨Y, 2, none⟩ (.bool false)).setCell ⟨Y, 1, none⟩ (.int .i64 (st + 1)) := ⟨_, rfl⟩
        have HY5 : Hid (ShM w5 Y rw (st + 1) false) := by rw [hw5]; exact (HY1.out.set2 false).set1 _
        have HG5 : Hid (w1.grownBy w5 (some Y)) := by rw [hw5]; exact (grown_set _ _ _ _).trans (grown_set _ _ _ _)
        rw [← hw5]
        clear hw5 u1 u2 x0 y0 y1 y2 z1 z2
        have HX5 := Lib.hid ((HG5.out.block w.heap.size (Array.getElem?_eq_some_iff.1 HX1.out).1 (by intro e; injection e with e; omega)).trans HX1.out)
        have HW5 := Lib.hid ((grown_below HB1.out (some Y)).trans HG5.out)
        have HM5 : Hid (maxLenAt w5 m) := mx_far HM.out HW5.out hm0
        have x0 := cell_blk (i := 0) HX5.out rfl
        have x1 := cell_blk (i := 1) HX5.out rfl
        have x2 := cell_blk (i := 2) HX5.out rfl
        have x3 := cell_blk (i := 3) HX5.out rfl
        have x4 := cell_blk (i := 4) HX5.out rfl
        have x5 := cell_blk (i := 5) HX5.out rfl
        have x6 := cell_blk (i := 6) HX5.out rfl
        have y0 := cell_blk (i := 0) HY5.out rfl
        have y1 := cell_blk (i := 1) HY5.out rfl
        have z0 := HY5.out.fr 0
        have z1 := HY5.out.fr 1
        have z2 := HY5.out.fr 2
        have hst2 : (if 0 < st then st + 1 else st) = (st + 1) := if_pos s0
        have HNV : Hid (N = ⟨rw.data.toList, (st + 1), false⟩) := by
          show N = _
          rw [← HN.out]
          show (if (4 : Int) = 1 ∧ 0 < rawN nm.data.toList then _ else if (4 : Int) = 2 then _ else (⟨rw.data.toList, if 0 < st then st + 1 else st, ((4 : Int) == 3)⟩ : Sh)) = _
          rw [if_neg (fun h => absurd h.1 (by decide)), if_neg (by decide), hst2]
          try rfl
        have HSV : Hid (bs (([60, 33, 45, 45] : List UInt8) ++ tx.data.toList ++ ([45, 45, 62] : List UInt8)) = bs S) := by show _ = _; rw [← HS.out]; rfl
        go_wp2_with fail
        go_ret
        exact ⟨by rw [← HSV.out]; exact congrArg (fun z => Ending.returned (Value.string z)) (bs_of (by simp)), by rw [HNV.out]; exact ⟨HW5.out, rw, HY5.out, rfl⟩⟩
    · have s0' : decide (0 < st) = false := decide_eq_false s0
      have s1 : ¬ st = 1 := by omega
      have s1' : (st == 1) = false := beq_eq_false_iff_ne.2 s1
      have u1 := cell_blk (i := 1) (HY1.out.set2 false) rfl
      have u2 := (HY1.out.set2 false).fr 1
      go_enter Tryz.func16, Tryz.ntmps16
      go_upto_region 1 with fail
      rw [← hw1]
      clear hw1
      go_upto_region 5 with (go_at_call 25; refine (HRW.out _ _).mono ?_; rintro e w3 ⟨rfl, hw3⟩; rw [hw3]; clear hw3)
      obtain ⟨w5, hw5⟩ : ∃ w5, w5 = w1.setCell ⟨Y, 2, none⟩ (.bool false) := ⟨_, rfl⟩
      have HY5 : Hid (ShM w5 Y rw st false) := by rw [hw5]; exact HY1.out.set2 false
      have HG5 : Hid (w1.grownBy w5 (some Y)) := by rw [hw5]; exact grown_set _ _ _ _
      rw [← hw5]
      clear hw5 u1 u2 x0 y0 y1 y2 z1 z2
      have HX5 := Lib.hid ((HG5.out.block w.heap.size (Array.getElem?_eq_some_iff.1 HX1.out).1 (by intro e; injection e with e; omega)).trans HX1.out)
      have HW5 := Lib.hid ((grown_below HB1.out (some Y)).trans HG5.out)
      have HM5 : Hid (maxLenAt w5 m) := mx_far HM.out HW5.out hm0
      have x0 := cell_blk (i := 0) HX5.out rfl
      have x1 := cell_blk (i := 1) HX5.out rfl
      have x2 := cell_blk (i := 2) HX5.out rfl
      have x3 := cell_blk (i := 3) HX5.out rfl
      have x4 := cell_blk (i := 4) HX5.out rfl
      have x5 := cell_blk (i := 5) HX5.out rfl
      have x6 := cell_blk (i := 6) HX5.out rfl
      have y0 := cell_blk (i := 0) HY5.out rfl
      have y1 := cell_blk (i := 1) HY5.out rfl
      have z0 := HY5.out.fr 0
      have z1 := HY5.out.fr 1
      have z2 := HY5.out.fr 2
      have hst2 : (if 0 < st then st + 1 else st) = st := if_neg s0
      have HNV : Hid (N = ⟨rw.data.toList, st, false⟩) := by
        show N = _
        rw [← HN.out]
        show (if (4 : Int) = 1 ∧ 0 < rawN nm.data.toList then _ else if (4 : Int) = 2 then _ else (⟨rw.data.toList, if 0 < st then st + 1 else st, ((4 : Int) == 3)⟩ : Sh)) = _
        rw [if_neg (fun h => absurd h.1 (by decide)), if_neg (by decide), hst2]
        try rfl
      have HSV : Hid (bs (([60, 33, 45, 45] : List UInt8) ++ tx.data.toList ++ ([45, 45, 62] : List UInt8)) = bs S) := by show _ = _; rw [← HS.out]; rfl
      go_wp2_with fail
      go_ret
      exact ⟨by rw [← HSV.out]; exact congrArg (fun z => Ending.returned (Value.string z)) (bs_of (by simp)), by rw [HNV.out]; exact ⟨HW5.out, rw, HY5.out, rfl⟩⟩
  · by_cases s0 : 0 < st
    · have s0' : decide (0 < st) = true := decide_eq_true s0
      by_cases s1 : st = 1
      · have s1' : (st == 1) = true := beq_iff_eq.2 s1
        have HS1 := Lib.hid s1
        clear s1
        by_cases p1 : rawN rw.data.toList = 1
        · have p1' : ((rawN rw.data.toList : Int) == 1) = true := beq_iff_eq.2 (by omega)
          have u1 := cell_blk (i := 1) (HY1.out.set2 false) rfl
          have u2 := (HY1.out.set2 false).fr 1
          go_enter Tryz.func16, Tryz.ntmps16
          go_upto_region 1 with fail
          rw [← hw1]
          clear hw1
          go_upto_region 5 with (go_at_call 25; refine (HRW.out _ _).mono ?_; rintro e w3 ⟨rfl, hw3⟩; rw [hw3]; clear hw3)
          obtain ⟨w5, hw5⟩ : ∃ w5, w5 = (w1.setCell ⟨Y, 2, none⟩ (.bool false)).setCell ⟨Y, 1, none⟩ (.int .i64 (st + 1)) := ⟨_, rfl⟩
          have HY5 : Hid (ShM w5 Y rw (st + 1) false) := by rw [hw5]; exact (HY1.out.set2 false).set1 _
          have HG5 : Hid (w1.grownBy w5 (some Y)) := by rw [hw5]; exact (grown_set _ _ _ _).trans (grown_set _ _ _ _)
          rw [← hw5]
          clear hw5 u1 u2 x0 y0 y1 y2 z1 z2
          have HX5 := Lib.hid ((HG5.out.block w.heap.size (Array.getElem?_eq_some_iff.1 HX1.out).1 (by intro e; injection e with e; omega)).trans HX1.out)
          have HW5 := Lib.hid ((grown_below HB1.out (some Y)).trans HG5.out)
          have HM5 : Hid (maxLenAt w5 m) := mx_far HM.out HW5.out hm0
          have x0 := cell_blk (i := 0) HX5.out rfl
          have x1 := cell_blk (i := 1) HX5.out rfl
          have x2 := cell_blk (i := 2) HX5.out rfl
          have x3 := cell_blk (i := 3) HX5.out rfl
          have x4 := cell_blk (i := 4) HX5.out rfl
          have x5 := cell_blk (i := 5) HX5.out rfl
          have x6 := cell_blk (i := 6) HX5.out rfl
          have y0 := cell_blk (i := 0) HY5.out rfl
          have y1 := cell_blk (i := 1) HY5.out rfl
          have z0 := HY5.out.fr 0
          have z1 := HY5.out.fr 1
          have z2 := HY5.out.fr 2
          have hst2 : (if 0 < st then st + 1 else st) = (st + 1) := if_pos s0
          have HNV : Hid (N = ⟨rw.data.toList, (st + 1), false⟩) := by
            show N = _
            rw [← HN.out]
            show (if (5 : Int) = 1 ∧ 0 < rawN nm.data.toList then _ else if (5 : Int) = 2 then _ else (⟨rw.data.toList, if 0 < st then st + 1 else st, ((5 : Int) == 3)⟩ : Sh)) = _
            rw [if_neg (fun h => absurd h.1 (by decide)), if_neg (by decide), hst2]
            try rfl
          have HSV : Hid (bs (([60, 33, 68, 79, 67, 84, 89, 80, 69, 32] : List UInt8) ++ nm.data.toList ++ [62]) = bs S) := by show _ = _; rw [← HS.out]; rfl
          go_wp2_with fail
          go_ret
          exact ⟨by rw [← HSV.out]; exact congrArg (fun z => Ending.returned (Value.string z)) (bs_of (by simp)), by rw [HNV.out]; exact ⟨HW5.out, rw, HY5.out, rfl⟩⟩
        · have p1' : ((rawN rw.data.toList : Int) == 1) = false := beq_eq_false_iff_ne.2 (by omega)
          have u1 := cell_blk (i := 1) (HY1.out.set2 false) rfl
          have u2 := (HY1.out.set2 false).fr 1
          go_enter Tryz.func16, Tryz.ntmps16
          go_upto_region 1 with fail
          rw [← hw1]
          clear hw1
          go_upto_region 5 with (go_at_call 25; refine (HRW.out _ _).mono ?_; rintro e w3 ⟨rfl, hw3⟩; rw [hw3]; clear hw3)
          obtain ⟨w5, hw5⟩ : ∃ w5, w5 = (w1.setCell ⟨Y, 2, none⟩ (.bool false)).setCell ⟨Y, 1, none⟩ (.int .i64 (st + 1)) := ⟨_, rfl⟩
          have HY5 : Hid (ShM w5 Y rw (st + 1) false) := by rw [hw5]; exact (HY1.out.set2 false).set1 _
          have HG5 : Hid (w1.grownBy w5 (some Y)) := by rw [hw5]; exact (grown_set _ _ _ _).trans (grown_set _ _ _ _)
          rw [← hw5]
          clear hw5 u1 u2 x0 y0 y1 y2 z1 z2
          have HX5 := Lib.hid ((HG5.out.block w.heap.size (Array.getElem?_eq_some_iff.1 HX1.out).1 (by intro e; injection e with e; omega)).trans HX1.out)
          have HW5 := Lib.hid ((grown_below HB1.out (some Y)).trans HG5.out)
          have HM5 : Hid (maxLenAt w5 m) := mx_far HM.out HW5.out hm0
          have x0 := cell_blk (i := 0) HX5.out rfl
          have x1 := cell_blk (i := 1) HX5.out rfl
          have x2 := cell_blk (i := 2) HX5.out rfl
          have x3 := cell_blk (i := 3) HX5.out rfl
          have x4 := cell_blk (i := 4) HX5.out rfl
          have x5 := cell_blk (i := 5) HX5.out rfl
          have x6 := cell_blk (i := 6) HX5.out rfl
          have y0 := cell_blk (i := 0) HY5.out rfl
          have y1 := cell_blk (i := 1) HY5.out rfl
          have z0 := HY5.out.fr 0
          have z1 := HY5.out.fr 1
          have z2 := HY5.out.fr 2
          have hst2 : (if 0 < st then st + 1 else st) = (st + 1) := if_pos s0
          have HNV : Hid (N = ⟨rw.data.toList, (st + 1), false⟩) := by
            show N = _
            rw [← HN.out]
            show (if (5 : Int) = 1 ∧ 0 < rawN nm.data.toList then _ else if (5 : Int) = 2 then _ else (⟨rw.data.toList, if 0 < st then st + 1 else st, ((5 : Int) == 3)⟩ : Sh)) = _
            rw [if_neg (fun h => absurd h.1 (by decide)), if_neg (by decide), hst2]
            try rfl
          have HSV : Hid (bs (([60, 33, 68, 79, 67, 84, 89, 80, 69, 32] : List UInt8) ++ nm.data.toList ++ [62]) = bs S) := by show _ = _; rw [← HS.out]; rfl
          go_wp2_with fail
          go_ret
          exact ⟨by rw [← HSV.out]; exact congrArg (fun z => Ending.returned (Value.string z)) (bs_of (by simp)), by rw [HNV.out]; exact ⟨HW5.out, rw, HY5.out, rfl⟩⟩
      · have s1' : (st == 1) = false := beq_eq_false_iff_ne.2 s1
        have u1 := cell_blk (i := 1) (HY1.out.set2 false) rfl
        have u2 := (HY1.out.set2 false).fr 1
        go_enter Tryz.func16, Tryz.ntmps16
        go_upto_region 1 with fail
        rw [← hw1]
        clear hw1
        go_upto_region 5 with (go_at_call 25; refine (HRW.out _ _).mono ?_; rintro e w3 ⟨rfl, hw3⟩; rw [hw3]; clear hw3)
        obtain ⟨w5, hw5⟩ : ∃ w5, w5 = (w1.setCell ⟨Y, 2, none⟩ (.bool false)).setCell ⟨Y, 1, none⟩ (.int .i64 (st + 1)) := ⟨_, rfl⟩
        have HY5 : Hid (ShM w5 Y rw (st + 1) false) := by rw [hw5]; exact (HY1.out.set2 false).set1 _
        have HG5 : Hid (w1.grownBy w5 (some Y)) := by rw [hw5]; exact (grown_set _ _ _ _).trans (grown_set _ _ _ _)
        rw [← hw5]
        clear hw5 u1 u2 x0 y0 y1 y2 z1 z2
        have HX5 := Lib.hid ((HG5.out.block w.heap.size (Array.getElem?_eq_some_iff.1 HX1.out).1 (by intro e; injection e with e; omega)).trans HX1.out)
        have HW5 := Lib.hid ((grown_below HB1.out (some Y)).trans HG5.out)
        have HM5 : Hid (maxLenAt w5 m) := mx_far HM.out HW5.out hm0
        have x0 := cell_blk (i := 0) HX5.out rfl
        have x1 := cell_blk (i := 1) HX5.out rfl
        have x2 := cell_blk (i := 2) HX5.out rfl
        have x3 := cell_blk (i := 3) HX5.out rfl
        have x4 := cell_blk (i := 4) HX5.out rfl
        have x5 := cell_blk (i := 5) HX5.out rfl
        have x6 := cell_blk (i := 6) HX5.out rfl
        have y0 := cell_blk (i := 0) HY5.out rfl
        have y1 := cell_blk (i := 1) HY5.out rfl
        have z0 := HY5.out.fr 0
        have z1 := HY5.out.fr 1
        have z2 := HY5.out.fr 2
        have hst2 : (if 0 < st then st + 1 else st) = (st + 1) := if_pos s0
        have HNV : Hid (N = ⟨rw.data.toList, (st + 1), false⟩) := by
          show N = _
          rw [← HN.out]
          show (if (5 : Int) = 1 ∧ 0 < rawN nm.data.toList then _ else if (5 : Int) = 2 then _ else (⟨rw.data.toList, if 0 < st then st + 1 else st, ((5 : Int) == 3)⟩ : Sh)) = _
          rw [if_neg (fun h => absurd h.1 (by decide)), if_neg (by decide), hst2]
          try rfl
        have HSV : Hid (bs (([60, 33, 68, 79, 67, 84, 89, 80, 69, 32] : List UInt8) ++ nm.data.toList ++ [62]) = bs S) := by show _ = _; rw [← HS.out]; rfl
        go_wp2_with fail
        go_ret
        exact ⟨by rw [← HSV.out]; exact congrArg (fun z => Ending.returned (Value.string z)) (bs_of (by simp)), by rw [HNV.out]; exact ⟨HW5.out, rw, HY5.out, rfl⟩⟩
    · have s0' : decide (0 < st) = false := decide_eq_false s0
      have s1 : ¬ st = 1 := by omega
      have s1' : (st == 1) = false := beq_eq_false_iff_ne.2 s1
      have u1 := cell_blk (i := 1) (HY1.out.set2 false) rfl
      have u2 := (HY1.out.set2 false).fr 1
      go_enter Tryz.func16, Tryz.ntmps16
      go_upto_region 1 with fail
      rw [← hw1]
      clear hw1
      go_upto_region 5 with (go_at_call 25; refine (HRW.out _ _).mono ?_; rintro e w3 ⟨rfl, hw3⟩; rw [hw3]; clear hw3)
      obtain ⟨w5, hw5⟩ : ∃ w5, w5 = w1.setCell ⟨Y, 2, none⟩ (.bool false) := ⟨_, rfl⟩
      have HY5 : Hid (ShM w5 Y rw st false) := by rw [hw5]; exact HY1.out.set2 false
      have HG5 : Hid (w1.grownBy w5 (some Y)) := by rw [hw5]; exact grown_set _ _ _ _
      rw [← hw5]
      clear hw5 u1 u2 x0 y0 y1 y2 z1 z2
      have HX5 := Lib.hid ((HG5.out.block w.heap.size (Array.getElem?_eq_some_iff.1 HX1.out).1 (by intro e; injection e with e; omega)).trans HX1.out)
      have HW5 := Lib.hid ((grown_below HB1.out (some Y)).trans HG5.out)
      have HM5 : Hid (maxLenAt w5 m) := mx_far HM.out HW5.out hm0
      have x0 := cell_blk (i := 0) HX5.out rfl
      have x1 := cell_blk (i := 1) HX5.out rfl
      have x2 := cell_blk (i := 2) HX5.out rfl
      have x3 := cell_blk (i := 3) HX5.out rfl
      have x4 := cell_blk (i := 4) HX5.out rfl
      have x5 := cell_blk (i := 5) HX5.out rfl
      have x6 := cell_blk (i := 6) HX5.out rfl
      have y0 := cell_blk (i := 0) HY5.out rfl
      have y1 := cell_blk (i := 1) HY5.out rfl
      have z0 := HY5.out.fr 0
      have z1 := HY5.out.fr 1
      have z2 := HY5.out.fr 2
      have hst2 : (if 0 < st then st + 1 else st) = st := if_neg s0
      have HNV : Hid (N = ⟨rw.data.toList, st, false⟩) := by
        show N = _
        rw [← HN.out]
        show (if (5 : Int) = 1 ∧ 0 < rawN nm.data.toList then _ else if (5 : Int) = 2 then _ else (⟨rw.data.toList, if 0 < st then st + 1 else st, ((5 : Int) == 3)⟩ : Sh)) = _
        rw [if_neg (fun h => absurd h.1 (by decide)), if_neg (by decide), hst2]
        try rfl
      have HSV : Hid (bs (([60, 33, 68, 79, 67, 84, 89, 80, 69, 32] : List UInt8) ++ nm.data.toList ++ [62]) = bs S) := by show _ = _; rw [← HS.out]; rfl
      go_wp2_with fail
      go_ret
      exact ⟨by rw [← HSV.out]; exact congrArg (fun z => Ending.returned (Value.string z)) (bs_of (by simp)), by rw [HNV.out]; exact ⟨HW5.out, rw, HY5.out, rfl⟩⟩
end Go.Proofs.YtbddnohbkafagaaGreatDoor
