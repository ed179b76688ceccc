/-
Tokens: the reader's raw.
-/
import Derived.Test.YtbddnohbkafagaaGreatDoorTkR3
import Derived.Shelf.Strings.SlTrimAscii
namespace Go.Proofs.YtbddnohbkafagaaGreatDoor
open Go.RowKit Go.Cl
attribute [local go_sem ↓] Go.wp_at_zero Go.wp_at_succ
/-- What a raw text tells. -/
def rawTx (nm x : List UInt8) : List UInt8 := if rawN nm = 2 then entT x else x
theorem rawF_cons (nm : List UInt8) (b : UInt8) (t : List UInt8) : rawF nm (b :: t) = if closesF nm (b :: t) then ([], b :: t) else (b :: (rawF nm t).1, (rawF nm t).2) := rfl
set_option maxRecDepth 100000 in
set_option maxHeartbeats 8000000 in
theorem tkRaw_any (w0 w : World) (X : Nat) (s : ByteArray) (r : List UInt8) (nm : ByteArray) (E : Int) (v : Value) (n : Nat) (toks : List TkP) (hs : s.size ≤ 1000000) (h : Ra w0 w X s r E v n toks) (hl : n + r.length ≤ 1000000) (hF : FoldOk w0 X) (hn : nm.size ≤ 1000) (hna : ∀ b ∈ nm.data.toList, b.toNat < 128) :
    Calls Tryz.prog 34 #[.pointer (some ⟨X, 0, none⟩), .string nm] w fun e w' => e = .returned (.tuple #[]) ∧ ∃ v' n', Ra w0 w' X s (rawF nm.data.toList r).2 E v' n' (toks ++ (putT (rawF nm.data.toList r).1 (bs (rawTx nm.data.toList (rawF nm.data.toList r).1)) r.length (rawF nm.data.toList r).2.length).map (plOf s)) := by
  obtain ⟨⟨a, ha, hr, hc⟩, hm⟩ := h.rd
  have haz := drop_len ha hr
  have HAZ := Lib.hid haz
  have HH := Lib.hid h
  have HL := Lib.hid hl
  have HDA := Lib.hid hr
  have HFO := Lib.hid hF
  have HNA := Lib.hid hna
  have HRW := Lib.hid (fun u : World => raw_any nm u)
  have c1 := hc.c1
  clear hm hc hr ha haz h hl hF hna
  go_enter Tryz.func34, Tryz.ntmps34
  go_upto_region 1 with fail
  clear c1
  go_loopw [] (fun wr => ∃ rj x, Hid (r = x ++ rj) ∧ Hid (rawF nm.data.toList r = (x ++ (rawF nm.data.toList rj).1, (rawF nm.data.toList rj).2)) ∧ Hid (Ra w0 wr X s rj E v n toks)) (fun wr => s.size - atOf wr X)
  case atStart => exact ⟨r, [], Lib.hid rfl, Lib.hid rfl, HH⟩
  case round =>
    obtain ⟨rj, x, HJ, HT, HA⟩ := hrel
    obtain ⟨⟨aj, haj, hrj, hcj⟩, hmj⟩ := HA.out.rd
    have hzj := drop_len haj hrj
    have hlen := congrArg List.length HJ.out
    rw [List.length_append] at hlen
    have HAJ := Lib.hid (show aj = a + x.length by have := HAZ.out; omega)
    have HLF := Lib.hid HA.out.rd.left
    have i0 : (0 : Int) ≤ (aj : Int) := by omega
    have i1 : (aj : Int) ≤ (s.size : Int) := by omega
    have k0 : (0 : Int) ≤ (a : Int) := by omega
    have k1 : (a : Int) ≤ (aj : Int) := by have := HAJ.out; omega
    have HCJ := Lib.hid hcj
    have HMJ := Lib.hid hmj
    have HZJ := Lib.hid hzj
    cases rj with
    | nil =>
      have g0 : ¬ (aj : Int) < (s.size : Int) := by simp at hzj; omega
      have g1 : decide ((aj : Int) < (s.size : Int)) = false := decide_eq_false g0
      clear hrj hcj hmj hzj hlen haj
      go_upto_region 1 with fail
      refine wp_region_G (S := (fun W : World => W.cell? ⟨X, 0, none⟩ = some (.string s) ∧ W.cell? ⟨X, 1, none⟩ = some (.int .i64 (aj : Int)))) (T := []) (by kernel_rfl) ?_
      have hS : (fun W : World => W.cell? ⟨X, 0, none⟩ = some (.string s) ∧ W.cell? ⟨X, 1, none⟩ = some (.int .i64 (aj : Int))) wr.drew := ⟨HCJ.out.c0, HCJ.out.c1⟩
      refine wpAnyG_pureW (i := 0) (v := ?_) rfl (by kernel_rfl) (by kernel_rfl) (by kernel_rfl) (fun _ _ _ h => h) (by kernel_rfl) ?_ ?_
      rotate_left
      · intro w'
        first | (go_simp; done) | (go_simp; with_reducible rfl)
      refine wpAnyG_pureW (i := 1) (v := ?_) rfl (by kernel_rfl) (by kernel_rfl) (by kernel_rfl) (fun _ _ _ h => h) (by kernel_rfl) ?_ ?_
      rotate_left
      · intro w'
        first | (go_simp; done) | (go_simp; with_reducible rfl)
      refine wpAnyG_pureW (i := 2) (v := ?_) rfl (by kernel_rfl) (by kernel_rfl) (by kernel_rfl) (fun _ _ _ h => h) (by kernel_rfl) ?_ ?_
      rotate_left
      · intro w'
        first | (go_simp; done) | (go_simp; with_reducible rfl)
      refine wpAnyG_takeW (i := 3) (v := ?_) rfl (by kernel_rfl) (by kernel_rfl) (by kernel_rfl) (by kernel_rfl) (fun _ _ _ h => h) hS (by kernel_rfl) ?_ ?_
      rotate_left
      · intro w' hSw
        (try dsimp only at hSw)
        first | (go_simp; done) | (go_simp; with_reducible rfl)
      refine wpAnyG_pureW (i := 4) (v := ?_) rfl (by kernel_rfl) (by kernel_rfl) (by kernel_rfl) (fun _ _ _ h => h) (by kernel_rfl) ?_ ?_
      rotate_left
      · intro w'
        first | (go_simp; done) | (go_simp; with_reducible rfl)
      refine wpAnyG_pureW (i := 5) (v := ?_) rfl (by kernel_rfl) (by kernel_rfl) (by kernel_rfl) (fun _ _ _ h => h) (by kernel_rfl) ?_ ?_
      rotate_left
      · intro w'
        first | (go_simp; done) | (go_simp; with_reducible rfl)
      refine wpAnyG_pureW (i := 6) (v := ?_) rfl (by kernel_rfl) (by kernel_rfl) (by kernel_rfl) (fun _ _ _ h => h) (by kernel_rfl) ?_ ?_
      rotate_left
      · intro w'
        first | (go_simp; done) | (go_simp; with_reducible rfl)
      refine wpAnyG_takeW (i := 7) (v := ?_) rfl (by kernel_rfl) (by kernel_rfl) (by kernel_rfl) (by kernel_rfl) (fun _ _ _ h => h) hS (by kernel_rfl) ?_ ?_
      rotate_left
      · intro w' hSw
        (try dsimp only at hSw)
        first | (go_simp; done) | (go_simp; with_reducible rfl)
      refine wpAnyG_pureW (i := 8) (v := ?_) rfl (by kernel_rfl) (by kernel_rfl) (by kernel_rfl) (fun _ _ _ h => h) (by kernel_rfl) ?_ ?_
      rotate_left
      · intro w'
        first | (go_simp; done) | (go_simp; with_reducible rfl)
      refine wpAnyG_pureW (i := 9) (v := ?_) rfl (by kernel_rfl) (by kernel_rfl) (by kernel_rfl) (fun _ _ _ h => h) (by kernel_rfl) ?_ ?_
      rotate_left
      · intro w'
        first | (go_simp; done) | (go_simp; with_reducible rfl)
      refine wpAnyG_pureW (i := 10) (v := ?_) rfl (by kernel_rfl) (by kernel_rfl) (by kernel_rfl) (fun _ _ _ h => h) (by kernel_rfl) ?_ ?_
      rotate_left
      · intro w'
        first | (go_simp; done) | (go_simp; with_reducible rfl)
      refine wpAnyG_skipW (i := 11) rfl (by kernel_rfl) (by kernel_rfl) (by kernel_rfl) (fun _ _ _ h => h) (by kernel_rfl) ?_
      refine wpAnyG_skipW (i := 12) rfl (by kernel_rfl) (by kernel_rfl) (by kernel_rfl) (fun _ _ _ h => h) (by kernel_rfl) ?_
      refine wpAnyG_skipW (i := 13) rfl (by kernel_rfl) (by kernel_rfl) (by kernel_rfl) (fun _ _ _ h => h) (by kernel_rfl) ?_
      refine wpAnyG_skipW (i := 14) rfl (by kernel_rfl) (by kernel_rfl) (by kernel_rfl) (fun _ _ _ h => h) (by kernel_rfl) ?_
      refine wpAnyG_skipW (i := 15) rfl (by kernel_rfl) (by kernel_rfl) (by kernel_rfl) (fun _ _ _ h => h) (by kernel_rfl) ?_
      refine wpAnyG_skipW (i := 16) rfl (by kernel_rfl) (by kernel_rfl) (by kernel_rfl) (fun _ _ _ h => h) (by kernel_rfl) ?_
      refine wpAnyG_skipW (i := 17) rfl (by kernel_rfl) (by kernel_rfl) (by kernel_rfl) (fun _ _ _ h => h) (by kernel_rfl) ?_
      refine wpAnyG_skipW (i := 18) rfl (by kernel_rfl) (by kernel_rfl) (by kernel_rfl) (fun _ _ _ h => h) (by kernel_rfl) ?_
      refine wpAnyG_pureW (i := 19) (v := ?_) rfl (by kernel_rfl) (by kernel_rfl) (by kernel_rfl) (fun _ _ _ h => h) (by kernel_rfl) ?_ ?_
      rotate_left
      · intro w'
        first | (go_simp; done) | (go_simp; with_reducible rfl)
      clear hS
      refine wpAnyG_done (by kernel_rfl) ?_ _
      go_simp
      have HR := Lib.hid (show rawF nm.data.toList r = (x, ([] : List UInt8)) from by rw [HT.out, show rawF nm.data.toList [] = ([], []) from rfl]; simp)
      have HAQ := Lib.hid (show Ra w0 wr.drew X s ([] : List UInt8) E v n toks from HA.out.next (tdrew wr))
      have HCQ := Lib.hid (show Rc wr.drew X s aj E v from HCJ.out.next (tdrew wr))
      clear HT
      have c0 := HCJ.out.c0
      have c1 := HCJ.out.c1
      by_cases hx : x = []
      · have HX := Lib.hid hx
        have g5 : ((aj : Int) == (a : Int)) = true := by have := HAJ.out; rw [hx] at this; simp at this; simp [this]
        have g6 : aj = a := by have := HAJ.out; rw [hx] at this; simpa using this
        have HG := Lib.hid g6
        clear hx
        subst g6
        go_wp2_with fail
        refine bodyPost_ret (v := .tuple #[]) (by simp [results, Tryz.results34, go_sem]) rfl ?_
        exact ⟨rfl, v, n, by rw [HR.out, HX.out]; show Ra w0 _ X s ([] : List UInt8) E v n (toks ++ []); rw [List.append_nil]; first | exact HAQ.out | exact HAQ.out.next (tdrew _) | exact HA.out.next (tdrewN _ _) | exact HA.out.next (tdrew _)⟩
      · have HX := Lib.hid hx
        have HXL := Lib.hid (List.length_pos_iff.2 hx)
        have g5 : ((aj : Int) == (a : Int)) = false := beq_eq_false_iff_ne.2 (by have := HAJ.out; have := HXL.out; omega)
        have g6 : ¬ (aj : Int) = (a : Int) := by have := HAJ.out; have := HXL.out; omega
        have g7 : ¬ aj = a := by have := HAJ.out; have := HXL.out; omega
        clear hx
        obtain ⟨xS, hxS⟩ : ∃ xS : ByteArray, (⟨x.toArray⟩ : ByteArray) = xS := ⟨_, rfl⟩
        have hxt : s.extract a aj = xS := by rw [← hxS]; exact ext_from (r := ([] : List UInt8)) (by rw [HDA.out, HJ.out]) HAJ.out
        have HXZ := Lib.hid (show x.length ≤ 1000000 from by have := HZJ.out; have := HAJ.out; omega)
        have HTX := Lib.hid (fun (u : World) => (show Calls Tryz.prog 43 #[.string xS] u fun e w' => e = .returned (.string (bs (entT x))) ∧ Below u.heap.size u w' from by rw [← hxS]; exact text_any ⟨x.toArray⟩ u (by have := HXZ.out; show x.length ≤ _; omega)))
        have HSM := Lib.hid (show (bs (entT x)).size ≤ 1152921504606846976 ∧ xS.size ≤ 1152921504606846976 from ⟨Nat.le_trans (readL_len (bs x) false) (by have := HXZ.out; show 4 * x.length ≤ _; omega), by rw [← hxS]; have := HXZ.out; show x.length ≤ _; omega⟩)
        have HNN := Lib.hid (show n ≤ 1000000 from by have := HL.out; omega)
        have HPU := Lib.hid (fun (V : World) (tx : ByteArray) (htx : tx.size ≤ 1152921504606846976) (hV : Ra w0 V X s ([] : List UInt8) E v n toks) => tkPut_any w0 V X s ([] : List UInt8) E v n toks (tkT tx) none 0 0 (a : Int) hs hV Sl.nil rfl (Nat.zero_le _) htx (WalkArith.wf_i64 (by have := HZJ.out; have := HAJ.out; omega)) HNN.out)
        have HXS := Lib.hid hxS
        clear hxS
        go_upto_region 4 with fail
        go_quiet (fail)
        have HAQ2 := Lib.hid (fun k : Nat => HA.out.next (tdrewN wr k))
        by_cases h2 : rawN nm.data.toList = 2
        · have H2 := Lib.hid h2
          rw [h2] at HRW
          clear h2
          go_wp2_with (first | (go_at_call 25; refine (HRW.out _).mono ?_; rintro e2 V0 ⟨rfl, hV0⟩; have HA0 := Lib.hid (show Ra w0 V0 X s ([] : List UInt8) E v n toks from by rw [hV0]; exact HAQ2.out _); clear hV0) | (go_at_call 43; refine (HTX.out _).mono ?_; rintro e3 V1 ⟨rfl, hv1⟩; have HA1 := Lib.hid (HA0.out.next hv1); clear hv1) | (go_at_call 33; refine (HPU.out _ _ HSM.out.1 HA1.out).mono ?_; rintro e4 V2 ⟨rfl, v', hv2⟩; have HV2 := Lib.hid hv2; clear hv2))
          go_end0
          exact ⟨rfl, v', n + 1, by
            rw [HR.out]
            have h2 : ((s.size - r.length : Nat) : Int) = (a : Int) := by have := HAZ.out; omega
            have h4 : Ra w0 V2 X s ([] : List UInt8) E v' (n + 1) (toks ++ (putT x (bs (entT x)) r.length (([] : List UInt8)).length).map (plOf s)) := by
              rw [show putT x (bs (entT x)) r.length (([] : List UInt8)).length = [(tkT (bs (entT x)), r.length, (([] : List UInt8)).length)] from if_neg HX.out]
              show Ra w0 V2 X s ([] : List UInt8) E v' (n + 1) (toks ++ [(tkT (bs (entT x)), ((s.size - r.length : Nat) : Int), ((s.size - (([] : List UInt8)).length : Nat) : Int))])
              rw [h2]
              exact HV2.out
            first
              | exact h4
              | (show Ra w0 V2 X s ([] : List UInt8) E v' (n + 1) (toks ++ (putT x (bs (rawTx nm.data.toList x)) r.length (([] : List UInt8)).length).map (plOf s))
                 rw [show rawTx nm.data.toList x = entT x from if_pos H2.out]
                 exact h4)⟩
        · have H2 := Lib.hid h2
          have e2 : ((rawN nm.data.toList : Int) == 2) = false := beq_eq_false_iff_ne.2 (by omega)
          have p2 : ¬ (rawN nm.data.toList : Int) = 2 := by omega
          have p3 : ¬ rawN nm.data.toList = 2 := h2
          clear h2
          go_wp2_with (first | (go_at_call 25; refine (HRW.out _).mono ?_; rintro e2 V0 ⟨rfl, hV0⟩; have HA0 := Lib.hid (show Ra w0 V0 X s ([] : List UInt8) E v n toks from by rw [hV0]; exact HAQ2.out _); clear hV0) | (go_at_call 33; refine (HPU.out _ _ HSM.out.2 HA0.out).mono ?_; rintro e4 V2 ⟨rfl, v', hv2⟩; have HV2 := Lib.hid hv2; clear hv2))
          go_end0
          exact ⟨rfl, v', n + 1, by
            rw [HR.out]
            have h2 : ((s.size - r.length : Nat) : Int) = (a : Int) := by have := HAZ.out; omega
            have h4 : Ra w0 V2 X s ([] : List UInt8) E v' (n + 1) (toks ++ (putT x (bs x) r.length (([] : List UInt8)).length).map (plOf s)) := by
              rw [show putT x (bs x) r.length (([] : List UInt8)).length = [(tkT (bs x), r.length, (([] : List UInt8)).length)] from if_neg HX.out]
              show Ra w0 V2 X s ([] : List UInt8) E v' (n + 1) (toks ++ [(tkT (bs x), ((s.size - r.length : Nat) : Int), ((s.size - (([] : List UInt8)).length : Nat) : Int))])
              rw [h2]
              rw [show bs x = xS from HXS.out]
              exact HV2.out
            first
              | exact h4
              | (show Ra w0 V2 X s ([] : List UInt8) E v' (n + 1) (toks ++ (putT x (bs (rawTx nm.data.toList x)) r.length (([] : List UInt8)).length).map (plOf s))
                 rw [show rawTx nm.data.toList x = x from if_neg H2.out]
                 exact h4)⟩
    | cons c t =>
      have g0 : (aj : Int) < (s.size : Int) := by rw [List.length_cons] at hzj; omega
      have g1 : decide ((aj : Int) < (s.size : Int)) = true := decide_eq_true g0
      have HCL := Lib.hid (tkCloses_any X s aj aj (c :: t) nm E v wr.drew hs hcj haj hrj hn (fun y hy => HFO.out wr.drew (HA.out.low.trans ((tdrew wr).mono (Nat.le_of_lt HA.out.xlt))) y nm (Nat.le_of_eq hy) (by omega) HNA.out))
      have hr2 := (at_head hrj).2.2
      have HR2 := Lib.hid hr2
      have w1 : IntKind.i64.wrap ((aj : Int) + 1) = (aj : Int) + 1 := IntWalk.i64_in _ (by omega)
      have hst := rawF_cons nm.data.toList c t
      clear hrj hcj hmj hlen haj hr2
      cases hcf : closesF nm.data.toList (c :: t) with
      | false =>
        rw [hcf] at HCL
        rw [hcf, if_neg (by decide)] at hst
        have HST := Lib.hid hst
        clear hst hcf hzj
        go_upto_region 1 with fail
        refine wp_region_G (S := (fun W : World => W.cell? ⟨X, 0, none⟩ = some (.string s) ∧ W.cell? ⟨X, 1, none⟩ = some (.int .i64 (aj : Int)))) (T := []) (by kernel_rfl) ?_
        have hS : (fun W : World => W.cell? ⟨X, 0, none⟩ = some (.string s) ∧ W.cell? ⟨X, 1, none⟩ = some (.int .i64 (aj : Int))) wr.drew := ⟨HCJ.out.c0, HCJ.out.c1⟩
        refine wpAnyG_pureW (i := 0) (v := ?_) rfl (by kernel_rfl) (by kernel_rfl) (by kernel_rfl) (fun _ _ _ h => h) (by kernel_rfl) ?_ ?_
        rotate_left
        · intro w'
          first | (go_simp; done) | (go_simp; with_reducible rfl)
        refine wpAnyG_pureW (i := 1) (v := ?_) rfl (by kernel_rfl) (by kernel_rfl) (by kernel_rfl) (fun _ _ _ h => h) (by kernel_rfl) ?_ ?_
        rotate_left
        · intro w'
          first | (go_simp; done) | (go_simp; with_reducible rfl)
        refine wpAnyG_pureW (i := 2) (v := ?_) rfl (by kernel_rfl) (by kernel_rfl) (by kernel_rfl) (fun _ _ _ h => h) (by kernel_rfl) ?_ ?_
        rotate_left
        · intro w'
          first | (go_simp; done) | (go_simp; with_reducible rfl)
        refine wpAnyG_takeW (i := 3) (v := ?_) rfl (by kernel_rfl) (by kernel_rfl) (by kernel_rfl) (by kernel_rfl) (fun _ _ _ h => h) hS (by kernel_rfl) ?_ ?_
        rotate_left
        · intro w' hSw
          (try dsimp only at hSw)
          first | (go_simp; done) | (go_simp; with_reducible rfl)
        refine wpAnyG_pureW (i := 4) (v := ?_) rfl (by kernel_rfl) (by kernel_rfl) (by kernel_rfl) (fun _ _ _ h => h) (by kernel_rfl) ?_ ?_
        rotate_left
        · intro w'
          first | (go_simp; done) | (go_simp; with_reducible rfl)
        refine wpAnyG_pureW (i := 5) (v := ?_) rfl (by kernel_rfl) (by kernel_rfl) (by kernel_rfl) (fun _ _ _ h => h) (by kernel_rfl) ?_ ?_
        rotate_left
        · intro w'
          first | (go_simp; done) | (go_simp; with_reducible rfl)
        refine wpAnyG_pureW (i := 6) (v := ?_) rfl (by kernel_rfl) (by kernel_rfl) (by kernel_rfl) (fun _ _ _ h => h) (by kernel_rfl) ?_ ?_
        rotate_left
        · intro w'
          first | (go_simp; done) | (go_simp; with_reducible rfl)
        refine wpAnyG_takeW (i := 7) (v := ?_) rfl (by kernel_rfl) (by kernel_rfl) (by kernel_rfl) (by kernel_rfl) (fun _ _ _ h => h) hS (by kernel_rfl) ?_ ?_
        rotate_left
        · intro w' hSw
          (try dsimp only at hSw)
          first | (go_simp; done) | (go_simp; with_reducible rfl)
        refine wpAnyG_pureW (i := 8) (v := ?_) rfl (by kernel_rfl) (by kernel_rfl) (by kernel_rfl) (fun _ _ _ h => h) (by kernel_rfl) ?_ ?_
        rotate_left
        · intro w'
          first | (go_simp; done) | (go_simp; with_reducible rfl)
        refine wpAnyG_pureW (i := 9) (v := ?_) rfl (by kernel_rfl) (by kernel_rfl) (by kernel_rfl) (fun _ _ _ h => h) (by kernel_rfl) ?_ ?_
        rotate_left
        · intro w'
          first | (go_simp; done) | (go_simp; with_reducible rfl)
        refine wpAnyG_pureW (i := 10) (v := ?_) rfl (by kernel_rfl) (by kernel_rfl) (by kernel_rfl) (fun _ _ _ h => h) (by kernel_rfl) ?_ ?_
        rotate_left
        · intro w'
          first | (go_simp; done) | (go_simp; with_reducible rfl)
        refine wpAnyG_pureW (i := 11) (v := ?_) rfl (by kernel_rfl) (by kernel_rfl) (by kernel_rfl) (fun _ _ _ h => h) (by kernel_rfl) ?_ ?_
        rotate_left
        · intro w'
          first | (go_simp; done) | (go_simp; with_reducible rfl)
        refine wpAnyG_pureW (i := 12) (v := ?_) rfl (by kernel_rfl) (by kernel_rfl) (by kernel_rfl) (fun _ _ _ h => h) (by kernel_rfl) ?_ ?_
        rotate_left
        · intro w'
          first | (go_simp; done) | (go_simp; with_reducible rfl)
        refine wpAnyG_pureW (i := 13) (v := ?_) rfl (by kernel_rfl) (by kernel_rfl) (by kernel_rfl) (fun _ _ _ h => h) (by kernel_rfl) ?_ ?_
        rotate_left
        · intro w'
          first | (go_simp; done) | (go_simp; with_reducible rfl)
        refine wpAnyG_pureW (i := 14) (v := ?_) rfl (by kernel_rfl) (by kernel_rfl) (by kernel_rfl) (fun _ _ _ h => h) (by kernel_rfl) ?_ ?_
        rotate_left
        · intro w'
          first | (go_simp; done) | (go_simp; with_reducible rfl)
        refine wpAnyG_takeW (i := 15) (v := ?_) rfl (by kernel_rfl) (by kernel_rfl) (by kernel_rfl) (by kernel_rfl) (fun _ _ _ h => h) hS (by kernel_rfl) ?_ ?_
        rotate_left
        · intro w' hSw
          (try dsimp only at hSw)
          first | (go_simp; done) | (go_simp; with_reducible rfl)
        refine wpAnyG_pureW (i := 16) (v := ?_) rfl (by kernel_rfl) (by kernel_rfl) (by kernel_rfl) (fun _ _ _ h => h) (by kernel_rfl) ?_ ?_
        rotate_left
        · intro w'
          first | (go_simp; done) | (go_simp; with_reducible rfl)
        refine wpAnyG_oneW (i := 17) (by kernel_rfl) rfl (by kernel_rfl) (fun K hK => ?_)
        go_simp
        go_at_call 26
        refine HCL.out.mono ?_
        rintro e' V1 ⟨rfl, hv1⟩
        have HV1 := Lib.hid ((tdrew wr).trans hv1)
        clear hv1
        go_wp2_with fail
        refine hK.out _ _ (fun _ _ => ⟨cell_be HCJ.out.c0 HV1.out, cell_be HCJ.out.c1 HV1.out⟩) ?_
        clear hK K hS
        have hS : (fun W : World => W.cell? ⟨X, 0, none⟩ = some (.string s) ∧ W.cell? ⟨X, 1, none⟩ = some (.int .i64 (aj : Int))) V1 := ⟨cell_be HCJ.out.c0 HV1.out, cell_be HCJ.out.c1 HV1.out⟩
        refine wpAnyG_pureW (i := 18) (v := ?_) rfl (by kernel_rfl) (by kernel_rfl) (by kernel_rfl) (fun _ _ _ h => h) (by kernel_rfl) ?_ ?_
        rotate_left
        · intro w'
          first | (go_simp; done) | (go_simp; with_reducible rfl)
        refine wpAnyG_pureW (i := 19) (v := ?_) rfl (by kernel_rfl) (by kernel_rfl) (by kernel_rfl) (fun _ _ _ h => h) (by kernel_rfl) ?_ ?_
        rotate_left
        · intro w'
          first | (go_simp; done) | (go_simp; with_reducible rfl)
        clear hS
        refine wpAnyG_done (by kernel_rfl) ?_ _
        go_simp
        have c0 := cell_be HCJ.out.c0 HV1.out
        have c1 := cell_be HCJ.out.c1 HV1.out
        have f1 := (HCJ.out.next HV1.out).fr 1
        go_wp2_with fail
        have hst2 := Rd.step (w := V1) (n := (aj : Int) + 1) (b := aj + 1) (by omega) (by omega) HR2.out (HCJ.out.next HV1.out) (mx_next HMJ.out HV1.out)
        have hra := (HA.out.next HV1.out).go hst2.2 hst2.1
        refine ⟨⟨t, x ++ [c], Lib.hid (by rw [HJ.out, List.append_assoc]; rfl), Lib.hid (by rw [HT.out, HST.out]; simp), Lib.hid hra⟩, ?_⟩
        rw [hra.rd.left, HLF.out, List.length_cons]
        omega
      | true =>
        rw [hcf] at HCL
        rw [hcf, if_pos rfl] at hst
        have HST := Lib.hid hst
        clear hst hcf hzj
        go_upto_region 1 with fail
        refine wp_region_G (S := (fun W : World => W.cell? ⟨X, 0, none⟩ = some (.string s) ∧ W.cell? ⟨X, 1, none⟩ = some (.int .i64 (aj : Int)))) (T := []) (by kernel_rfl) ?_
        have hS : (fun W : World => W.cell? ⟨X, 0, none⟩ = some (.string s) ∧ W.cell? ⟨X, 1, none⟩ = some (.int .i64 (aj : Int))) wr.drew := ⟨HCJ.out.c0, HCJ.out.c1⟩
        refine wpAnyG_pureW (i := 0) (v := ?_) rfl (by kernel_rfl) (by kernel_rfl) (by kernel_rfl) (fun _ _ _ h => h) (by kernel_rfl) ?_ ?_
        rotate_left
        · intro w'
          first | (go_simp; done) | (go_simp; with_reducible rfl)
        refine wpAnyG_pureW (i := 1) (v := ?_) rfl (by kernel_rfl) (by kernel_rfl) (by kernel_rfl) (fun _ _ _ h => h) (by kernel_rfl) ?_ ?_
        rotate_left
        · intro w'
          first | (go_simp; done) | (go_simp; with_reducible rfl)
        refine wpAnyG_pureW (i := 2) (v := ?_) rfl (by kernel_rfl) (by kernel_rfl) (by kernel_rfl) (fun _ _ _ h => h) (by kernel_rfl) ?_ ?_
        rotate_left
        · intro w'
          first | (go_simp; done) | (go_simp; with_reducible rfl)
        refine wpAnyG_takeW (i := 3) (v := ?_) rfl (by kernel_rfl) (by kernel_rfl) (by kernel_rfl) (by kernel_rfl) (fun _ _ _ h => h) hS (by kernel_rfl) ?_ ?_
        rotate_left
        · intro w' hSw
          (try dsimp only at hSw)
          first | (go_simp; done) | (go_simp; with_reducible rfl)
        refine wpAnyG_pureW (i := 4) (v := ?_) rfl (by kernel_rfl) (by kernel_rfl) (by kernel_rfl) (fun _ _ _ h => h) (by kernel_rfl) ?_ ?_
        rotate_left
        · intro w'
          first | (go_simp; done) | (go_simp; with_reducible rfl)
        refine wpAnyG_pureW (i := 5) (v := ?_) rfl (by kernel_rfl) (by kernel_rfl) (by kernel_rfl) (fun _ _ _ h => h) (by kernel_rfl) ?_ ?_
        rotate_left
        · intro w'
          first | (go_simp; done) | (go_simp; with_reducible rfl)
        refine wpAnyG_pureW (i := 6) (v := ?_) rfl (by kernel_rfl) (by kernel_rfl) (by kernel_rfl) (fun _ _ _ h => h) (by kernel_rfl) ?_ ?_
        rotate_left
        · intro w'
          first | (go_simp; done) | (go_simp; with_reducible rfl)
        refine wpAnyG_takeW (i := 7) (v := ?_) rfl (by kernel_rfl) (by kernel_rfl) (by kernel_rfl) (by kernel_rfl) (fun _ _ _ h => h) hS (by kernel_rfl) ?_ ?_
        rotate_left
        · intro w' hSw
          (try dsimp only at hSw)
          first | (go_simp; done) | (go_simp; with_reducible rfl)
        refine wpAnyG_pureW (i := 8) (v := ?_) rfl (by kernel_rfl) (by kernel_rfl) (by kernel_rfl) (fun _ _ _ h => h) (by kernel_rfl) ?_ ?_
        rotate_left
        · intro w'
          first | (go_simp; done) | (go_simp; with_reducible rfl)
        refine wpAnyG_pureW (i := 9) (v := ?_) rfl (by kernel_rfl) (by kernel_rfl) (by kernel_rfl) (fun _ _ _ h => h) (by kernel_rfl) ?_ ?_
        rotate_left
        · intro w'
          first | (go_simp; done) | (go_simp; with_reducible rfl)
        refine wpAnyG_pureW (i := 10) (v := ?_) rfl (by kernel_rfl) (by kernel_rfl) (by kernel_rfl) (fun _ _ _ h => h) (by kernel_rfl) ?_ ?_
        rotate_left
        · intro w'
          first | (go_simp; done) | (go_simp; with_reducible rfl)
        refine wpAnyG_pureW (i := 11) (v := ?_) rfl (by kernel_rfl) (by kernel_rfl) (by kernel_rfl) (fun _ _ _ h => h) (by kernel_rfl) ?_ ?_
        rotate_left
        · intro w'
          first | (go_simp; done) | (go_simp; with_reducible rfl)
        refine wpAnyG_pureW (i := 12) (v := ?_) rfl (by kernel_rfl) (by kernel_rfl) (by kernel_rfl) (fun _ _ _ h => h) (by kernel_rfl) ?_ ?_
        rotate_left
        · intro w'
          first | (go_simp; done) | (go_simp; with_reducible rfl)
        refine wpAnyG_pureW (i := 13) (v := ?_) rfl (by kernel_rfl) (by kernel_rfl) (by kernel_rfl) (fun _ _ _ h => h) (by kernel_rfl) ?_ ?_
        rotate_left
        · intro w'
          first | (go_simp; done) | (go_simp; with_reducible rfl)
        refine wpAnyG_pureW (i := 14) (v := ?_) rfl (by kernel_rfl) (by kernel_rfl) (by kernel_rfl) (fun _ _ _ h => h) (by kernel_rfl) ?_ ?_
        rotate_left
        · intro w'
          first | (go_simp; done) | (go_simp; with_reducible rfl)
        refine wpAnyG_takeW (i := 15) (v := ?_) rfl (by kernel_rfl) (by kernel_rfl) (by kernel_rfl) (by kernel_rfl) (fun _ _ _ h => h) hS (by kernel_rfl) ?_ ?_
        rotate_left
        · intro w' hSw
          (try dsimp only at hSw)
          first | (go_simp; done) | (go_simp; with_reducible rfl)
        refine wpAnyG_pureW (i := 16) (v := ?_) rfl (by kernel_rfl) (by kernel_rfl) (by kernel_rfl) (fun _ _ _ h => h) (by kernel_rfl) ?_ ?_
        rotate_left
        · intro w'
          first | (go_simp; done) | (go_simp; with_reducible rfl)
        refine wpAnyG_oneW (i := 17) (by kernel_rfl) rfl (by kernel_rfl) (fun K hK => ?_)
        go_simp
        go_at_call 26
        refine HCL.out.mono ?_
        rintro e' V1 ⟨rfl, hv1⟩
        have HV1 := Lib.hid ((tdrew wr).trans hv1)
        clear hv1
        go_wp2_with fail
        refine hK.out _ _ (fun _ _ => ⟨cell_be HCJ.out.c0 HV1.out, cell_be HCJ.out.c1 HV1.out⟩) ?_
        clear hK K hS
        have hS : (fun W : World => W.cell? ⟨X, 0, none⟩ = some (.string s) ∧ W.cell? ⟨X, 1, none⟩ = some (.int .i64 (aj : Int))) V1 := ⟨cell_be HCJ.out.c0 HV1.out, cell_be HCJ.out.c1 HV1.out⟩
        refine wpAnyG_pureW (i := 18) (v := ?_) rfl (by kernel_rfl) (by kernel_rfl) (by kernel_rfl) (fun _ _ _ h => h) (by kernel_rfl) ?_ ?_
        rotate_left
        · intro w'
          first | (go_simp; done) | (go_simp; with_reducible rfl)
        refine wpAnyG_pureW (i := 19) (v := ?_) rfl (by kernel_rfl) (by kernel_rfl) (by kernel_rfl) (fun _ _ _ h => h) (by kernel_rfl) ?_ ?_
        rotate_left
        · intro w'
          first | (go_simp; done) | (go_simp; with_reducible rfl)
        clear hS
        refine wpAnyG_done (by kernel_rfl) ?_ _
        go_simp
        have HR := Lib.hid (show rawF nm.data.toList r = (x, (c :: t)) from by rw [HT.out, HST.out]; simp)
        have HAQ := Lib.hid (show Ra w0 V1 X s (c :: t) E v n toks from HA.out.next HV1.out)
        have HCQ := Lib.hid (show Rc V1 X s aj E v from HCJ.out.next HV1.out)
        clear HT
        have c0 := HCQ.out.c0
        have c1 := HCQ.out.c1
        by_cases hx : x = []
        · have HX := Lib.hid hx
          have g5 : ((aj : Int) == (a : Int)) = true := by have := HAJ.out; rw [hx] at this; simp at this; simp [this]
          have g6 : aj = a := by have := HAJ.out; rw [hx] at this; simpa using this
          have HG := Lib.hid g6
          clear hx
          subst g6
          go_wp2_with fail
          refine bodyPost_ret (v := .tuple #[]) (by simp [results, Tryz.results34, go_sem]) rfl ?_
          exact ⟨rfl, v, n, by rw [HR.out, HX.out]; show Ra w0 _ X s (c :: t) E v n (toks ++ []); rw [List.append_nil]; first | exact HAQ.out | exact HAQ.out.next (tdrew _) | exact HA.out.next (tdrewN _ _) | exact HA.out.next (tdrew _)⟩
        · have HX := Lib.hid hx
          have HXL := Lib.hid (List.length_pos_iff.2 hx)
          have g5 : ((aj : Int) == (a : Int)) = false := beq_eq_false_iff_ne.2 (by have := HAJ.out; have := HXL.out; omega)
          have g6 : ¬ (aj : Int) = (a : Int) := by have := HAJ.out; have := HXL.out; omega
          have g7 : ¬ aj = a := by have := HAJ.out; have := HXL.out; omega
          clear hx
          obtain ⟨xS, hxS⟩ : ∃ xS : ByteArray, (⟨x.toArray⟩ : ByteArray) = xS := ⟨_, rfl⟩
          have hxt : s.extract a aj = xS := by rw [← hxS]; exact ext_from (r := (c :: t)) (by rw [HDA.out, HJ.out]) HAJ.out
          have HXZ := Lib.hid (show x.length ≤ 1000000 from by have := HZJ.out; have := HAJ.out; omega)
          have HTX := Lib.hid (fun (u : World) => (show Calls Tryz.prog 43 #[.string xS] u fun e w' => e = .returned (.string (bs (entT x))) ∧ Below u.heap.size u w' from by rw [← hxS]; exact text_any ⟨x.toArray⟩ u (by have := HXZ.out; show x.length ≤ _; omega)))
          have HSM := Lib.hid (show (bs (entT x)).size ≤ 1152921504606846976 ∧ xS.size ≤ 1152921504606846976 from ⟨Nat.le_trans (readL_len (bs x) false) (by have := HXZ.out; show 4 * x.length ≤ _; omega), by rw [← hxS]; have := HXZ.out; show x.length ≤ _; omega⟩)
          have HNN := Lib.hid (show n ≤ 1000000 from by have := HL.out; omega)
          have HPU := Lib.hid (fun (V : World) (tx : ByteArray) (htx : tx.size ≤ 1152921504606846976) (hV : Ra w0 V X s (c :: t) E v n toks) => tkPut_any w0 V X s (c :: t) E v n toks (tkT tx) none 0 0 (a : Int) hs hV Sl.nil rfl (Nat.zero_le _) htx (WalkArith.wf_i64 (by have := HZJ.out; have := HAJ.out; omega)) HNN.out)
          have HXS := Lib.hid hxS
          clear hxS
          go_upto_region 4 with fail
          go_quiet (fail)
          have HAQ2 := Lib.hid (fun k : Nat => HAQ.out.next (tdrewN _ k))
          by_cases h2 : rawN nm.data.toList = 2
          · have H2 := Lib.hid h2
            rw [h2] at HRW
            clear h2
            go_wp2_with (first | (go_at_call 25; refine (HRW.out _).mono ?_; rintro e2 V0 ⟨rfl, hV0⟩; have HA0 := Lib.hid (show Ra w0 V0 X s (c :: t) E v n toks from by rw [hV0]; exact HAQ2.out _); clear hV0) | (go_at_call 43; refine (HTX.out _).mono ?_; rintro e3 V1 ⟨rfl, hv1⟩; have HA1 := Lib.hid (HA0.out.next hv1); clear hv1) | (go_at_call 33; refine (HPU.out _ _ HSM.out.1 HA1.out).mono ?_; rintro e4 V2 ⟨rfl, v', hv2⟩; have HV2 := Lib.hid hv2; clear hv2))
            go_end0
            exact ⟨rfl, v', n + 1, by
              rw [HR.out]
              have h2 : ((s.size - r.length : Nat) : Int) = (a : Int) := by have := HAZ.out; omega
              have h4 : Ra w0 V2 X s (c :: t) E v' (n + 1) (toks ++ (putT x (bs (entT x)) r.length ((c :: t)).length).map (plOf s)) := by
                rw [show putT x (bs (entT x)) r.length ((c :: t)).length = [(tkT (bs (entT x)), r.length, ((c :: t)).length)] from if_neg HX.out]
                show Ra w0 V2 X s (c :: t) E v' (n + 1) (toks ++ [(tkT (bs (entT x)), ((s.size - r.length : Nat) : Int), ((s.size - ((c :: t)).length : Nat) : Int))])
                rw [h2]
                exact HV2.out
              first
                | exact h4
                | (show Ra w0 V2 X s (c :: t) E v' (n + 1) (toks ++ (putT x (bs (rawTx nm.data.toList x)) r.length ((c :: t)).length).map (plOf s))
                   rw [show rawTx nm.data.toList x = entT x from if_pos H2.out]
                   exact h4)⟩
          · have H2 := Lib.hid h2
            have e2 : ((rawN nm.data.toList : Int) == 2) = false := beq_eq_false_iff_ne.2 (by omega)
            have p2 : ¬ (rawN nm.data.toList : Int) = 2 := by omega
            have p3 : ¬ rawN nm.data.toList = 2 := h2
            clear h2
            go_wp2_with (first | (go_at_call 25; refine (HRW.out _).mono ?_; rintro e2 V0 ⟨rfl, hV0⟩; have HA0 := Lib.hid (show Ra w0 V0 X s (c :: t) E v n toks from by rw [hV0]; exact HAQ2.out _); clear hV0) | (go_at_call 33; refine (HPU.out _ _ HSM.out.2 HA0.out).mono ?_; rintro e4 V2 ⟨rfl, v', hv2⟩; have HV2 := Lib.hid hv2; clear hv2))
            go_end0
            exact ⟨rfl, v', n + 1, by
              rw [HR.out]
              have h2 : ((s.size - r.length : Nat) : Int) = (a : Int) := by have := HAZ.out; omega
              have h4 : Ra w0 V2 X s (c :: t) E v' (n + 1) (toks ++ (putT x (bs x) r.length ((c :: t)).length).map (plOf s)) := by
                rw [show putT x (bs x) r.length ((c :: t)).length = [(tkT (bs x), r.length, ((c :: t)).length)] from if_neg HX.out]
                show Ra w0 V2 X s (c :: t) E v' (n + 1) (toks ++ [(tkT (bs x), ((s.size - r.length : Nat) : Int), ((s.size - ((c :: t)).length : Nat) : Int))])
                rw [h2]
                rw [show bs x = xS from HXS.out]
                exact HV2.out
              first
                | exact h4
                | (show Ra w0 V2 X s (c :: t) E v' (n + 1) (toks ++ (putT x (bs (rawTx nm.data.toList x)) r.length ((c :: t)).length).map (plOf s))
                   rw [show rawTx nm.data.toList x = x from if_neg H2.out]
                   exact h4)⟩
end Go.Proofs.YtbddnohbkafagaaGreatDoor

/-
Tokens: the reader's declared.
-/
namespace Go.Proofs.YtbddnohbkafagaaGreatDoor
open Go.RowKit Go.Cl
attribute [local go_sem ↓] Go.wp_at_zero Go.wp_at_succ
/-- IndexAny of the blanks: in each world that agrees below a block. -/
def AnyOk (w0 : World) (X : Nat) : Prop := ∀ u : World, Below X w0 u → ∀ s : ByteArray, s.size ≤ 1000000 →
  Calls Tryz.prog 54 #[.string s, .string ⟨#[32, 9, 10, 12, 13]⟩] u fun e w' => e = .returned (.int .i64 (Lib.indexAny s.data.toList [32, 9, 10, 12, 13])) ∧ Below u.heap.size u w'
/-- A token without attributes, as a value. -/
abbrev tokV (t : Tk) : Value := .agg (tokC t.kind t.name (.slice none 0 0) t.text t.self 0 0)
theorem pre_parts {s p : List UInt8} (h : Lib.hasPrefix s p = true) : ∃ t, s = p ++ t := by
  obtain ⟨t, ht⟩ := List.isPrefixOf_iff_prefix.1 h
  exact ⟨t, ht.symm⟩
theorem rd_at {w : World} {X : Nat} {s : ByteArray} {r : List UInt8} {E : Int} {O : Value} (h : Rd w X s r E O) : ∃ a, a + r.length = s.size ∧ s.data.toList.drop a = r ∧ Rc w X s a E O := by
  obtain ⟨a, ha, hr, hc⟩ := h.at_
  exact ⟨a, drop_len ha hr, hr, hc⟩
theorem low_grown {w0 w w' : World} {X : Nat} (h : Below X w0 w) (hg : w.grownBy w' (some X)) (hX : X < w.heap.size) : Below X w0 w' :=
  h.trans ⟨hg.os, hg.tape, hg.output, hg.size, fun k hk => hg.block k (Nat.lt_trans hk hX) (by intro e; injection e with e; omega)⟩
def isBl (b : UInt8) : Bool := ([32, 9, 10, 12, 13] : List UInt8).contains b
theorem isBl_eq (b : UInt8) : isBl b = blankB b := by
  have h : ∀ n : Fin 256, isBl (UInt8.ofNat n.val) = blankB (UInt8.ofNat n.val) := by decide +kernel
  have h2 := h ⟨b.toNat, b.toNat_lt⟩
  simpa using h2
theorem trim_bl (l : List UInt8) : Lib.trimLeftS l [32, 9, 10, 12, 13] = l.dropWhile blankB := by
  unfold Lib.trimLeftS
  congr 1
  funext b
  exact isBl_eq b
theorem any_bl (l : List UInt8) : (Lib.indexAny l [32, 9, 10, 12, 13] = -1 ∧ l.takeWhile (fun b => !blankB b) = l) ∨ (∃ i : Nat, Lib.indexAny l [32, 9, 10, 12, 13] = i ∧ i < l.length ∧ l.takeWhile (fun b => !blankB b) = l.take i) := by
  induction l with
  | nil => exact .inl ⟨rfl, rfl⟩
  | cons b t ih =>
    have hb : (([32, 9, 10, 12, 13] : List UInt8).contains b) = blankB b := isBl_eq b
    show (((if ([32, 9, 10, 12, 13] : List UInt8).contains b then (0 : Int) else if Lib.indexAny t [32, 9, 10, 12, 13] == -1 then -1 else Lib.indexAny t [32, 9, 10, 12, 13] + 1) = -1 ∧ _) ∨ ∃ i : Nat, (if ([32, 9, 10, 12, 13] : List UInt8).contains b then (0 : Int) else if Lib.indexAny t [32, 9, 10, 12, 13] == -1 then -1 else Lib.indexAny t [32, 9, 10, 12, 13] + 1) = i ∧ _)
    rw [hb]
    cases hbb : blankB b with
    | true => exact .inr ⟨0, rfl, by simp, by rw [List.takeWhile_cons, hbb]; rfl⟩
    | false =>
      rcases ih with ⟨h1, h2⟩ | ⟨i, h1, h2, h3⟩
      · exact .inl ⟨by rw [h1]; rfl, by rw [List.takeWhile_cons, hbb]; show b :: _ = _; rw [h2]⟩
      · refine .inr ⟨i + 1, ?_, by simpa using h2, by rw [List.takeWhile_cons, hbb]; show b :: _ = _; rw [h3]; rfl⟩
        rw [h1, if_neg (by simp), if_neg (by simp)]
        rfl
set_option maxRecDepth 100000 in
set_option maxHeartbeats 8000000 in
theorem tkDecl_any (w0 w : World) (X : Nat) (s : ByteArray) (r : List UInt8) (E : Int) (O : Value) (hs : s.size ≤ 1000000) (h : Rd w X s r E O) (hlow : Below X w0 w) (h2 : 2 ≤ r.length) (hF : FoldOk w0 X) (hY : AnyOk w0 X) :
    Calls Tryz.prog 44 #[.pointer (some ⟨X, 0, none⟩)] w fun e w' => e = .returned (.tuple #[tokV (declF r).1, .bool (declF r).2.1]) ∧ w.grownBy w' (some X) ∧ Rd w' X s (declF r).2.2 E O := by
  obtain ⟨a, haz, hr, hc0⟩ := rd_at h
  have hX : X < w.heap.size := hc0.lt
  have HTX : Hid (X < w.heap.size) := hX
  obtain ⟨w1, hw1⟩ : ∃ w1, w1 = w.alloc (.cells (tokC 0 ⟨#[]⟩ (.slice none 0 0) ⟨#[]⟩ false 0 0) 32) := ⟨_, rfl⟩
  have hb1 : Below w.heap.size w w1 := by rw [hw1]; exact tal (Below.refl _ _) _
  have HX1 := Lib.hid (show w1.heap[w.heap.size]? = some (.cells (tokC 0 ⟨#[]⟩ (.slice none 0 0) ⟨#[]⟩ false 0 0) 32 (0, 0)) from by rw [hw1]; exact heap_alloc_new w _)
  have HB1 := Lib.hid hb1
  have HR1 := Lib.hid (h.next hb1)
  have HC1 := Lib.hid (hc0.next hb1)
  have HL1 := Lib.hid (hlow.trans (hb1.mono (Nat.le_of_lt hX)))
  have HFO := Lib.hid hF
  have HYO := Lib.hid hY
  have HAZ := Lib.hid haz
  have HDR := Lib.hid hr
  have c0 := HC1.out.c0
  have c1 := HC1.out.c1
  have f1 := HC1.out.fr 1
  have i0 : (0 : Int) ≤ (a : Int) := by omega
  have i1 : (a : Int) ≤ (s.size : Int) := by omega
  have i2 : (a : Int) + 2 ≤ (s.size : Int) := by omega
  obtain ⟨rS, hrS⟩ : ∃ rS : ByteArray, s.extract a s.size = rS := ⟨_, rfl⟩
  have hrl : rS.data.toList = r := by rw [← hrS]; exact rest_str s hr
  have hrz : rS.size = r.length := by rw [← hrl]; simp
  have HPF := Lib.hid (fun u : World => (hrl ▸ Tryz.strings_HasPrefix rS ⟨#[60, 33, 45, 45]⟩ u : Calls Tryz.prog 22 #[.string rS, .string ⟨#[60, 33, 45, 45]⟩] u fun e w' => e = .returned (.bool (Lib.hasPrefix r [60, 33, 45, 45])) ∧ w' = u))
  have HRL := Lib.hid hrl
  have HRZ := Lib.hid hrz
  have hdc : declF r = if Lib.hasPrefix r [60, 33, 45, 45] then
      if Lib.hasPrefix (r.drop 4) [62] then (tkC [], true, r.drop 5)
      else if Lib.hasPrefix (r.drop 4) [45, 62] then (tkC [], true, r.drop 6)
      else comF [45, 45, 62] (r.drop 4)
    else if 9 ≤ r.length ∧ Lib.equalFold (r.take 9) ([60, 33, 100, 111, 99, 116, 121, 112, 101] : List UInt8) = true then (tkD (docN (r.drop 9)), (Lib.cut (r.drop 9) [62]).2.2, (Lib.cut (r.drop 9) [62]).2.1)
    else comF [62] (r.drop 2) := rfl
  have HCM := Lib.hid (fun (r' : List UInt8) (mk : ByteArray) (hmk : mk.size ≤ 1000) (u : World) (h : Rd u X s r' E O) => tkComment_any X s r' mk E O u hs hmk h)
  have H2 := Lib.hid h2
  clear h hlow hF hY haz hr hc0 hX hb1 hrl hrz h2
  cases hp : Lib.hasPrefix r [60, 33, 45, 45] with
  | true =>
    rw [hp] at HPF
    rw [hp, if_pos rfl] at hdc
    obtain ⟨t, ht⟩ := pre_parts hp
    have ht4 : r.drop 4 = t := by rw [ht]; rfl
    have htl : r.length = t.length + 4 := by rw [ht]; simp
    have hd5 : r.drop 5 = t.drop 1 := by rw [ht]; rfl
    have hd6 : r.drop 6 = t.drop 2 := by rw [ht]; rfl
    rw [ht4, hd5, hd6] at hdc
    have HTZ := Lib.hid (show a + 4 + t.length = s.size by have := HAZ.out; omega)
    have HDT := Lib.hid (show s.data.toList.drop (a + 4) = t from by rw [← List.drop_drop, HDR.out, ht4])
    have i4 : (a : Int) + 4 ≤ (s.size : Int) := by have := HTZ.out; omega
    have i40 : (0 : Int) ≤ (a : Int) + 4 := by omega
    have n4 : ((a : Int) + 4).toNat = a + 4 := by omega
    have HDC := Lib.hid hdc
    clear hdc hp ht ht4 htl hd5 hd6
    go_enter Tryz.func44, Tryz.ntmps44
    go_upto_region 1 with fail
    rw [← hw1]
    clear hw1
    go_quiet (fail)
    go_upto_region 5 with ((go_at_call 22; refine (HPF.out _).mono ?_; rintro e w9 ⟨rfl, hw9⟩; subst hw9))
    have hst := Rd.step (w := w1.drewN nq) (n := (a : Int) + 4) (b := a + 4) (by omega) (by have := HTZ.out; omega) HDT.out HC1.out HR1.out.mx
    obtain ⟨w2, hw2⟩ : ∃ w2, w2 = (w1.drewN nq).setCell ⟨X, 1, none⟩ (.int .i64 ((a : Int) + 4)) := ⟨_, rfl⟩
    obtain ⟨w3, hw3⟩ : ∃ w3, w3 = w2.alloc (.cells #[.string ⟨#[62]⟩, .string ⟨#[45, 62]⟩] 9) := ⟨_, rfl⟩
    rw [← hw2, ← hw3]
    rw [← hw2] at hst
    have z2 : w2.heap.size = w1.heap.size := by rw [hw2]; exact World.size_setCell _ _ _
    have hs3 : w3.heap[w1.heap.size]? = some (.cells #[.string ⟨#[62]⟩, .string ⟨#[45, 62]⟩] 9 (0, 0)) := by rw [hw3, ← z2]; exact heap_alloc_new w2 _
    have hb23 : Below w2.heap.size w2 w3 := by rw [hw3]; exact tal (Below.refl _ _) _
    have hr3 := hst.1.next hb23
    have hg3 := (grown_below (tdrewN w1 nq) (some X)).trans (World.grownBy.trans hst.2 (grown_below hb23 _))
    have hc3 : Rc w3 X s (a + 4) E O := by
      obtain ⟨a', ha', _, hc'⟩ := rd_at hr3
      have : a' = a + 4 := by have := HTZ.out; omega
      subst this
      exact hc'
    have HR3 := Lib.hid hr3
    have HG3 := Lib.hid hg3
    have HC3 := Lib.hid hc3
    have HS3 := Lib.hid hs3
    have HX3 := Lib.hid ((hg3.block w.heap.size (Array.getElem?_eq_some_iff.1 HX1.out).1 (by have := HTX.out; simp; omega)).trans HX1.out)
    obtain ⟨tS, htS⟩ : ∃ tS : ByteArray, s.extract (a + 4) s.size = tS := ⟨_, rfl⟩
    have htl : tS.data.toList = t := by rw [← htS]; exact rest_str s HDT.out
    have HP1 := Lib.hid (fun u : World => (htl ▸ Tryz.strings_HasPrefix tS ⟨#[62]⟩ u : Calls Tryz.prog 22 #[.string tS, .string ⟨#[62]⟩] u fun e w' => e = .returned (.bool (Lib.hasPrefix t [62])) ∧ w' = u))
    have HP2 := Lib.hid (fun u : World => (htl ▸ Tryz.strings_HasPrefix tS ⟨#[45, 62]⟩ u : Calls Tryz.prog 22 #[.string tS, .string ⟨#[45, 62]⟩] u fun e w' => e = .returned (.bool (Lib.hasPrefix t [45, 62])) ∧ w' = u))
    clear hst hw2 hw3 z2 hs3 hb23 hr3 hg3 hc3 htl c0 c1 f1
    go_loopw [31] (fun i wr => ∃ k : Nat, i = .int .i64 (k : Int) ∧ Hid (k ≤ 2 ∧ (1 ≤ k → Lib.hasPrefix t [62] = false) ∧ (2 ≤ k → Lib.hasPrefix t [45, 62] = false)) ∧ Hid (Below w3.heap.size w3 wr)) (fun i _ => 2 - (intOf i).toNat)
    case atStart => exact ⟨0, rfl, Lib.hid ⟨by omega, fun h => absurd h (by omega), fun h => absurd h (by omega)⟩, Lib.hid (Below.refl _ _)⟩
    case round =>
      obtain ⟨k, rfl, HK, HB⟩ := hrel
      have sl0 := cell_be (cell_blk (i := 0) HS3.out rfl) HB.out
      have sl1 := cell_be (cell_blk (i := 1) HS3.out rfl) HB.out
      have c0 := (HC3.out.next HB.out).c0
      have c1 := (HC3.out.next HB.out).c1
      have f1 := (HC3.out.next HB.out).fr 1
      rcases (show k = 0 ∨ k = 1 ∨ k = 2 by have := HK.out.1; omega) with rfl | rfl | rfl
      · cases q1 : Lib.hasPrefix t [62] with
        | true =>
          rw [q1] at HP1
          have HDC2 := Lib.hid (show declF r = (tkC [], true, t.drop 1) from by rw [HDC.out, q1]; rfl)
          obtain ⟨t2, ht2⟩ := pre_parts q1
          have hle : 1 ≤ t.length := by rw [ht2]; simp
          have hcw := HC3.out.next HB.out
          have hmw := (HR3.out.next HB.out).mx
          have HST := Lib.hid (fun q : Nat => Rd.step (w := wr.drewN q) (n := (a : Int) + 4 + 1) (b := a + 4 + 1) (by omega) (by have := HTZ.out; omega) (by rw [← List.drop_drop, HDT.out]) hcw hmw)
          clear q1 ht2 hle t2 HP2 HDC hcw hmw
          go_upto_region 7 with fail
          go_quiet ((go_at_call 22; exact Calls.quiet_of_same (HP1.out _)))
          go_upto_region 9 with fail
          have hst := HST.out nq
          obtain ⟨w5, hw5⟩ : ∃ w5, w5 = (wr.drewN nq).setCell ⟨X, 1, none⟩ (.int .i64 ((a : Int) + 4 + 1)) := ⟨_, rfl⟩
          rw [← hw5]
          rw [← hw5] at hst
          have hg15 := HG3.out.trans (((grown_below HB.out (some X)).trans (grown_below (tdrewN wr nq) (some X))).trans hst.2)
          have hZ5 := (hg15.block w.heap.size (Array.getElem?_eq_some_iff.1 HX1.out).1 (by have := HTX.out; simp; omega)).trans HX1.out
          have HZ5 := Lib.hid hZ5
          have HG5 := Lib.hid ((grown_below HB1.out (some X)).trans hg15)
          have HR5 := Lib.hid hst.1
          have d0 := cell_blk (i := 0) hZ5 rfl
          have d1 := cell_blk (i := 1) hZ5 rfl
          have d2 := cell_blk (i := 2) hZ5 rfl
          have d3 := cell_blk (i := 3) hZ5 rfl
          have d4 := cell_blk (i := 4) hZ5 rfl
          have d5 := cell_blk (i := 5) hZ5 rfl
          have d6 := cell_blk (i := 6) hZ5 rfl
          have fd0 := free_blk (i := 0) hZ5
          have fd1 := free_blk (i := 1) hZ5
          have fd2 := free_blk (i := 2) hZ5
          have fd3 := free_blk (i := 3) hZ5
          have fd4 := free_blk (i := 4) hZ5
          have fd5 := free_blk (i := 5) hZ5
          have fd6 := free_blk (i := 6) hZ5
          clear hZ5 hst hw5 hg15 c0 c1 f1 sl0 sl1
          go_wp2_with fail
          have hF := put7_blk (c0 := .int .i64 4) (c1 := .string ⟨#[]⟩) (c2 := .slice none 0 0) (c3 := .string ⟨#[]⟩) (c4 := .bool false) (c5 := .int .i64 0) (c6 := .int .i64 0) HZ5.out
          have cF0 := cell_blk (i := 0) hF rfl
          have cF1 := cell_blk (i := 1) hF rfl
          have cF2 := cell_blk (i := 2) hF rfl
          have cF3 := cell_blk (i := 3) hF rfl
          have cF4 := cell_blk (i := 4) hF rfl
          have cF5 := cell_blk (i := 5) hF rfl
          have cF6 := cell_blk (i := 6) hF rfl
          have hX0 := HTX.out
          refine bodyPost_ret (v := .tuple #[.agg #[.int .i64 4, .string ⟨#[]⟩, .slice none 0 0, .string ⟨#[]⟩, .bool false, .int .i64 0, .int .i64 0], .bool true]) ?_ rfl ⟨by rw [HDC2.out]; rfl, put7_grown HG5.out (Nat.le_refl _), by rw [HDC2.out]; exact put7_rd HR5.out (by omega) (by omega)⟩
          clear hF
          simp [results, Tryz.results44, go_sem, cF0, cF1, cF2, cF3, cF4, cF5, cF6]
        | false =>
          rw [q1] at HP1
          have HN := Lib.hid q1
          clear q1
          go_upto_region 7 with fail
          go_quiet ((go_at_call 22; exact Calls.quiet_of_same (HP1.out _)))
          go_wp2_with fail
          go_roundw
          case rel => exact ⟨1, by go_num, Lib.hid ⟨by omega, by intro _; first | exact HN.out | trivial, fun h => absurd h (by omega)⟩, Lib.hid (HB.out.trans ((tdrewN wr _).mono HB.out.size))⟩
          case measure => simp [intOf]
      · have q1 := HK.out.2.1 (by omega)
        cases q2 : Lib.hasPrefix t [45, 62] with
        | true =>
          rw [q2] at HP2
          have HDC2 := Lib.hid (show declF r = (tkC [], true, t.drop 2) from by rw [HDC.out, q1, q2]; rfl)
          clear q1
          obtain ⟨t2, ht2⟩ := pre_parts q2
          have hle : 2 ≤ t.length := by rw [ht2]; simp
          have hcw := HC3.out.next HB.out
          have hmw := (HR3.out.next HB.out).mx
          have HST := Lib.hid (fun q : Nat => Rd.step (w := wr.drewN q) (n := (a : Int) + 4 + 2) (b := a + 4 + 2) (by omega) (by have := HTZ.out; omega) (by rw [← List.drop_drop, HDT.out]) hcw hmw)
          clear q2 ht2 hle t2 HP1 HDC hcw hmw
          go_upto_region 7 with fail
          go_quiet ((go_at_call 22; exact Calls.quiet_of_same (HP2.out _)))
          go_upto_region 9 with fail
          have hst := HST.out nq
          obtain ⟨w5, hw5⟩ : ∃ w5, w5 = (wr.drewN nq).setCell ⟨X, 1, none⟩ (.int .i64 ((a : Int) + 4 + 2)) := ⟨_, rfl⟩
          rw [← hw5]
          rw [← hw5] at hst
          have hg15 := HG3.out.trans (((grown_below HB.out (some X)).trans (grown_below (tdrewN wr nq) (some X))).trans hst.2)
          have hZ5 := (hg15.block w.heap.size (Array.getElem?_eq_some_iff.1 HX1.out).1 (by have := HTX.out; simp; omega)).trans HX1.out
          have HZ5 := Lib.hid hZ5
          have HG5 := Lib.hid ((grown_below HB1.out (some X)).trans hg15)
          have HR5 := Lib.hid hst.1
          have d0 := cell_blk (i := 0) hZ5 rfl
          have d1 := cell_blk (i := 1) hZ5 rfl
          have d2 := cell_blk (i := 2) hZ5 rfl
          have d3 := cell_blk (i := 3) hZ5 rfl
          have d4 := cell_blk (i := 4) hZ5 rfl
          have d5 := cell_blk (i := 5) hZ5 rfl
          have d6 := cell_blk (i := 6) hZ5 rfl
          have fd0 := free_blk (i := 0) hZ5
          have fd1 := free_blk (i := 1) hZ5
          have fd2 := free_blk (i := 2) hZ5
          have fd3 := free_blk (i := 3) hZ5
          have fd4 := free_blk (i := 4) hZ5
          have fd5 := free_blk (i := 5) hZ5
          have fd6 := free_blk (i := 6) hZ5
          clear hZ5 hst hw5 hg15 c0 c1 f1 sl0 sl1
          go_wp2_with fail
          have hF := put7_blk (c0 := .int .i64 4) (c1 := .string ⟨#[]⟩) (c2 := .slice none 0 0) (c3 := .string ⟨#[]⟩) (c4 := .bool false) (c5 := .int .i64 0) (c6 := .int .i64 0) HZ5.out
          have cF0 := cell_blk (i := 0) hF rfl
          have cF1 := cell_blk (i := 1) hF rfl
          have cF2 := cell_blk (i := 2) hF rfl
          have cF3 := cell_blk (i := 3) hF rfl
          have cF4 := cell_blk (i := 4) hF rfl
          have cF5 := cell_blk (i := 5) hF rfl
          have cF6 := cell_blk (i := 6) hF rfl
          have hX0 := HTX.out
          refine bodyPost_ret (v := .tuple #[.agg #[.int .i64 4, .string ⟨#[]⟩, .slice none 0 0, .string ⟨#[]⟩, .bool false, .int .i64 0, .int .i64 0], .bool true]) ?_ rfl ⟨by rw [HDC2.out]; rfl, put7_grown HG5.out (Nat.le_refl _), by rw [HDC2.out]; exact put7_rd HR5.out (by omega) (by omega)⟩
          clear hF
          simp [results, Tryz.results44, go_sem, cF0, cF1, cF2, cF3, cF4, cF5, cF6]
        | false =>
          rw [q2] at HP2
          have HN := Lib.hid q2
          clear q2 q1
          go_upto_region 7 with fail
          go_quiet ((go_at_call 22; exact Calls.quiet_of_same (HP2.out _)))
          go_wp2_with fail
          go_roundw
          case rel => exact ⟨2, by go_num, Lib.hid ⟨by omega, fun _ => HK.out.2.1 (by omega), by intro _; first | exact HN.out | trivial⟩, Lib.hid (HB.out.trans ((tdrewN wr _).mono HB.out.size))⟩
          case measure => simp [intOf]
      · have q1 := HK.out.2.1 (by omega)
        have q2 := HK.out.2.2 (by omega)
        have HDC := Lib.hid (show declF r = comF [45, 45, 62] t from by rw [HDC.out, q1, q2]; rfl)
        have HTC := Lib.hid (HCM.out t ⟨#[45, 45, 62]⟩ (by decide) wr (HR3.out.next HB.out))
        clear q1 q2
        go_wp2_with (go_at_call 45; refine HTC.out.mono ?_; rintro e w5 ⟨rfl, hg5, hr5⟩; have hg15 := HG3.out.trans ((grown_below HB.out (some X)).trans hg5); have hZ5 := (hg15.block w.heap.size (Array.getElem?_eq_some_iff.1 HX1.out).1 (by have := HTX.out; simp; omega)).trans HX1.out; have HZ5 := Lib.hid hZ5; have HG5 := Lib.hid ((grown_below HB1.out (some X)).trans hg15); have HR5 := Lib.hid hr5; have d0 := cell_blk (i := 0) hZ5 rfl; have d1 := cell_blk (i := 1) hZ5 rfl; have d2 := cell_blk (i := 2) hZ5 rfl; have d3 := cell_blk (i := 3) hZ5 rfl; have d4 := cell_blk (i := 4) hZ5 rfl; have d5 := cell_blk (i := 5) hZ5 rfl; have d6 := cell_blk (i := 6) hZ5 rfl; have fd0 := free_blk (i := 0) hZ5; have fd1 := free_blk (i := 1) hZ5; have fd2 := free_blk (i := 2) hZ5; have fd3 := free_blk (i := 3) hZ5; have fd4 := free_blk (i := 4) hZ5; have fd5 := free_blk (i := 5) hZ5; have fd6 := free_blk (i := 6) hZ5; clear hZ5 hg5 hr5 hg15)
        have hF := put7_blk (c0 := .int .i64 4) (c1 := .string ⟨#[]⟩) (c2 := .slice none 0 0) (c3 := .string (bs (Lib.cut t [45, 45, 62]).1)) (c4 := .bool false) (c5 := .int .i64 0) (c6 := .int .i64 0) HZ5.out
        have cF0 := cell_blk (i := 0) hF rfl
        have cF1 := cell_blk (i := 1) hF rfl
        have cF2 := cell_blk (i := 2) hF rfl
        have cF3 := cell_blk (i := 3) hF rfl
        have cF4 := cell_blk (i := 4) hF rfl
        have cF5 := cell_blk (i := 5) hF rfl
        have cF6 := cell_blk (i := 6) hF rfl
        have hX0 := HTX.out
        refine bodyPost_ret (v := .tuple #[.agg #[.int .i64 4, .string ⟨#[]⟩, .slice none 0 0, .string (bs (Lib.cut t [45, 45, 62]).1), .bool false, .int .i64 0, .int .i64 0], .bool (Lib.cut t [45, 45, 62]).2.2]) ?_ rfl ⟨by rw [HDC.out]; rfl, put7_grown HG5.out (Nat.le_refl _), by rw [HDC.out]; exact put7_rd HR5.out (by omega) (by omega)⟩
        clear hF
        simp [results, Tryz.results44, go_sem, cF0, cF1, cF2, cF3, cF4, cF5, cF6]
  | false =>
    rw [hp] at HPF
    rw [hp, if_neg (by decide)] at hdc
    by_cases hdo : 9 ≤ r.length ∧ Lib.equalFold (r.take 9) ([60, 33, 100, 111, 99, 116, 121, 112, 101] : List UInt8) = true
    · rw [if_pos hdo] at hdc
      obtain ⟨h9, hef⟩ := hdo
      have g9 : (9 : Int) ≤ (rS.size : Int) := by have := HRZ.out; omega
      have g9' : decide ((9 : Int) ≤ (rS.size : Int)) = true := decide_eq_true g9
      obtain ⟨nS, hnS⟩ : ∃ nS : ByteArray, rS.extract 0 9 = nS := ⟨_, rfl⟩
      have hnl : nS.data.toList = r.take 9 := by rw [← hnS, ext_list, HRL.out]; rfl
      have hnz : nS.size ≤ 9 := by
        have h3 : nS.size = nS.data.toList.length := by simp
        rw [h3, hnl, List.length_take]
        omega
      have HEF := Lib.hid (fun (u : World) (hu : Below X w0 u) => HFO.out u hu nS (⟨#[60, 33, 100, 111, 99, 116, 121, 112, 101]⟩ : ByteArray) hnz (by decide) (by decide +kernel))
      rw [hnl] at HEF
      have HEF2 := Lib.hid (fun (u : World) (hu : Below X w0 u) => (show Calls Tryz.prog 39 #[.string nS, .string (⟨#[60, 33, 100, 111, 99, 116, 121, 112, 101]⟩ : ByteArray)] u fun e w' => e = .returned (.bool true) ∧ Below u.heap.size u w' from hef ▸ HEF.out u hu))
      have HST6 := Lib.hid (fun (u : World) (hu : Below w1.heap.size w1 u) => Rd.step (w := u) (n := (a : Int) + 9) (b := a + 9) (by omega) (by have := HAZ.out; omega) (by rw [← List.drop_drop, HDR.out]) (HC1.out.next hu) (HR1.out.next hu).mx)
      have HPA := Lib.hid (fun (u : World) (h : Rd u X s (r.drop 9) E O) => past_any X s (r.drop 9) ⟨#[62]⟩ E O u hs (by decide) h)
      have hcf := tcut_fst (r.drop 9) [62]
      unfold docN at hdc
      change Hid (∀ u, Rd u X s (r.drop 9) E O → Calls Tryz.prog 52 #[.pointer (some ⟨X, 0, none⟩), .string ⟨#[62]⟩] u fun e w' => e = .returned (.tuple #[.string ⟨(Lib.cut (r.drop 9) [62]).1.toArray⟩, .bool (Lib.cut (r.drop 9) [62]).2.2]) ∧ u.grownBy w' (some X) ∧ Rd w' X s (Lib.cut (r.drop 9) [62]).2.1 E O) at HPA
      generalize Lib.cut (r.drop 9) [62] = ct at *
      obtain ⟨k1, k2, k3⟩ := ct
      dsimp only at hdc hcf HPA
      have i9 : (a : Int) + 9 ≤ (s.size : Int) := by have := HAZ.out; omega
      obtain ⟨tS, htS⟩ : ∃ tS : ByteArray, tS = ⟨(k1.dropWhile blankB).toArray⟩ := ⟨_, rfl⟩
      have htl : tS.data.toList = k1.dropWhile blankB := by rw [htS]
      have htz : tS.size = (k1.dropWhile blankB).length := by rw [← htl]; simp
      have HTL := Lib.hid (fun u : World => (show Calls Tryz.prog 53 #[.string ⟨k1.toArray⟩, .string ⟨#[32, 9, 10, 12, 13]⟩] u fun e w' => e = .returned (.string tS) ∧ Below u.heap.size u w' from by rw [htS, ← trim_bl]; exact Any.strings_TrimLeft_laid Tryz.laysTrimL (by kernel_rfl) ⟨k1.toArray⟩ ⟨#[32, 9, 10, 12, 13]⟩ u (by decide) (ascii_of_all (by decide))))
      have htz2 : tS.size ≤ 1000000 := by
        have h4 := dropW_le blankB k1
        have h5 := HAZ.out
        rw [List.length_drop] at hcf
        omega
      have HIA := Lib.hid (fun (u : World) (hu : Below X w0 u) => htl ▸ HYO.out u hu tS htz2)
      rcases any_bl (k1.dropWhile blankB) with ⟨a1, a2⟩ | ⟨i, a1, a2, a3⟩
      · rw [a1] at HIA
        rw [a2] at hdc
        obtain ⟨nm, hnm⟩ : ∃ nm, nm = bs (nameL (k1.dropWhile blankB)) := ⟨_, rfl⟩
        have HNN := Lib.hid (fun u : World => (show Calls Tryz.prog 24 #[.string tS] u fun e w' => e = .returned (.string nm) ∧ Below u.heap.size u w' from by rw [hnm, ← htl]; exact tkName_any tS u))
        have HDC := Lib.hid (show declF r = (⟨5, nm, [], ⟨#[]⟩, false⟩, k3, k2) from by rw [hdc, hnm]; rfl)
        clear HEF hef hnl h9 hdc hp hcf htl htz htz2 htS a1 a2 hnm
        go_enter Tryz.func44, Tryz.ntmps44
        go_upto_region 1 with fail
        rw [← hw1]
        clear hw1
        go_quiet (fail)
        go_wp2_with (first | (go_at_call 22; refine (HPF.out _).mono ?_; rintro e w9 ⟨rfl, hw9⟩; subst hw9) | (go_at_call 39; refine (HEF2.out _ (HL1.out.trans ((tdrewN w1 _).mono (Nat.le_of_lt HC1.out.lt)))).mono ?_; rintro e w6 ⟨rfl, hb6⟩; have hB6 := (tdrewN w1 _).trans hb6; have HB6 := Lib.hid hB6; have c0 := (HC1.out.next hB6).c0; have c1 := (HC1.out.next hB6).c1; have f1 := (HC1.out.next hB6).fr 1; clear hb6 hB6) | (go_at_call 52; refine (HPA.out _ (HST6.out _ HB6.out).1).mono ?_; rintro e w8 ⟨rfl, hg8, hr8⟩; have HG8 := Lib.hid ((grown_below HB6.out (some X)).trans ((HST6.out _ HB6.out).2.trans hg8)); have HR8 := Lib.hid hr8; clear hg8 hr8) | (go_at_call 53; refine (HTL.out _).mono ?_; rintro e w9 ⟨rfl, hb9⟩; have HB9 := Lib.hid hb9; clear hb9) | (go_at_call 54; refine (HIA.out _ ((low_grown HL1.out HG8.out HC1.out.lt).trans (HB9.out.mono (Nat.le_trans (Nat.le_of_lt HC1.out.lt) HG8.out.size)))).mono ?_; rintro e w10 ⟨rfl, hb10⟩; have HB10 := Lib.hid (tst HB9.out hb10); clear hb10) | (go_at_call 24; refine (HNN.out _).mono ?_; rintro e w5 ⟨rfl, hb11⟩; have hbb := tst HB10.out hb11; have hg15 := HG8.out.trans (grown_below hbb (some X)); have hZ5 := (hg15.block w.heap.size (Array.getElem?_eq_some_iff.1 HX1.out).1 (by have := HTX.out; simp; omega)).trans HX1.out; have HZ5 := Lib.hid hZ5; have HG5 := Lib.hid ((grown_below HB1.out (some X)).trans hg15); have HR5 := Lib.hid (HR8.out.next hbb); have d0 := cell_blk (i := 0) hZ5 rfl; have d1 := cell_blk (i := 1) hZ5 rfl; have d2 := cell_blk (i := 2) hZ5 rfl; have d3 := cell_blk (i := 3) hZ5 rfl; have d4 := cell_blk (i := 4) hZ5 rfl; have d5 := cell_blk (i := 5) hZ5 rfl; have d6 := cell_blk (i := 6) hZ5 rfl; have fd0 := free_blk (i := 0) hZ5; have fd1 := free_blk (i := 1) hZ5; have fd2 := free_blk (i := 2) hZ5; have fd3 := free_blk (i := 3) hZ5; have fd4 := free_blk (i := 4) hZ5; have fd5 := free_blk (i := 5) hZ5; have fd6 := free_blk (i := 6) hZ5; clear hZ5 hbb hb11 hg15))
        have hF := put7_blk (c0 := .int .i64 5) (c1 := .string nm) (c2 := .slice none 0 0) (c3 := .string ⟨#[]⟩) (c4 := .bool false) (c5 := .int .i64 0) (c6 := .int .i64 0) HZ5.out
        have cF0 := cell_blk (i := 0) hF rfl
        have cF1 := cell_blk (i := 1) hF rfl
        have cF2 := cell_blk (i := 2) hF rfl
        have cF3 := cell_blk (i := 3) hF rfl
        have cF4 := cell_blk (i := 4) hF rfl
        have cF5 := cell_blk (i := 5) hF rfl
        have cF6 := cell_blk (i := 6) hF rfl
        have hX0 := HTX.out
        refine bodyPost_ret (v := .tuple #[.agg #[.int .i64 5, .string nm, .slice none 0 0, .string ⟨#[]⟩, .bool false, .int .i64 0, .int .i64 0], .bool k3]) ?_ rfl ⟨by rw [HDC.out], put7_grown HG5.out (Nat.le_refl _), by rw [HDC.out]; exact put7_rd HR5.out (by omega) (by omega)⟩
        clear hF
        simp [results, Tryz.results44, go_sem, cF0, cF1, cF2, cF3, cF4, cF5, cF6]
      · rw [a1] at HIA
        rw [a3] at hdc
        have g0 : (0 : Int) ≤ (i : Int) := by omega
        have g0' : decide ((0 : Int) ≤ (i : Int)) = true := decide_eq_true g0
        have g1 : (i : Int) ≤ (tS.size : Int) := by omega
        obtain ⟨mS, hmS⟩ : ∃ mS : ByteArray, tS.extract 0 i = mS := ⟨_, rfl⟩
        have hml : mS.data.toList = (k1.dropWhile blankB).take i := by rw [← hmS, ext_list, htl]; rfl
        obtain ⟨nm, hnm⟩ : ∃ nm, nm = bs (nameL ((k1.dropWhile blankB).take i)) := ⟨_, rfl⟩
        have HNN := Lib.hid (fun u : World => (show Calls Tryz.prog 24 #[.string mS] u fun e w' => e = .returned (.string nm) ∧ Below u.heap.size u w' from by rw [hnm, ← hml]; exact tkName_any mS u))
        have HDC := Lib.hid (show declF r = (⟨5, nm, [], ⟨#[]⟩, false⟩, k3, k2) from by rw [hdc, hnm]; rfl)
        clear HEF hef hnl h9 hdc hp hcf htl htz htz2 htS a1 a2 a3 hnm hml
        go_enter Tryz.func44, Tryz.ntmps44
        go_upto_region 1 with fail
        rw [← hw1]
        clear hw1
        go_quiet (fail)
        go_wp2_with (first | (go_at_call 22; refine (HPF.out _).mono ?_; rintro e w9 ⟨rfl, hw9⟩; subst hw9) | (go_at_call 39; refine (HEF2.out _ (HL1.out.trans ((tdrewN w1 _).mono (Nat.le_of_lt HC1.out.lt)))).mono ?_; rintro e w6 ⟨rfl, hb6⟩; have hB6 := (tdrewN w1 _).trans hb6; have HB6 := Lib.hid hB6; have c0 := (HC1.out.next hB6).c0; have c1 := (HC1.out.next hB6).c1; have f1 := (HC1.out.next hB6).fr 1; clear hb6 hB6) | (go_at_call 52; refine (HPA.out _ (HST6.out _ HB6.out).1).mono ?_; rintro e w8 ⟨rfl, hg8, hr8⟩; have HG8 := Lib.hid ((grown_below HB6.out (some X)).trans ((HST6.out _ HB6.out).2.trans hg8)); have HR8 := Lib.hid hr8; clear hg8 hr8) | (go_at_call 53; refine (HTL.out _).mono ?_; rintro e w9 ⟨rfl, hb9⟩; have HB9 := Lib.hid hb9; clear hb9) | (go_at_call 54; refine (HIA.out _ ((low_grown HL1.out HG8.out HC1.out.lt).trans (HB9.out.mono (Nat.le_trans (Nat.le_of_lt HC1.out.lt) HG8.out.size)))).mono ?_; rintro e w10 ⟨rfl, hb10⟩; have HB10 := Lib.hid (tst HB9.out hb10); clear hb10) | (go_at_call 24; refine (HNN.out _).mono ?_; rintro e w5 ⟨rfl, hb11⟩; have hbb := tst HB10.out hb11; have hg15 := HG8.out.trans (grown_below hbb (some X)); have hZ5 := (hg15.block w.heap.size (Array.getElem?_eq_some_iff.1 HX1.out).1 (by have := HTX.out; simp; omega)).trans HX1.out; have HZ5 := Lib.hid hZ5; have HG5 := Lib.hid ((grown_below HB1.out (some X)).trans hg15); have HR5 := Lib.hid (HR8.out.next hbb); have d0 := cell_blk (i := 0) hZ5 rfl; have d1 := cell_blk (i := 1) hZ5 rfl; have d2 := cell_blk (i := 2) hZ5 rfl; have d3 := cell_blk (i := 3) hZ5 rfl; have d4 := cell_blk (i := 4) hZ5 rfl; have d5 := cell_blk (i := 5) hZ5 rfl; have d6 := cell_blk (i := 6) hZ5 rfl; have fd0 := free_blk (i := 0) hZ5; have fd1 := free_blk (i := 1) hZ5; have fd2 := free_blk (i := 2) hZ5; have fd3 := free_blk (i := 3) hZ5; have fd4 := free_blk (i := 4) hZ5; have fd5 := free_blk (i := 5) hZ5; have fd6 := free_blk (i := 6) hZ5; clear hZ5 hbb hb11 hg15))
        have hF := put7_blk (c0 := .int .i64 5) (c1 := .string nm) (c2 := .slice none 0 0) (c3 := .string ⟨#[]⟩) (c4 := .bool false) (c5 := .int .i64 0) (c6 := .int .i64 0) HZ5.out
        have cF0 := cell_blk (i := 0) hF rfl
        have cF1 := cell_blk (i := 1) hF rfl
        have cF2 := cell_blk (i := 2) hF rfl
        have cF3 := cell_blk (i := 3) hF rfl
        have cF4 := cell_blk (i := 4) hF rfl
        have cF5 := cell_blk (i := 5) hF rfl
        have cF6 := cell_blk (i := 6) hF rfl
        have hX0 := HTX.out
        refine bodyPost_ret (v := .tuple #[.agg #[.int .i64 5, .string nm, .slice none 0 0, .string ⟨#[]⟩, .bool false, .int .i64 0, .int .i64 0], .bool k3]) ?_ rfl ⟨by rw [HDC.out], put7_grown HG5.out (Nat.le_refl _), by rw [HDC.out]; exact put7_rd HR5.out (by omega) (by omega)⟩
        clear hF
        simp [results, Tryz.results44, go_sem, cF0, cF1, cF2, cF3, cF4, cF5, cF6]
    · rw [if_neg hdo] at hdc
      have HDC := Lib.hid hdc
      have HST := Lib.hid (fun k : Nat => Rd.step (w := w1.drewN k) (n := (a : Int) + 2) (b := a + 2) (by omega) (by omega) (by rw [← List.drop_drop, HDR.out]) HC1.out HR1.out.mx)
      have HST6 := Lib.hid (fun (u : World) (hu : Below w1.heap.size w1 u) => Rd.step (w := u) (n := (a : Int) + 2) (b := a + 2) (by omega) (by omega) (by rw [← List.drop_drop, HDR.out]) (HC1.out.next hu) (HR1.out.next hu).mx)
      have HTC := Lib.hid (fun (u : World) (h : Rd u X s (r.drop 2) E O) => HCM.out (r.drop 2) ⟨#[62]⟩ (by decide) u h)
      have HD0 := Lib.hid hdo
      clear hdc hp
      by_cases h9 : 9 ≤ r.length
      · have hef : Lib.equalFold (r.take 9) ([60, 33, 100, 111, 99, 116, 121, 112, 101] : List UInt8) = false := by cases he : Lib.equalFold (r.take 9) ([60, 33, 100, 111, 99, 116, 121, 112, 101] : List UInt8) with | true => exact absurd ⟨h9, he⟩ hdo | false => rfl
        have g9 : (9 : Int) ≤ (rS.size : Int) := by have := HRZ.out; omega
        have g9' : decide ((9 : Int) ≤ (rS.size : Int)) = true := decide_eq_true g9
        obtain ⟨nS, hnS⟩ : ∃ nS : ByteArray, rS.extract 0 9 = nS := ⟨_, rfl⟩
        have hnl : nS.data.toList = r.take 9 := by rw [← hnS, ext_list, HRL.out]; rfl
        have hnz : nS.size ≤ 9 := by
          have h3 : nS.size = nS.data.toList.length := by simp
          rw [h3, hnl, List.length_take]
          omega
        have HEF := Lib.hid (fun (u : World) (hu : Below X w0 u) => HFO.out u hu nS (⟨#[60, 33, 100, 111, 99, 116, 121, 112, 101]⟩ : ByteArray) hnz (by decide) (by decide +kernel))
        rw [hnl] at HEF
        have HEF2 := Lib.hid (fun (u : World) (hu : Below X w0 u) => (show Calls Tryz.prog 39 #[.string nS, .string (⟨#[60, 33, 100, 111, 99, 116, 121, 112, 101]⟩ : ByteArray)] u fun e w' => e = .returned (.bool false) ∧ Below u.heap.size u w' from hef ▸ HEF.out u hu))
        clear HEF hef hnl hdo h9
        go_enter Tryz.func44, Tryz.ntmps44
        go_upto_region 1 with fail
        rw [← hw1]
        clear hw1
        go_quiet (fail)
        go_wp2_with (first | (go_at_call 22; refine (HPF.out _).mono ?_; rintro e w9 ⟨rfl, hw9⟩; subst hw9) | (go_at_call 39; refine (HEF2.out _ (HL1.out.trans ((tdrewN w1 _).mono (Nat.le_of_lt HC1.out.lt)))).mono ?_; rintro e w6 ⟨rfl, hb6⟩; have hB6 := (tdrewN w1 _).trans hb6; have HB6 := Lib.hid hB6; have c0 := (HC1.out.next hB6).c0; have c1 := (HC1.out.next hB6).c1; have f1 := (HC1.out.next hB6).fr 1; clear hb6 hB6) | (go_at_call 45; refine (HTC.out _ (HST6.out _ HB6.out).1).mono ?_; rintro e w5 ⟨rfl, hg5, hr5⟩; have hg15 := (grown_below HB6.out (some X)).trans ((HST6.out _ HB6.out).2.trans hg5); have hZ5 := (hg15.block w.heap.size (Array.getElem?_eq_some_iff.1 HX1.out).1 (by have := HTX.out; simp; omega)).trans HX1.out; have HZ5 := Lib.hid hZ5; have HG5 := Lib.hid ((grown_below HB1.out (some X)).trans hg15); have HR5 := Lib.hid hr5; have d0 := cell_blk (i := 0) hZ5 rfl; have d1 := cell_blk (i := 1) hZ5 rfl; have d2 := cell_blk (i := 2) hZ5 rfl; have d3 := cell_blk (i := 3) hZ5 rfl; have d4 := cell_blk (i := 4) hZ5 rfl; have d5 := cell_blk (i := 5) hZ5 rfl; have d6 := cell_blk (i := 6) hZ5 rfl; have fd0 := free_blk (i := 0) hZ5; have fd1 := free_blk (i := 1) hZ5; have fd2 := free_blk (i := 2) hZ5; have fd3 := free_blk (i := 3) hZ5; have fd4 := free_blk (i := 4) hZ5; have fd5 := free_blk (i := 5) hZ5; have fd6 := free_blk (i := 6) hZ5; clear hZ5 hg5 hr5 hg15))
        have hF := put7_blk (c0 := .int .i64 4) (c1 := .string ⟨#[]⟩) (c2 := .slice none 0 0) (c3 := .string (bs (Lib.cut (r.drop 2) [62]).1)) (c4 := .bool false) (c5 := .int .i64 0) (c6 := .int .i64 0) HZ5.out
        have cF0 := cell_blk (i := 0) hF rfl
        have cF1 := cell_blk (i := 1) hF rfl
        have cF2 := cell_blk (i := 2) hF rfl
        have cF3 := cell_blk (i := 3) hF rfl
        have cF4 := cell_blk (i := 4) hF rfl
        have cF5 := cell_blk (i := 5) hF rfl
        have cF6 := cell_blk (i := 6) hF rfl
        have hX0 := HTX.out
        refine bodyPost_ret (v := .tuple #[.agg #[.int .i64 4, .string ⟨#[]⟩, .slice none 0 0, .string (bs (Lib.cut (r.drop 2) [62]).1), .bool false, .int .i64 0, .int .i64 0], .bool (Lib.cut (r.drop 2) [62]).2.2]) ?_ rfl ⟨by rw [HDC.out]; rfl, put7_grown HG5.out (Nat.le_refl _), by rw [HDC.out]; exact put7_rd HR5.out (by omega) (by omega)⟩
        clear hF
        simp [results, Tryz.results44, go_sem, cF0, cF1, cF2, cF3, cF4, cF5, cF6]
      · have g9 : ¬ (9 : Int) ≤ (rS.size : Int) := by have := HRZ.out; omega
        have g9' : decide ((9 : Int) ≤ (rS.size : Int)) = false := decide_eq_false g9
        clear hdo h9
        go_enter Tryz.func44, Tryz.ntmps44
        go_upto_region 1 with fail
        rw [← hw1]
        clear hw1
        go_quiet (fail)
        go_wp2_with (first | (go_at_call 22; refine (HPF.out _).mono ?_; rintro e w9 ⟨rfl, hw9⟩; subst hw9) | (go_at_call 45; refine (HTC.out _ (HST.out _).1).mono ?_; rintro e w5 ⟨rfl, hg5, hr5⟩; have hg15 := (grown_below (tdrewN w1 _) (some X)).trans ((HST.out _).2.trans hg5); have hZ5 := (hg15.block w.heap.size (Array.getElem?_eq_some_iff.1 HX1.out).1 (by have := HTX.out; simp; omega)).trans HX1.out; have HZ5 := Lib.hid hZ5; have HG5 := Lib.hid ((grown_below HB1.out (some X)).trans hg15); have HR5 := Lib.hid hr5; have d0 := cell_blk (i := 0) hZ5 rfl; have d1 := cell_blk (i := 1) hZ5 rfl; have d2 := cell_blk (i := 2) hZ5 rfl; have d3 := cell_blk (i := 3) hZ5 rfl; have d4 := cell_blk (i := 4) hZ5 rfl; have d5 := cell_blk (i := 5) hZ5 rfl; have d6 := cell_blk (i := 6) hZ5 rfl; have fd0 := free_blk (i := 0) hZ5; have fd1 := free_blk (i := 1) hZ5; have fd2 := free_blk (i := 2) hZ5; have fd3 := free_blk (i := 3) hZ5; have fd4 := free_blk (i := 4) hZ5; have fd5 := free_blk (i := 5) hZ5; have fd6 := free_blk (i := 6) hZ5; clear hZ5 hg5 hr5 hg15))
        have hF := put7_blk (c0 := .int .i64 4) (c1 := .string ⟨#[]⟩) (c2 := .slice none 0 0) (c3 := .string (bs (Lib.cut (r.drop 2) [62]).1)) (c4 := .bool false) (c5 := .int .i64 0) (c6 := .int .i64 0) HZ5.out
        have cF0 := cell_blk (i := 0) hF rfl
        have cF1 := cell_blk (i := 1) hF rfl
        have cF2 := cell_blk (i := 2) hF rfl
        have cF3 := cell_blk (i := 3) hF rfl
        have cF4 := cell_blk (i := 4) hF rfl
        have cF5 := cell_blk (i := 5) hF rfl
        have cF6 := cell_blk (i := 6) hF rfl
        have hX0 := HTX.out
        refine bodyPost_ret (v := .tuple #[.agg #[.int .i64 4, .string ⟨#[]⟩, .slice none 0 0, .string (bs (Lib.cut (r.drop 2) [62]).1), .bool false, .int .i64 0, .int .i64 0], .bool (Lib.cut (r.drop 2) [62]).2.2]) ?_ rfl ⟨by rw [HDC.out]; rfl, put7_grown HG5.out (Nat.le_refl _), by rw [HDC.out]; exact put7_rd HR5.out (by omega) (by omega)⟩
        clear hF
        simp [results, Tryz.results44, go_sem, cF0, cF1, cF2, cF3, cF4, cF5, cF6]
end Go.Proofs.YtbddnohbkafagaaGreatDoor
