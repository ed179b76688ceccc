/-
Tokens: read.
-/
import Derived.Test.YtbddnohbkafagaaGreatDoorTkR5
namespace Go.Proofs.YtbddnohbkafagaaGreatDoor
open Go.RowKit Go.Cl
attribute [local go_sem ↓] Go.wp_at_zero Go.wp_at_succ
theorem grown_none {w W : World} (h : w.grownBy W none) : Below w.heap.size w W := ⟨h.os, h.tape, h.output, h.size, fun k hk => h.block k hk (by simp)⟩
theorem after_plainR {t : Option Tk} (r : List UInt8) (h : rawN (rawOf t) = 0) : afterF t r = (putT (textF r).1 (bs (entT (textF r).1)) r.length (textF r).2.length, (textF r).2) := by
  unfold afterF
  rw [if_neg (by omega)]
theorem after_raw {tn : ByteArray} {ta : List DAttr} {tx : ByteArray} {ts : Bool} (r : List UInt8) (h : 0 < rawN tn.data.toList) : afterF (some ⟨1, tn, ta, tx, ts⟩) r = (putT (rawF tn.data.toList r).1 (bs (rawTx tn.data.toList (rawF tn.data.toList r).1)) r.length (rawF tn.data.toList r).2.length ++ putT (textF (rawF tn.data.toList r).2).1 (bs (entT (textF (rawF tn.data.toList r).2).1)) (rawF tn.data.toList r).2.length (textF (rawF tn.data.toList r).2).2.length, (textF (rawF tn.data.toList r).2).2) := by
  unfold afterF rawTx
  exact if_pos h
theorem put7_new {w5 : World} (o : Obj) (c0 c1 c2 c3 c4 c5 c6 : Value) : Below w5.heap.size w5 (put7 (w5.alloc o) w5.heap.size c0 c1 c2 c3 c4 c5 c6) :=
  grown_none (put7_grown (grown_below (tal (Below.refl _ _) o) none) (Nat.le_refl _))
theorem sl_fresh {w w' : World} {X : Nat} {v : Value} {A : Option Addr} {n c : Nat} {xs : List DAttr} (h : Sl tDA w (fresh X w v) A n c xs) (hb : Below w.heap.size w w') : Sl tDA w' (fresh X w' v) A n c xs :=
  (h.keep fun p hp => World.cell?_of_block (hb.block p.block hp.2.1)).more fun _ hk => ⟨hk.1, Nat.lt_of_lt_of_le hk.2.1 hb.size, hk.2.2⟩
theorem Ra.fin {w0 w : World} {X : Nat} {s : ByteArray} {r : List UInt8} {E : Int} {v : Value} {n : Nat} {toks : List TkP} (h : Ra w0 w X s r E v n toks) (m : Int) : Ra w0 (w.setCell ⟨X, 2, none⟩ (.int .i64 m)) X s r m v n toks := by
  obtain ⟨⟨a, ha, hr, hc⟩, hm⟩ := h.rd
  exact h.go (grown_set w X 2 _) ⟨⟨a, ha, hr, set_blk (i := 2) hc _⟩, mx_grown hm (hc.ne0 hm) (grown_set w X 2 _)⟩
set_option maxRecDepth 100000 in
set_option maxHeartbeats 8000000 in
theorem tkRead_any (w : World) (s : ByteArray) (hs : s.size ≤ 1000000) (hm0 : ∃ m : Int, w.cell? ⟨0, 0, none⟩ = some (.int .i64 m)) (hF : FoldOk w w.heap.size) (hY : AnyOk w w.heap.size) :
    Calls Tryz.prog 19 #[.string s] w fun e w' => e = .returned (.pointer (some ⟨w.heap.size, 0, none⟩)) ∧ ∃ r v n, Ra w w' w.heap.size s r (endOf s 0 (readF s.data.toList).2) v n ((readF s.data.toList).1.map (plOf s)) := by
  obtain ⟨X, hX⟩ : ∃ X, X = w.heap.size := ⟨_, rfl⟩
  rw [← hX] at hF hY
  rw [← hX]
  obtain ⟨l, hl⟩ : ∃ l, s.data.toList = l := ⟨_, rfl⟩
  rw [hl]
  have hlz : l.length = s.size := by rw [← hl]; simp
  obtain ⟨w1, hw1⟩ : ∃ w1, w1 = w.alloc (.cells #[.string s, .int .i64 0, .int .i64 0, .slice none 0 0] 57) := ⟨_, rfl⟩
  have hb1 : Below w.heap.size w w1 := by rw [hw1]; exact tal (Below.refl _ _) _
  have hc1 : Rc w1 X s 0 0 (.slice none 0 0) := by rw [hw1, hX]; exact heap_alloc_new w _
  have HA1 := Lib.hid (show Ra w w1 X s l 0 (.slice none 0 0) 0 [] from ⟨⟨⟨0, Nat.zero_le _, hl, hc1⟩, mx_next hm0 hb1⟩, hX ▸ hb1, Cl.Own.nil _ _ _ _, rfl⟩)
  have HFO := Lib.hid hF
  have HYO := Lib.hid hY
  have HLZ := Lib.hid hlz
  have HT0 := Lib.hid (tkText_any w w1 X s l 0 (.slice none 0 0) 0 [] hs HA1.out (by omega))
  clear hF hY hlz hm0 hb1 hc1
  go_enter Tryz.func19, Tryz.ntmps19
  go_upto_region 2 with fail
  rw [← hw1, ← hX]
  clear hw1 hX
  go_upto_region 3 with (go_at_call 30; refine HT0.out.mono ?_; rintro e w2 ⟨rfl, v2, n2, hA2⟩; have HA2 := Lib.hid hA2; clear hA2)
  go_loopw [] (fun wr => ∃ r E v n toks, Hid (Ra w wr X s r E v n toks) ∧ Hid (toks.length + r.length ≤ s.size) ∧ Hid (r = [] ∨ markF r ≠ 0) ∧ Hid ((readF l).1.map (plOf s) = toks ++ (readM r).1.map (plOf s)) ∧ Hid (endOf s 0 (readF l).2 = endOf s E (readM r).2)) (fun wr => s.size - atOf wr X)
  case atStart =>
    exact ⟨_, _, _, _, _, HA2, Lib.hid (by have h1 := text_few l (bs (entT (textF l).1)) l.length (textF l).2.length; have h2 := HLZ.out; rw [List.nil_append, List.length_map]; omega), Lib.hid (text_mark l), Lib.hid (by unfold readF; dsimp only; rw [List.map_append, List.nil_append]), Lib.hid rfl⟩
  case round =>
    obtain ⟨r, E, v, n, toks, HA, HFW, HM, HT, HE⟩ := hrel
    have HLF := Lib.hid HA.out.rd.left
    obtain ⟨a, haz, hra, hca⟩ := rd_at HA.out.rd
    have c0 := hca.c0
    have c1 := hca.c1
    by_cases hr0 : r = []
    · have g1 : ¬ (a : Int) < (s.size : Int) := by rw [hr0, List.length_nil] at haz; omega
      have g1' : decide ((a : Int) < (s.size : Int)) = false := decide_eq_false g1
      have HT2 := Lib.hid (show (readF l).1.map (plOf s) = toks from by rw [HT.out, hr0, readM_nil]; simp)
      have HE2 := Lib.hid (show endOf s 0 (readF l).2 = E from by rw [HE.out, hr0, readM_nil]; rfl)
      clear hr0 haz hra hca
      go_wp2_with fail
      go_ret
      exact ⟨rfl, r, v, n, by rw [HT2.out, HE2.out]; exact HA.out⟩
    · have hmk : markF r ≠ 0 := HM.out.resolve_left hr0
      obtain ⟨c, q, hrc⟩ : ∃ c q, r = c :: q := by cases r with | nil => exact absurd rfl hr0 | cons c q => exact ⟨c, q, rfl⟩
      have j0 : (0 : Int) ≤ (a : Int) := by omega
      have j1 : (a : Int) < (s.size : Int) := by rw [hrc, List.length_cons] at haz; omega
      have j1' : decide ((a : Int) < (s.size : Int)) = true := decide_eq_true j1
      have hmc := tkMarkup_any X s a a c q E v wr hs hca (hrc ▸ hra)
      rw [← hrc] at hmc
      have hnx := tkNext_any w wr X s r E v hs HA.out.rd HA.out.low (mark_cases hmk) HFO.out HYO.out
      have hst := readM_step hmk
      have HNL := Lib.hid (fun x (h : nextF r = some x) => next_le hmk h)
      have haf : a = s.size - r.length := by omega
      have HAF := Lib.hid haf
      have HAZ := Lib.hid haz
      generalize markF r = mk at hmc hnx
      have HMC := Lib.hid hmc
      unfold NextPost at hnx
      clear hmc hmk hr0 hrc hra hca haf haz HM
      cases hn : nextF r with
      | none =>
        rw [hn] at hnx hst
        dsimp only at hnx hst
        have HNX := Lib.hid hnx
        have HT2 := Lib.hid (show (readF l).1.map (plOf s) = toks from by rw [HT.out, hst]; simp)
        have HE2 := Lib.hid (show endOf s 0 (readF l).2 = E from by rw [HE.out, hst]; rfl)
        clear hnx hst hn HT HE
        go_upto_region 8 with (first | (go_at_call 31; refine HMC.out.mono ?_; rintro e w4 ⟨rfl, hw4⟩; subst hw4) | (go_at_call 32; refine HNX.out.mono ?_; rintro e w5 ⟨hg5, ⟨kd, tn, tA, tm, tc, hkd, rfl⟩, hr5⟩; have HA5 := Lib.hid (HA.out.go hg5 hr5); have HKD := Lib.hid hkd; clear hg5 hr5 hkd))
        obtain ⟨w6, hw6⟩ : ∃ w6, w6 = w5.alloc (.cells #[.int .i64 kd, .string tn, .slice tA tm tc, .string ⟨#[]⟩, .bool false, .int .i64 0, .int .i64 0] 32) := ⟨_, rfl⟩
        have hF6 : w6.heap[w5.heap.size]? = some (.cells #[.int .i64 kd, .string tn, .slice tA tm tc, .string ⟨#[]⟩, .bool false, .int .i64 0, .int .i64 0] 32 (0, 0)) := by rw [hw6]; exact heap_alloc_new w5 _
        have hb6 : Below w5.heap.size w5 w6 := by rw [hw6]; exact tal (Below.refl _ _) _
        rw [← hw6]
        have HF6 := Lib.hid hF6
        have HB6 := Lib.hid hb6
        have d0 := cell_blk (i := 0) hF6 rfl
        have d1 := cell_blk (i := 1) hF6 rfl
        have d2 := cell_blk (i := 2) hF6 rfl
        have d3 := cell_blk (i := 3) hF6 rfl
        have d4 := cell_blk (i := 4) hF6 rfl
        have d5 := cell_blk (i := 5) hF6 rfl
        have d6 := cell_blk (i := 6) hF6 rfl
        clear hF6 hb6 hw6 c0 c1
        rcases HKD.out with rfl | rfl
        · go_wp2_with fail
          go_ret
          exact ⟨rfl, [], v, n, by rw [HT2.out, HE2.out]; exact HA5.out.next HB6.out⟩
        · go_wp2_with fail
          go_ret
          exact ⟨rfl, [], v, n, by rw [HT2.out, HE2.out]; exact HA5.out.next HB6.out⟩
      | some y =>
        obtain ⟨ot, en, r2⟩ := y
        have HLT := Lib.hid (HNL.out _ hn)
        cases ot with
        | none =>
          rw [hn] at hnx hst
          dsimp only at hnx hst HLT
          have HNX := Lib.hid (show Calls Tryz.prog 32 #[.pointer (some ⟨X, 0, none⟩), .int .u8 (mk.toNat : Int)] wr fun e w' => wr.grownBy w' (some X) ∧ (∃ A c, e = .returned (.tuple #[.agg (tokC 0 ⟨#[]⟩ (.slice A 0 c) ⟨#[]⟩ false 0 0), .bool en])) ∧ Rd w' X s r2 E v from hnx.mono (by rintro e w' ⟨h1, ⟨va, h2, h3⟩, h4⟩; obtain ⟨A, c, rfl⟩ := Cl.Own.form h3; exact ⟨h1, ⟨A, c, h2⟩, h4⟩))
          clear hnx hn
          go_upto_region 8 with (first | (go_at_call 31; refine HMC.out.mono ?_; rintro e w4 ⟨rfl, hw4⟩; subst hw4) | (go_at_call 32; refine HNX.out.mono ?_; rintro e w5 ⟨hg5, ⟨tA, tc, rfl⟩, hr5⟩; have HA5 := Lib.hid (HA.out.go hg5 hr5); clear hg5 hr5))
          obtain ⟨w6, hw6⟩ : ∃ w6, w6 = w5.alloc (.cells #[.int .i64 0, .string ⟨#[]⟩, .slice tA 0 tc, .string ⟨#[]⟩, .bool false, .int .i64 0, .int .i64 0] 32) := ⟨_, rfl⟩
          have hF6 : w6.heap[w5.heap.size]? = some (.cells #[.int .i64 0, .string ⟨#[]⟩, .slice tA 0 tc, .string ⟨#[]⟩, .bool false, .int .i64 0, .int .i64 0] 32 (0, 0)) := by rw [hw6]; exact heap_alloc_new w5 _
          have hb6 : Below w5.heap.size w5 w6 := by rw [hw6]; exact tal (Below.refl _ _) _
          rw [← hw6]
          have HF6 := Lib.hid hF6
          have HB6 := Lib.hid hb6
          have d0 := cell_blk (i := 0) hF6 rfl
          have d1 := cell_blk (i := 1) hF6 rfl
          have d2 := cell_blk (i := 2) hF6 rfl
          have d3 := cell_blk (i := 3) hF6 rfl
          have d4 := cell_blk (i := 4) hF6 rfl
          have d5 := cell_blk (i := 5) hF6 rfl
          have d6 := cell_blk (i := 6) hF6 rfl
          clear hF6 hb6 hw6 c0 c1
          have HA6 := Lib.hid (HA5.out.next HB6.out)
          have HTX := Lib.hid (tkText_any w w6 X s r2 E v n toks hs HA6.out (by have h1 := HFW.out; have h2 := HA.out.few; have h3 := HLT.out; omega))
          have hap := after_plainR (t := none) r2 rfl
          rw [hap] at hst
          dsimp only [putM] at hst
          have HT2 := Lib.hid (show (readF l).1.map (plOf s) = (toks ++ (putT (textF r2).1 (bs (entT (textF r2).1)) r2.length (textF r2).2.length).map (plOf s)) ++ (readM (textF r2).2).1.map (plOf s) from by rw [HT.out, hst]; simp [List.append_assoc])
          have HE2 := Lib.hid (show endOf s 0 (readF l).2 = endOf s E (readM (textF r2).2).2 from by rw [HE.out, hst]; cases en <;> simp [endOf])
          have HTF := Lib.hid (text_few r2 (bs (entT (textF r2).1)) r2.length (textF r2).2.length)
          have HTM := Lib.hid (text_mark r2)
          clear hst hap HT HE
          generalize putT (textF r2).1 (bs (entT (textF r2).1)) r2.length (textF r2).2.length = pt at *
          generalize (textF r2).2 = r3 at *
          cases en <;> (
            go_wp2_with (go_at_call 30; refine HTX.out.mono ?_; rintro e w7 ⟨rfl, v7, n7, hA7⟩; have HA7 := Lib.hid hA7; clear hA7)
            go_roundw
            case rel => exact ⟨r3, E, v7, n7, _, HA7, Lib.hid (by have h1 := HFW.out; have h2 := HTF.out; have h3 := HLT.out; rw [List.length_append, List.length_map]; omega), HTM, HT2, HE2⟩
            case measure => have h1 := HA7.out.rd.left; have h2 := HLF.out; have h3 := HTF.out; have h4 := HLT.out; have h5 := HAZ.out; omega)
        | some t =>
          rw [hn] at hnx hst
          dsimp only at hnx hst HLT
          obtain ⟨hkd, hnz, htz, hen⟩ := next_small hn
          have hfw := next_few hn
          obtain ⟨tk, tn, ta, tx, ts⟩ := t
          dsimp only at hkd hnz htz hen hfw
          have HNX := Lib.hid (show Calls Tryz.prog 32 #[.pointer (some ⟨X, 0, none⟩), .int .u8 (mk.toNat : Int)] wr fun e w' => wr.grownBy w' (some X) ∧ (∃ A c, e = .returned (.tuple #[.agg (tokC tk tn (.slice A ta.length c) tx ts 0 0), .bool en]) ∧ Sl tDA w' (fresh X w' v) A ta.length c ta) ∧ Rd w' X s r2 E v from hnx.mono (by rintro e w' ⟨h1, ⟨va, h2, h3⟩, h4⟩; obtain ⟨A, c, rfl, h5⟩ := own_fresh h3 HA.out.xlt (fun g hg => (Cl.Own.lt HA.out.own g hg).2) (by have := HAZ.out; show ta.length * 32 ≤ _; omega); exact ⟨h1, ⟨A, c, h2, h5⟩, h4⟩))
          have HTZ := Lib.hid htz
          clear hnx hn hfw htz
          go_upto_region 8 with (first | (go_at_call 31; refine HMC.out.mono ?_; rintro e w4 ⟨rfl, hw4⟩; subst hw4) | (go_at_call 32; refine HNX.out.mono ?_; rintro e w5 ⟨hg5, ⟨tA, tc, rfl, hsl5⟩, hr5⟩; have HA5 := Lib.hid (HA.out.go hg5 hr5); have HSL5 := Lib.hid hsl5; clear hg5 hr5 hsl5))
          obtain ⟨w6, hw6⟩ : ∃ w6, w6 = w5.alloc (.cells #[.int .i64 tk, .string tn, .slice tA ta.length tc, .string tx, .bool ts, .int .i64 0, .int .i64 0] 32) := ⟨_, rfl⟩
          have hF6 : w6.heap[w5.heap.size]? = some (.cells #[.int .i64 tk, .string tn, .slice tA ta.length tc, .string tx, .bool ts, .int .i64 0, .int .i64 0] 32 (0, 0)) := by rw [hw6]; exact heap_alloc_new w5 _
          have hb6 : Below w5.heap.size w5 w6 := by rw [hw6]; exact tal (Below.refl _ _) _
          rw [← hw6]
          have HF6 := Lib.hid hF6
          have HB6 := Lib.hid hb6
          have d0 := cell_blk (i := 0) hF6 rfl
          have d1 := cell_blk (i := 1) hF6 rfl
          have d2 := cell_blk (i := 2) hF6 rfl
          have d3 := cell_blk (i := 3) hF6 rfl
          have d4 := cell_blk (i := 4) hF6 rfl
          have d5 := cell_blk (i := 5) hF6 rfl
          have d6 := cell_blk (i := 6) hF6 rfl
          clear hF6 hb6 hw6 c0 c1
          have HA6 := Lib.hid (HA5.out.next HB6.out)
          have HPU := Lib.hid (show Calls Tryz.prog 33 #[.pointer (some ⟨X, 0, none⟩), .agg (tokC tk tn (.slice tA ta.length tc) tx ts 0 0), .int .i64 (a : Int)] w6 fun e w' => e = .returned (.tuple #[]) ∧ ∃ v', Ra w w' X s r2 E v' (n + 1) (toks ++ [(⟨tk, tn, ta, tx, ts⟩, (a : Int), ((s.size - r2.length : Nat) : Int))]) ∧ ∀ k, k < w6.heap.size → k ≠ X → v.ownBlock ≠ some k → w'.heap[k]? = w6.heap[k]? from
            tkPut_keep w w6 X s r2 E v n toks ⟨tk, tn, ta, tx, ts⟩ tA ta.length tc (a : Int) hs HA6.out (sl_fresh HSL5.out HB6.out) (by rcases hkd with h | h | h | h <;> (rw [h]; rfl)) (by dsimp only; omega) (by have := HTZ.out; have := HAZ.out; dsimp only; omega) (WalkArith.wf_i64 (by have := HAZ.out; omega)) (by have := HFW.out; have := HA.out.few; omega))
          have HBX := Lib.hid (show w5.heap.size < w6.heap.size ∧ w5.heap.size ≠ X ∧ v.ownBlock ≠ some w5.heap.size from ⟨(Array.getElem?_eq_some_iff.1 HF6.out).1, by have := HA5.out.xlt; omega, fun e => by have := (Cl.Own.lt HA5.out.own _ e).2; omega⟩)
          clear hnz
          rcases hkd with rfl | rfl | rfl | rfl
          · obtain rfl : en = true := by cases en with | true => rfl | false => rcases hen rfl with h | h <;> exact absurd h (by decide)
            clear hen
            rcases Nat.eq_zero_or_pos (rawN tn.data.toList) with h0 | hp
            · have HRN := Lib.hid (show rawN (rawOf (some ⟨1, tn, ta, tx, ts⟩)) = 0 from h0)
              have HRW := Lib.hid (fun u : World => (show Calls Tryz.prog 25 #[.string tn] u fun e w' => e = .returned (.int .i64 0) ∧ w' = u from by have h1 := raw_any tn u; rw [h0] at h1; exact h1))
              clear h0
              go_upto_region 13 with (go_at_call 33; refine HPU.out.mono ?_; rintro e w7 ⟨rfl, v7, hA7, hk7⟩; have hF7 := (hk7 _ HBX.out.1 HBX.out.2.1 HBX.out.2.2).trans HF6.out; obtain ⟨a7, haz7, hra7, hc7⟩ := rd_at hA7.rd; have c1 := hc7.c1; have c2 := hc7.c2; have f2 := hc7.fr 2; have HA7 := Lib.hid hA7; have HF7 := Lib.hid hF7; have HZ7 := Lib.hid haz7; clear d0 d1 d2 d3 d4 d5 d6; have d0 := cell_blk (i := 0) hF7 rfl; have d1 := cell_blk (i := 1) hF7 rfl; have d2 := cell_blk (i := 2) hF7 rfl; have d3 := cell_blk (i := 3) hF7 rfl; have d4 := cell_blk (i := 4) hF7 rfl; have d5 := cell_blk (i := 5) hF7 rfl; have d6 := cell_blk (i := 6) hF7 rfl; clear hA7 hk7 hF7 haz7 hra7 hc7)
              have hF8 := (heap_setCell_other w7 ⟨X, 2, none⟩ w5.heap.size (.int .i64 (a7 : Int)) HBX.out.2.1).trans HF7.out
              have hA8 := HA7.out.fin (a7 : Int)
              obtain ⟨w8, hw8⟩ : ∃ w8, w8 = w7.setCell ⟨X, 2, none⟩ (.int .i64 (a7 : Int)) := ⟨_, rfl⟩
              rw [← hw8]
              rw [← hw8] at hF8 hA8
              clear hw8 c1 c2 f2 d0 d1 d2 d3 d4 d5 d6
              have d0 := cell_blk (i := 0) hF8 rfl
              have d1 := cell_blk (i := 1) hF8 rfl
              have d2 := cell_blk (i := 2) hF8 rfl
              have d3 := cell_blk (i := 3) hF8 rfl
              have d4 := cell_blk (i := 4) hF8 rfl
              have d5 := cell_blk (i := 5) hF8 rfl
              have d6 := cell_blk (i := 6) hF8 rfl
              have HA8 := Lib.hid hA8
              clear hF8 hA8
              have HTX := Lib.hid (tkText_any w w8 X s r2 (a7 : Int) v7 (n + 1) (toks ++ [(⟨1, tn, ta, tx, ts⟩, (a : Int), ((s.size - r2.length : Nat) : Int))]) hs HA8.out (by have h1 := HFW.out; have h2 := HA.out.few; have h3 := HLT.out; omega))
              have hap := after_plainR (t := some ⟨1, tn, ta, tx, ts⟩) r2 HRN.out
              rw [hap] at hst
              dsimp only [putM] at hst
              have HT2 := Lib.hid (show (readF l).1.map (plOf s) = ((toks ++ [(⟨1, tn, ta, tx, ts⟩, (a : Int), ((s.size - r2.length : Nat) : Int))]) ++ (putT (textF r2).1 (bs (entT (textF r2).1)) r2.length (textF r2).2.length).map (plOf s)) ++ (readM (textF r2).2).1.map (plOf s) from by rw [HT.out, hst, HAF.out]; simp [List.append_assoc, plOf])
              have HE2 := Lib.hid (show endOf s 0 (readF l).2 = endOf s (a7 : Int) (readM (textF r2).2).2 from by rw [HE.out, hst, show a7 = s.size - r2.length by have := HZ7.out; omega]; dsimp only; rw [end_or]; rfl)
              have HTF := Lib.hid (text_few r2 (bs (entT (textF r2).1)) r2.length (textF r2).2.length)
              have HTM := Lib.hid (text_mark r2)
              clear hst hap HT HE HRN
              generalize putT (textF r2).1 (bs (entT (textF r2).1)) r2.length (textF r2).2.length = pt at *
              generalize (textF r2).2 = r3 at *
              go_wp2_with (first | (go_at_call 25; refine (HRW.out _).mono ?_; rintro e wz ⟨rfl, hwz⟩; subst hwz) | (go_at_call 30; refine HTX.out.mono ?_; rintro e w9 ⟨rfl, v9, n9, hA9⟩; have HA9 := Lib.hid hA9; clear hA9))
              go_roundw
              case rel => exact ⟨r3, (a7 : Int), v9, n9, _, HA9, Lib.hid (by have h1 := HFW.out; have h2 := HTF.out; have h3 := HLT.out; simp only [List.length_append, List.length_map, List.length_cons, List.length_nil]; omega), HTM, HT2, HE2⟩
              case measure => have h1 := HA9.out.rd.left; have h2 := HLF.out; have h3 := HTF.out; have h4 := HLT.out; have h5 := HAZ.out; omega
            · obtain ⟨kN, hkN⟩ : ∃ kN, rawN tn.data.toList = kN := ⟨_, rfl⟩
              have HRW := Lib.hid (fun u : World => (show Calls Tryz.prog 25 #[.string tn] u fun e w' => e = .returned (.int .i64 (kN : Int)) ∧ w' = u from by have h1 := raw_any tn u; rw [hkN] at h1; exact h1))
              have g0 : (0 : Int) < (kN : Int) := by omega
              have g0' : decide ((0 : Int) < (kN : Int)) = true := decide_eq_true g0
              have HSM := Lib.hid (rawN_small hp)
              rw [after_raw r2 hp] at hst
              dsimp only [putM] at hst
              clear hp hkN
              go_upto_region 13 with (go_at_call 33; refine HPU.out.mono ?_; rintro e w7 ⟨rfl, v7, hA7, hk7⟩; have hF7 := (hk7 _ HBX.out.1 HBX.out.2.1 HBX.out.2.2).trans HF6.out; obtain ⟨a7, haz7, hra7, hc7⟩ := rd_at hA7.rd; have c1 := hc7.c1; have c2 := hc7.c2; have f2 := hc7.fr 2; have HA7 := Lib.hid hA7; have HF7 := Lib.hid hF7; have HZ7 := Lib.hid haz7; clear d0 d1 d2 d3 d4 d5 d6; have d0 := cell_blk (i := 0) hF7 rfl; have d1 := cell_blk (i := 1) hF7 rfl; have d2 := cell_blk (i := 2) hF7 rfl; have d3 := cell_blk (i := 3) hF7 rfl; have d4 := cell_blk (i := 4) hF7 rfl; have d5 := cell_blk (i := 5) hF7 rfl; have d6 := cell_blk (i := 6) hF7 rfl; clear hA7 hk7 hF7 haz7 hra7 hc7)
              have hF8 := (heap_setCell_other w7 ⟨X, 2, none⟩ w5.heap.size (.int .i64 (a7 : Int)) HBX.out.2.1).trans HF7.out
              have hA8 := HA7.out.fin (a7 : Int)
              obtain ⟨w8, hw8⟩ : ∃ w8, w8 = w7.setCell ⟨X, 2, none⟩ (.int .i64 (a7 : Int)) := ⟨_, rfl⟩
              rw [← hw8]
              rw [← hw8] at hF8 hA8
              clear hw8 c1 c2 f2 d0 d1 d2 d3 d4 d5 d6
              have d0 := cell_blk (i := 0) hF8 rfl
              have d1 := cell_blk (i := 1) hF8 rfl
              have d2 := cell_blk (i := 2) hF8 rfl
              have d3 := cell_blk (i := 3) hF8 rfl
              have d4 := cell_blk (i := 4) hF8 rfl
              have d5 := cell_blk (i := 5) hF8 rfl
              have d6 := cell_blk (i := 6) hF8 rfl
              have HA8 := Lib.hid hA8
              clear hF8 hA8
              have hra := tkRaw_any w w8 X s r2 tn (a7 : Int) v7 (n + 1) (toks ++ [(⟨1, tn, ta, tx, ts⟩, (a : Int), ((s.size - r2.length : Nat) : Int))]) hs HA8.out (by have h1 := HFW.out; have h2 := HA.out.few; have h3 := HLT.out; omega) HFO.out (by have h1 := HSM.out.1; have h2 : tn.data.toList.length = tn.size := (by simp); omega) HSM.out.2
              have hrf := raw_few tn.data.toList r2 (bs (rawTx tn.data.toList (rawF tn.data.toList r2).1)) r2.length (rawF tn.data.toList r2).2.length
              generalize putT (rawF tn.data.toList r2).1 (bs (rawTx tn.data.toList (rawF tn.data.toList r2).1)) r2.length (rawF tn.data.toList r2).2.length = pr at *
              generalize (rawF tn.data.toList r2).2 = r9 at *
              have HRA := Lib.hid hra
              have HRF := Lib.hid hrf
              have HT2 := Lib.hid (show (readF l).1.map (plOf s) = (((toks ++ [(⟨1, tn, ta, tx, ts⟩, (a : Int), ((s.size - r2.length : Nat) : Int))]) ++ pr.map (plOf s)) ++ (putT (textF r9).1 (bs (entT (textF r9).1)) r9.length (textF r9).2.length).map (plOf s)) ++ (readM (textF r9).2).1.map (plOf s) from by rw [HT.out, hst, HAF.out]; simp [List.append_assoc, plOf])
              have HE2 := Lib.hid (show endOf s 0 (readF l).2 = endOf s (a7 : Int) (readM (textF r9).2).2 from by rw [HE.out, hst, show a7 = s.size - r2.length by have := HZ7.out; omega]; dsimp only; rw [end_or]; rfl)
              have HTF := Lib.hid (text_few r9 (bs (entT (textF r9).1)) r9.length (textF r9).2.length)
              have HTM := Lib.hid (text_mark r9)
              have HTT := Lib.hid (fun (u : World) (vu : Value) (nu : Nat) (h : Ra w u X s r9 (a7 : Int) vu nu ((toks ++ [(⟨1, tn, ta, tx, ts⟩, (a : Int), ((s.size - r2.length : Nat) : Int))]) ++ pr.map (plOf s))) => tkText_any w u X s r9 (a7 : Int) vu nu ((toks ++ [(⟨1, tn, ta, tx, ts⟩, (a : Int), ((s.size - r2.length : Nat) : Int))]) ++ pr.map (plOf s)) hs h (by have h1 := HFW.out; have h3 := HLT.out; have h4 := hrf; have h5 := h.few; simp only [List.length_append, List.length_map, List.length_cons, List.length_nil] at h5; omega))
              clear hst HT HE hra hrf
              generalize putT (textF r9).1 (bs (entT (textF r9).1)) r9.length (textF r9).2.length = pt at *
              generalize (textF r9).2 = r3 at *
              go_wp2_with (first | (go_at_call 25; refine (HRW.out _).mono ?_; rintro e wz ⟨rfl, hwz⟩; subst hwz) | (go_at_call 34; refine HRA.out.mono ?_; rintro e w9 ⟨rfl, v9, n9, hA9⟩; have HTX := Lib.hid (HTT.out _ _ _ hA9); clear hA9) | (go_at_call 30; refine HTX.out.mono ?_; rintro e w10 ⟨rfl, v10, n10, hA10⟩; have HA9 := Lib.hid hA10; clear hA10))
              go_roundw
              case rel => exact ⟨r3, (a7 : Int), v10, n10, _, HA9, Lib.hid (by have h1 := HFW.out; have h2 := HTF.out; have h3 := HLT.out; have h4 := HRF.out; simp only [List.length_append, List.length_map, List.length_cons, List.length_nil]; omega), HTM, HT2, HE2⟩
              case measure => have h1 := HA9.out.rd.left; have h2 := HLF.out; have h3 := HTF.out; have h4 := HLT.out; have h5 := HAZ.out; have h6 := HRF.out; omega
          · obtain rfl : en = true := by cases en with | true => rfl | false => rcases hen rfl with h | h <;> exact absurd h (by decide)
            have HRN := Lib.hid (show rawN (rawOf (some ⟨2, tn, ta, tx, ts⟩)) = 0 from rfl)
            clear hen
            go_upto_region 13 with (go_at_call 33; refine HPU.out.mono ?_; rintro e w7 ⟨rfl, v7, hA7, hk7⟩; have hF7 := (hk7 _ HBX.out.1 HBX.out.2.1 HBX.out.2.2).trans HF6.out; obtain ⟨a7, haz7, hra7, hc7⟩ := rd_at hA7.rd; have c1 := hc7.c1; have c2 := hc7.c2; have f2 := hc7.fr 2; have HA7 := Lib.hid hA7; have HF7 := Lib.hid hF7; have HZ7 := Lib.hid haz7; clear d0 d1 d2 d3 d4 d5 d6; have d0 := cell_blk (i := 0) hF7 rfl; have d1 := cell_blk (i := 1) hF7 rfl; have d2 := cell_blk (i := 2) hF7 rfl; have d3 := cell_blk (i := 3) hF7 rfl; have d4 := cell_blk (i := 4) hF7 rfl; have d5 := cell_blk (i := 5) hF7 rfl; have d6 := cell_blk (i := 6) hF7 rfl; clear hA7 hk7 hF7 haz7 hra7 hc7)
            have hF8 := (heap_setCell_other w7 ⟨X, 2, none⟩ w5.heap.size (.int .i64 (a7 : Int)) HBX.out.2.1).trans HF7.out
            have hA8 := HA7.out.fin (a7 : Int)
            obtain ⟨w8, hw8⟩ : ∃ w8, w8 = w7.setCell ⟨X, 2, none⟩ (.int .i64 (a7 : Int)) := ⟨_, rfl⟩
            rw [← hw8]
            rw [← hw8] at hF8 hA8
            clear hw8 c1 c2 f2 d0 d1 d2 d3 d4 d5 d6
            have d0 := cell_blk (i := 0) hF8 rfl
            have d1 := cell_blk (i := 1) hF8 rfl
            have d2 := cell_blk (i := 2) hF8 rfl
            have d3 := cell_blk (i := 3) hF8 rfl
            have d4 := cell_blk (i := 4) hF8 rfl
            have d5 := cell_blk (i := 5) hF8 rfl
            have d6 := cell_blk (i := 6) hF8 rfl
            have HA8 := Lib.hid hA8
            clear hF8 hA8
            have HTX := Lib.hid (tkText_any w w8 X s r2 (a7 : Int) v7 (n + 1) (toks ++ [(⟨2, tn, ta, tx, ts⟩, (a : Int), ((s.size - r2.length : Nat) : Int))]) hs HA8.out (by have h1 := HFW.out; have h2 := HA.out.few; have h3 := HLT.out; omega))
            have hap := after_plainR (t := some ⟨2, tn, ta, tx, ts⟩) r2 HRN.out
            rw [hap] at hst
            dsimp only [putM] at hst
            have HT2 := Lib.hid (show (readF l).1.map (plOf s) = ((toks ++ [(⟨2, tn, ta, tx, ts⟩, (a : Int), ((s.size - r2.length : Nat) : Int))]) ++ (putT (textF r2).1 (bs (entT (textF r2).1)) r2.length (textF r2).2.length).map (plOf s)) ++ (readM (textF r2).2).1.map (plOf s) from by rw [HT.out, hst, HAF.out]; simp [List.append_assoc, plOf])
            have HE2 := Lib.hid (show endOf s 0 (readF l).2 = endOf s (a7 : Int) (readM (textF r2).2).2 from by rw [HE.out, hst, show a7 = s.size - r2.length by have := HZ7.out; omega]; dsimp only; rw [end_or]; rfl)
            have HTF := Lib.hid (text_few r2 (bs (entT (textF r2).1)) r2.length (textF r2).2.length)
            have HTM := Lib.hid (text_mark r2)
            clear hst hap HT HE HRN
            generalize putT (textF r2).1 (bs (entT (textF r2).1)) r2.length (textF r2).2.length = pt at *
            generalize (textF r2).2 = r3 at *
            go_wp2_with (first | (go_at_call 25; refine (HRW.out _).mono ?_; rintro e wz ⟨rfl, hwz⟩; subst hwz) | (go_at_call 30; refine HTX.out.mono ?_; rintro e w9 ⟨rfl, v9, n9, hA9⟩; have HA9 := Lib.hid hA9; clear hA9))
            go_roundw
            case rel => exact ⟨r3, (a7 : Int), v9, n9, _, HA9, Lib.hid (by have h1 := HFW.out; have h2 := HTF.out; have h3 := HLT.out; simp only [List.length_append, List.length_map, List.length_cons, List.length_nil]; omega), HTM, HT2, HE2⟩
            case measure => have h1 := HA9.out.rd.left; have h2 := HLF.out; have h3 := HTF.out; have h4 := HLT.out; have h5 := HAZ.out; omega
          · have HRN := Lib.hid (show rawN (rawOf (some ⟨4, tn, ta, tx, ts⟩)) = 0 from rfl)
            clear hen
            cases en with
            | true =>
              go_upto_region 13 with (go_at_call 33; refine HPU.out.mono ?_; rintro e w7 ⟨rfl, v7, hA7, hk7⟩; have hF7 := (hk7 _ HBX.out.1 HBX.out.2.1 HBX.out.2.2).trans HF6.out; obtain ⟨a7, haz7, hra7, hc7⟩ := rd_at hA7.rd; have c1 := hc7.c1; have c2 := hc7.c2; have f2 := hc7.fr 2; have HA7 := Lib.hid hA7; have HF7 := Lib.hid hF7; have HZ7 := Lib.hid haz7; clear d0 d1 d2 d3 d4 d5 d6; have d0 := cell_blk (i := 0) hF7 rfl; have d1 := cell_blk (i := 1) hF7 rfl; have d2 := cell_blk (i := 2) hF7 rfl; have d3 := cell_blk (i := 3) hF7 rfl; have d4 := cell_blk (i := 4) hF7 rfl; have d5 := cell_blk (i := 5) hF7 rfl; have d6 := cell_blk (i := 6) hF7 rfl; clear hA7 hk7 hF7 haz7 hra7 hc7)
              have hF8 := (heap_setCell_other w7 ⟨X, 2, none⟩ w5.heap.size (.int .i64 (a7 : Int)) HBX.out.2.1).trans HF7.out
              have hA8 := HA7.out.fin (a7 : Int)
              obtain ⟨w8, hw8⟩ : ∃ w8, w8 = w7.setCell ⟨X, 2, none⟩ (.int .i64 (a7 : Int)) := ⟨_, rfl⟩
              rw [← hw8]
              rw [← hw8] at hF8 hA8
              clear hw8 c1 c2 f2 d0 d1 d2 d3 d4 d5 d6
              have d0 := cell_blk (i := 0) hF8 rfl
              have d1 := cell_blk (i := 1) hF8 rfl
              have d2 := cell_blk (i := 2) hF8 rfl
              have d3 := cell_blk (i := 3) hF8 rfl
              have d4 := cell_blk (i := 4) hF8 rfl
              have d5 := cell_blk (i := 5) hF8 rfl
              have d6 := cell_blk (i := 6) hF8 rfl
              have HA8 := Lib.hid hA8
              clear hF8 hA8
              have HTX := Lib.hid (tkText_any w w8 X s r2 (a7 : Int) v7 (n + 1) (toks ++ [(⟨4, tn, ta, tx, ts⟩, (a : Int), ((s.size - r2.length : Nat) : Int))]) hs HA8.out (by have h1 := HFW.out; have h2 := HA.out.few; have h3 := HLT.out; omega))
              have hap := after_plainR (t := some ⟨4, tn, ta, tx, ts⟩) r2 HRN.out
              rw [hap] at hst
              dsimp only [putM] at hst
              have HT2 := Lib.hid (show (readF l).1.map (plOf s) = ((toks ++ [(⟨4, tn, ta, tx, ts⟩, (a : Int), ((s.size - r2.length : Nat) : Int))]) ++ (putT (textF r2).1 (bs (entT (textF r2).1)) r2.length (textF r2).2.length).map (plOf s)) ++ (readM (textF r2).2).1.map (plOf s) from by rw [HT.out, hst, HAF.out]; simp [List.append_assoc, plOf])
              have HE2 := Lib.hid (show endOf s 0 (readF l).2 = endOf s (a7 : Int) (readM (textF r2).2).2 from by rw [HE.out, hst, show a7 = s.size - r2.length by have := HZ7.out; omega]; dsimp only; rw [end_or]; rfl)
              have HTF := Lib.hid (text_few r2 (bs (entT (textF r2).1)) r2.length (textF r2).2.length)
              have HTM := Lib.hid (text_mark r2)
              clear hst hap HT HE HRN
              generalize putT (textF r2).1 (bs (entT (textF r2).1)) r2.length (textF r2).2.length = pt at *
              generalize (textF r2).2 = r3 at *
              go_wp2_with (first | (go_at_call 25; refine (HRW.out _).mono ?_; rintro e wz ⟨rfl, hwz⟩; subst hwz) | (go_at_call 30; refine HTX.out.mono ?_; rintro e w9 ⟨rfl, v9, n9, hA9⟩; have HA9 := Lib.hid hA9; clear hA9))
              go_roundw
              case rel => exact ⟨r3, (a7 : Int), v9, n9, _, HA9, Lib.hid (by have h1 := HFW.out; have h2 := HTF.out; have h3 := HLT.out; simp only [List.length_append, List.length_map, List.length_cons, List.length_nil]; omega), HTM, HT2, HE2⟩
              case measure => have h1 := HA9.out.rd.left; have h2 := HLF.out; have h3 := HTF.out; have h4 := HLT.out; have h5 := HAZ.out; omega
            | false =>
              go_upto_region 13 with (go_at_call 33; refine HPU.out.mono ?_; rintro e w7 ⟨rfl, v7, hA7, hk7⟩; have hF7 := (hk7 _ HBX.out.1 HBX.out.2.1 HBX.out.2.2).trans HF6.out; obtain ⟨a7, haz7, hra7, hc7⟩ := rd_at hA7.rd; have c1 := hc7.c1; have c2 := hc7.c2; have f2 := hc7.fr 2; have HA7 := Lib.hid hA7; have HF7 := Lib.hid hF7; have HZ7 := Lib.hid haz7; clear d0 d1 d2 d3 d4 d5 d6; have d0 := cell_blk (i := 0) hF7 rfl; have d1 := cell_blk (i := 1) hF7 rfl; have d2 := cell_blk (i := 2) hF7 rfl; have d3 := cell_blk (i := 3) hF7 rfl; have d4 := cell_blk (i := 4) hF7 rfl; have d5 := cell_blk (i := 5) hF7 rfl; have d6 := cell_blk (i := 6) hF7 rfl; clear hA7 hk7 hF7 haz7 hra7 hc7)
              have HTX := Lib.hid (tkText_any w w7 X s r2 E v7 (n + 1) (toks ++ [(⟨4, tn, ta, tx, ts⟩, (a : Int), ((s.size - r2.length : Nat) : Int))]) hs HA7.out (by have h1 := HFW.out; have h2 := HA.out.few; have h3 := HLT.out; omega))
              have hap := after_plainR (t := some ⟨4, tn, ta, tx, ts⟩) r2 HRN.out
              rw [hap] at hst
              dsimp only [putM] at hst
              have HT2 := Lib.hid (show (readF l).1.map (plOf s) = ((toks ++ [(⟨4, tn, ta, tx, ts⟩, (a : Int), ((s.size - r2.length : Nat) : Int))]) ++ (putT (textF r2).1 (bs (entT (textF r2).1)) r2.length (textF r2).2.length).map (plOf s)) ++ (readM (textF r2).2).1.map (plOf s) from by rw [HT.out, hst, HAF.out]; simp [List.append_assoc, plOf])
              have HE2 := Lib.hid (show endOf s 0 (readF l).2 = endOf s E (readM (textF r2).2).2 from by rw [HE.out, hst]; dsimp only; rw [end_or]; rfl)
              have HTF := Lib.hid (text_few r2 (bs (entT (textF r2).1)) r2.length (textF r2).2.length)
              have HTM := Lib.hid (text_mark r2)
              clear hst hap HT HE HRN
              generalize putT (textF r2).1 (bs (entT (textF r2).1)) r2.length (textF r2).2.length = pt at *
              generalize (textF r2).2 = r3 at *
              go_wp2_with (first | (go_at_call 25; refine (HRW.out _).mono ?_; rintro e wz ⟨rfl, hwz⟩; subst hwz) | (go_at_call 30; refine HTX.out.mono ?_; rintro e w9 ⟨rfl, v9, n9, hA9⟩; have HA9 := Lib.hid hA9; clear hA9))
              go_roundw
              case rel => exact ⟨r3, E, v9, n9, _, HA9, Lib.hid (by have h1 := HFW.out; have h2 := HTF.out; have h3 := HLT.out; simp only [List.length_append, List.length_map, List.length_cons, List.length_nil]; omega), HTM, HT2, HE2⟩
              case measure => have h1 := HA9.out.rd.left; have h2 := HLF.out; have h3 := HTF.out; have h4 := HLT.out; have h5 := HAZ.out; omega
          · have HRN := Lib.hid (show rawN (rawOf (some ⟨5, tn, ta, tx, ts⟩)) = 0 from rfl)
            clear hen
            cases en with
            | true =>
              go_upto_region 13 with (go_at_call 33; refine HPU.out.mono ?_; rintro e w7 ⟨rfl, v7, hA7, hk7⟩; have hF7 := (hk7 _ HBX.out.1 HBX.out.2.1 HBX.out.2.2).trans HF6.out; obtain ⟨a7, haz7, hra7, hc7⟩ := rd_at hA7.rd; have c1 := hc7.c1; have c2 := hc7.c2; have f2 := hc7.fr 2; have HA7 := Lib.hid hA7; have HF7 := Lib.hid hF7; have HZ7 := Lib.hid haz7; clear d0 d1 d2 d3 d4 d5 d6; have d0 := cell_blk (i := 0) hF7 rfl; have d1 := cell_blk (i := 1) hF7 rfl; have d2 := cell_blk (i := 2) hF7 rfl; have d3 := cell_blk (i := 3) hF7 rfl; have d4 := cell_blk (i := 4) hF7 rfl; have d5 := cell_blk (i := 5) hF7 rfl; have d6 := cell_blk (i := 6) hF7 rfl; clear hA7 hk7 hF7 haz7 hra7 hc7)
              have hF8 := (heap_setCell_other w7 ⟨X, 2, none⟩ w5.heap.size (.int .i64 (a7 : Int)) HBX.out.2.1).trans HF7.out
              have hA8 := HA7.out.fin (a7 : Int)
              obtain ⟨w8, hw8⟩ : ∃ w8, w8 = w7.setCell ⟨X, 2, none⟩ (.int .i64 (a7 : Int)) := ⟨_, rfl⟩
              rw [← hw8]
              rw [← hw8] at hF8 hA8
              clear hw8 c1 c2 f2 d0 d1 d2 d3 d4 d5 d6
              have d0 := cell_blk (i := 0) hF8 rfl
              have d1 := cell_blk (i := 1) hF8 rfl
              have d2 := cell_blk (i := 2) hF8 rfl
              have d3 := cell_blk (i := 3) hF8 rfl
              have d4 := cell_blk (i := 4) hF8 rfl
              have d5 := cell_blk (i := 5) hF8 rfl
              have d6 := cell_blk (i := 6) hF8 rfl
              have HA8 := Lib.hid hA8
              clear hF8 hA8
              have HTX := Lib.hid (tkText_any w w8 X s r2 (a7 : Int) v7 (n + 1) (toks ++ [(⟨5, tn, ta, tx, ts⟩, (a : Int), ((s.size - r2.length : Nat) : Int))]) hs HA8.out (by have h1 := HFW.out; have h2 := HA.out.few; have h3 := HLT.out; omega))
              have hap := after_plainR (t := some ⟨5, tn, ta, tx, ts⟩) r2 HRN.out
              rw [hap] at hst
              dsimp only [putM] at hst
              have HT2 := Lib.hid (show (readF l).1.map (plOf s) = ((toks ++ [(⟨5, tn, ta, tx, ts⟩, (a : Int), ((s.size - r2.length : Nat) : Int))]) ++ (putT (textF r2).1 (bs (entT (textF r2).1)) r2.length (textF r2).2.length).map (plOf s)) ++ (readM (textF r2).2).1.map (plOf s) from by rw [HT.out, hst, HAF.out]; simp [List.append_assoc, plOf])
              have HE2 := Lib.hid (show endOf s 0 (readF l).2 = endOf s (a7 : Int) (readM (textF r2).2).2 from by rw [HE.out, hst, show a7 = s.size - r2.length by have := HZ7.out; omega]; dsimp only; rw [end_or]; rfl)
              have HTF := Lib.hid (text_few r2 (bs (entT (textF r2).1)) r2.length (textF r2).2.length)
              have HTM := Lib.hid (text_mark r2)
              clear hst hap HT HE HRN
              generalize putT (textF r2).1 (bs (entT (textF r2).1)) r2.length (textF r2).2.length = pt at *
              generalize (textF r2).2 = r3 at *
              go_wp2_with (first | (go_at_call 25; refine (HRW.out _).mono ?_; rintro e wz ⟨rfl, hwz⟩; subst hwz) | (go_at_call 30; refine HTX.out.mono ?_; rintro e w9 ⟨rfl, v9, n9, hA9⟩; have HA9 := Lib.hid hA9; clear hA9))
              go_roundw
              case rel => exact ⟨r3, (a7 : Int), v9, n9, _, HA9, Lib.hid (by have h1 := HFW.out; have h2 := HTF.out; have h3 := HLT.out; simp only [List.length_append, List.length_map, List.length_cons, List.length_nil]; omega), HTM, HT2, HE2⟩
              case measure => have h1 := HA9.out.rd.left; have h2 := HLF.out; have h3 := HTF.out; have h4 := HLT.out; have h5 := HAZ.out; omega
            | false =>
              go_upto_region 13 with (go_at_call 33; refine HPU.out.mono ?_; rintro e w7 ⟨rfl, v7, hA7, hk7⟩; have hF7 := (hk7 _ HBX.out.1 HBX.out.2.1 HBX.out.2.2).trans HF6.out; obtain ⟨a7, haz7, hra7, hc7⟩ := rd_at hA7.rd; have c1 := hc7.c1; have c2 := hc7.c2; have f2 := hc7.fr 2; have HA7 := Lib.hid hA7; have HF7 := Lib.hid hF7; have HZ7 := Lib.hid haz7; clear d0 d1 d2 d3 d4 d5 d6; have d0 := cell_blk (i := 0) hF7 rfl; have d1 := cell_blk (i := 1) hF7 rfl; have d2 := cell_blk (i := 2) hF7 rfl; have d3 := cell_blk (i := 3) hF7 rfl; have d4 := cell_blk (i := 4) hF7 rfl; have d5 := cell_blk (i := 5) hF7 rfl; have d6 := cell_blk (i := 6) hF7 rfl; clear hA7 hk7 hF7 haz7 hra7 hc7)
              have HTX := Lib.hid (tkText_any w w7 X s r2 E v7 (n + 1) (toks ++ [(⟨5, tn, ta, tx, ts⟩, (a : Int), ((s.size - r2.length : Nat) : Int))]) hs HA7.out (by have h1 := HFW.out; have h2 := HA.out.few; have h3 := HLT.out; omega))
              have hap := after_plainR (t := some ⟨5, tn, ta, tx, ts⟩) r2 HRN.out
              rw [hap] at hst
              dsimp only [putM] at hst
              have HT2 := Lib.hid (show (readF l).1.map (plOf s) = ((toks ++ [(⟨5, tn, ta, tx, ts⟩, (a : Int), ((s.size - r2.length : Nat) : Int))]) ++ (putT (textF r2).1 (bs (entT (textF r2).1)) r2.length (textF r2).2.length).map (plOf s)) ++ (readM (textF r2).2).1.map (plOf s) from by rw [HT.out, hst, HAF.out]; simp [List.append_assoc, plOf])
              have HE2 := Lib.hid (show endOf s 0 (readF l).2 = endOf s E (readM (textF r2).2).2 from by rw [HE.out, hst]; dsimp only; rw [end_or]; rfl)
              have HTF := Lib.hid (text_few r2 (bs (entT (textF r2).1)) r2.length (textF r2).2.length)
              have HTM := Lib.hid (text_mark r2)
              clear hst hap HT HE HRN
              generalize putT (textF r2).1 (bs (entT (textF r2).1)) r2.length (textF r2).2.length = pt at *
              generalize (textF r2).2 = r3 at *
              go_wp2_with (first | (go_at_call 25; refine (HRW.out _).mono ?_; rintro e wz ⟨rfl, hwz⟩; subst hwz) | (go_at_call 30; refine HTX.out.mono ?_; rintro e w9 ⟨rfl, v9, n9, hA9⟩; have HA9 := Lib.hid hA9; clear hA9))
              go_roundw
              case rel => exact ⟨r3, E, v9, n9, _, HA9, Lib.hid (by have h1 := HFW.out; have h2 := HTF.out; have h3 := HLT.out; simp only [List.length_append, List.length_map, List.length_cons, List.length_nil]; omega), HTM, HT2, HE2⟩
              case measure => have h1 := HA9.out.rd.left; have h2 := HLF.out; have h3 := HTF.out; have h4 := HLT.out; have h5 := HAZ.out; omega
end Go.Proofs.YtbddnohbkafagaaGreatDoor

/-
Tokens: Read and Safe.
-/
namespace Go.Proofs.YtbddnohbkafagaaGreatDoor
open Go.RowKit Go.Cl
attribute [local go_sem ↓] Go.wp_at_zero Go.wp_at_succ
theorem tkRead_big (w : World) (s : ByteArray) (h : 4000 < s.size) : Calls Tryz.prog 9 #[.string s] w fun e w' => e = .returned (.tuple #[.slice none 0 0, .int .i64 2]) ∧ w' = w := by
  have g1 : (4000 : Int) < (s.size : Int) := by omega
  have g1' : decide ((4000 : Int) < (s.size : Int)) = true := decide_eq_true g1
  clear h
  go_enter Tryz.func9, Tryz.ntmps9
  go_wp2_with fail
  go_ret2
  exact ⟨rfl, rfl⟩
theorem tkSafe_big (w : World) (s : ByteArray) (h : 4000 < s.size) : Calls Tryz.prog 12 #[.string s] w fun e w' => e = .returned (.tuple #[.int .i64 0, .int .i64 2]) ∧ w' = w := by
  have g1 : (4000 : Int) < (s.size : Int) := by omega
  have g1' : decide ((4000 : Int) < (s.size : Int)) = true := decide_eq_true g1
  clear h
  go_enter Tryz.func12, Tryz.ntmps12
  go_wp2_with fail
  go_ret2
  exact ⟨rfl, rfl⟩
theorem tkRead_ok (w : World) (s : ByteArray) (hs : s.size ≤ 4000) (hm0 : ∃ m : Int, w.cell? ⟨0, 0, none⟩ = some (.int .i64 m)) (hF : FoldOk w w.heap.size) (hY : AnyOk w w.heap.size) :
    Calls Tryz.prog 9 #[.string s] w fun e w' => ∃ r v n, e = .returned (.tuple #[v, .int .i64 0]) ∧ Ra w w' w.heap.size s r (endOf s 0 (readF s.data.toList).2) v n ((readF s.data.toList).1.map (plOf s)) := by
  have g1 : ¬ (4000 : Int) < (s.size : Int) := by omega
  have g1' : decide ((4000 : Int) < (s.size : Int)) = false := decide_eq_false g1
  have HR := Lib.hid (tkRead_any w s (by omega) hm0 hF hY)
  clear hs hm0 hF hY
  go_enter Tryz.func9, Tryz.ntmps9
  go_wp2_with (go_at_call 19; refine HR.out.mono ?_; rintro e w2 ⟨rfl, r, v, n, hA⟩; obtain ⟨a, _, _, hc⟩ := rd_at hA.rd; have c3 := hc.c3; have HA := Lib.hid hA; clear hA hc)
  go_ret2
  exact ⟨r, v, n, rfl, HA.out⟩
theorem tkSafe_ok (w : World) (s : ByteArray) (hs : s.size ≤ 4000) (hm0 : ∃ m : Int, w.cell? ⟨0, 0, none⟩ = some (.int .i64 m)) (hF : FoldOk w w.heap.size) (hY : AnyOk w w.heap.size) :
    Calls Tryz.prog 12 #[.string s] w fun e w' => e = .returned (.tuple #[.int .i64 (endOf s 0 (readF s.data.toList).2), .int .i64 0]) ∧ Below w.heap.size w w' := by
  have g1 : ¬ (4000 : Int) < (s.size : Int) := by omega
  have g1' : decide ((4000 : Int) < (s.size : Int)) = false := decide_eq_false g1
  have HR := Lib.hid (tkRead_any w s (by omega) hm0 hF hY)
  clear hs hm0 hF hY
  go_enter Tryz.func12, Tryz.ntmps12
  go_wp2_with (go_at_call 19; refine HR.out.mono ?_; rintro e w2 ⟨rfl, r, v, n, hA⟩; obtain ⟨a, _, _, hc⟩ := rd_at hA.rd; have c2 := hc.c2; have HA := Lib.hid hA; clear hA hc)
  go_ret2
  exact ⟨rfl, HA.out.low⟩
end Go.Proofs.YtbddnohbkafagaaGreatDoor
