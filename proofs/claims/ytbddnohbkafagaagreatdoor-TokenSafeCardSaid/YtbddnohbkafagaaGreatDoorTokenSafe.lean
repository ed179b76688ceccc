/-
WHAT IS SAFE STAYS: the walk of TokenSafe.
-/
import Derived.Test.YtbddnohbkafagaaGreatDoorTkSame
import Derived.Test.YtbddnohbkafagaaGreatDoorTokSafeLaw
namespace Go.Proofs.YtbddnohbkafagaaGreatDoor
open Go.RowKit Go.Cl
attribute [local go_sem ↓] Go.wp_at_zero Go.wp_at_succ
theorem chain_at {l : List Pl} {hi j : Nat} {z : Pl} (h : ChainP hi (l.drop j)) (hz : l[j]? = some z) : z.2.1 ≤ hi ∧ z.2.2 < z.2.1 ∧ ChainP z.2.2 (l.drop (j + 1)) := by
  have h1 := List.getElem?_eq_some_iff.1 hz
  rw [List.drop_eq_getElem_cons h1.1, h1.2] at h
  exact h
/-- What the law says of two readings: up to how many tokens they agree, and that the next one ends behind. -/
structure SafeS (s u : ByteArray) (N K : Int) (l k : List TkP) (q : Nat) : Prop where
  n0 : 0 ≤ N
  n1 : N ≤ s.size
  nk : N ≤ K
  ql : q ≤ l.length
  qk : q ≤ k.length
  same : ∀ (i : Nat) x, i < q → l[i]? = some x → x.2.2 ≤ N ∧ k[i]? = some x
  far : ∀ (i : Nat) x, i = q → l[i]? = some x → N < x.2.2
theorem safe_says (s u : ByteArray) (more : List UInt8) (hu : u.data.toList = s.data.toList ++ more) :
    ∃ q, SafeS s u (endOf s 0 (readF s.data.toList).2) (endOf u 0 (readF u.data.toList).2) ((readF s.data.toList).1.map (plOf s)) ((readF u.data.toList).1.map (plOf u)) q := by
  have hs := Lib.size_eq s
  have hus : u.size = s.size + more.length := by rw [Lib.size_eq u, hu, List.length_append, ← hs]
  have hu0 : 0 ≤ endOf u 0 (readF u.data.toList).2 := by
    cases (readF u.data.toList).2 with
    | none => exact Int.le_refl _
    | some k => show (0 : Int) ≤ ((u.size - k : Nat) : Int); omega
  cases he : (readF s.data.toList).2 with
  | none =>
    refine ⟨0, Int.le_refl _, by show (0 : Int) ≤ _; omega, hu0, Nat.zero_le _, Nat.zero_le _, fun i x hi => absurd hi (by omega), fun i x hi hx => ?_⟩
    subst hi
    obtain ⟨hch, hok⟩ := places_law s.data.toList
    rw [List.getElem?_map] at hx
    obtain ⟨z, hz, rfl⟩ := Option.map_eq_some_iff.1 hx
    have h1 := chain_at (j := 0) hch hz
    have h2 := (hok z (List.mem_of_getElem? hz)).1
    show (0 : Int) < ((s.size - z.2.2 : Nat) : Int)
    omega
  | some e =>
    obtain ⟨e0, P, Q, Q', e', h1, h2, h3, h4, h5, h6⟩ := safe_law he more
    rw [← hs] at e0
    rw [hu, h4, h5, h1]
    refine ⟨P.length, ?_, ?_, ?_, ?_, ?_, fun i x hi hx => ?_, fun i x hi hx => ?_⟩
    · show (0 : Int) ≤ ((s.size - e : Nat) : Int); omega
    · show ((s.size - e : Nat) : Int) ≤ _; omega
    · show ((s.size - e : Nat) : Int) ≤ ((u.size - e' : Nat) : Int); omega
    · rw [List.length_map, List.length_append]; omega
    · rw [List.length_map, List.length_append, List.length_map]; omega
    · rw [List.getElem?_map, List.getElem?_append_left hi] at hx
      obtain ⟨z, hz, rfl⟩ := Option.map_eq_some_iff.1 hx
      refine ⟨?_, ?_⟩
      · have := h2 z (List.mem_of_getElem? hz)
        show ((s.size - z.2.2 : Nat) : Int) ≤ ((s.size - e : Nat) : Int)
        omega
      · rw [List.getElem?_map, List.getElem?_append_left (by rw [List.length_map]; exact hi), List.getElem?_map, hz]
        show some (plOf u (mv more.length z)) = some (plOf s z)
        congr 1
        unfold plOf mv
        dsimp only
        rw [show u.size - (z.2.1 + more.length) = s.size - z.2.1 by omega, show u.size - (z.2.2 + more.length) = s.size - z.2.2 by omega]
    · subst hi
      rw [List.getElem?_map, List.getElem?_append_right (Nat.le_refl _), Nat.sub_self] at hx
      obtain ⟨z, hz, rfl⟩ := Option.map_eq_some_iff.1 hx
      have := h3 z (List.mem_of_getElem? hz)
      show ((s.size - e : Nat) : Int) < ((s.size - z.2.2 : Nat) : Int)
      omega
set_option maxRecDepth 100000 in
set_option maxHeartbeats 8000000 in
theorem tokenSafe_walk (b0 b1 : ByteArray) (W : World) (m : Int) (hm : maxLenAt W m) (hT : FoldTabs W) :
    Calls Tryz.prog 6 #[.string b0, .string b1] W fun e w' => e = .returned (.bool true) ∧ Below W.heap.size W w' := by
  have HS0 := Lib.hid (fun U : World => (show Calls Tryz.prog 11 #[.string b0, .int .i64 200] U fun e w' => (∃ t : ByteArray, e = .returned (.string t) ∧ t.size ≤ 200) ∧ U = w' from tkSome_any b0 200 U (by decide)))
  have HS1 := Lib.hid (fun U : World => (show Calls Tryz.prog 11 #[.string b1, .int .i64 200] U fun e w' => (∃ t : ByteArray, e = .returned (.string t) ∧ t.size ≤ 200) ∧ U = w' from tkSome_any b1 200 U (by decide)))
  have HBE := Lib.hid (fun (U : World) (h : Below W.heap.size W U) => tkBegun_any U m (cell_be hm h) (hT.next (Nat.le_refl _) h))
  have HRD := Lib.hid (fun (U : World) (h : Below W.heap.size W U) (s : ByteArray) (hs : s.size ≤ 4000) => tkRead_sl U s hs m (cell_be hm h) (hT.next (Nat.le_refl _) h))
  have HSF := Lib.hid (fun (U : World) (h : Below W.heap.size W U) (s : ByteArray) (hs : s.size ≤ 4000) => tkSafe_sl U s hs m (cell_be hm h) (hT.next (Nat.le_refl _) h))
  clear hm hT
  go_enter Tryz.func6, Tryz.ntmps6
  go_upto_region 2 with (first | (go_at_call 11; with_reducible refine (HS0.out _).mono ?_; rintro e w1 ⟨⟨s, rfl, hs⟩, hw1⟩; subst hw1) | (go_at_call 11; with_reducible refine (HS1.out _).mono ?_; rintro e w1 ⟨⟨t, rfl, ht⟩, hw1⟩; subst hw1))
  obtain ⟨u, hu⟩ : ∃ u, s ++ t = u := ⟨_, rfl⟩
  have huz : u.size ≤ 400 := by rw [← hu, app_size]; omega
  obtain ⟨q, hq⟩ := safe_says s u t.data.toList (by rw [← hu, app_list])
  have HR1 := Lib.hid (fun (U : World) (h : Below W.heap.size W U) => HRD.out U h s (by omega))
  have HF1 := Lib.hid (fun (U : World) (h : Below W.heap.size W U) => HSF.out U h s (by omega))
  have HR2 := Lib.hid (fun (U : World) (h : Below W.heap.size W U) => HRD.out U h u (by omega))
  have HF2 := Lib.hid (fun (U : World) (h : Below W.heap.size W U) => HSF.out U h u (by omega))
  obtain ⟨l, hl⟩ : ∃ l, (readF s.data.toList).1.map (plOf s) = l := ⟨_, rfl⟩
  obtain ⟨k, hk⟩ : ∃ k, (readF u.data.toList).1.map (plOf u) = k := ⟨_, rfl⟩
  obtain ⟨N, hN⟩ : ∃ N, endOf s 0 (readF s.data.toList).2 = N := ⟨_, rfl⟩
  obtain ⟨K, hK⟩ : ∃ K, endOf u 0 (readF u.data.toList).2 = K := ⟨_, rfl⟩
  rw [hl] at hq HR1
  rw [hk] at hq HR2
  rw [hN] at hq HF1
  rw [hK] at hq HF2
  have HQ := Lib.hid hq
  have n0 := hq.n0
  have n1 := hq.n1
  have nk := hq.nk
  have n0' : ¬ N < 0 := by omega
  have n1' : ¬ (s.size : Int) < N := by omega
  have nk' : ¬ K < N := by omega
  have d0 : decide (N < 0) = false := decide_eq_false n0'
  have d1 : decide ((s.size : Int) < N) = false := decide_eq_false n1'
  have d2 : decide (K < N) = false := decide_eq_false nk'
  clear hl hk hN hK hq HRD HSF
  have HB0 : Hid (Below W.heap.size W W) := Below.refl _ _
  go_upto_region 3 with (go_at_call 12; refine (HF1.out _ HB0.out).mono ?_; rintro e w2 ⟨rfl, hb2⟩; have HB2 := Lib.hid hb2; clear hb2)
  go_upto_region 4 with (go_at_call 9; refine (HR1.out _ HB2.out).mono ?_; rintro e w3 ⟨A, n, c, rfl, hb3, hsl⟩; have HB3 := Lib.hid (HB2.out.trans (hb3.mono HB2.out.size)); have HSL := Lib.hid hsl; clear hb3 hsl)
  go_upto_region 5 with (go_at_call 9; refine (HR2.out _ HB3.out).mono ?_; rintro e w4 ⟨A2, n2, c2, rfl, hb4, hsl⟩; have HB4 := Lib.hid (HB3.out.trans (hb4.mono HB3.out.size)); have HB34 := Lib.hid hb4; have HSK := Lib.hid hsl; clear hb4 hsl)
  go_upto_region 6 with (go_at_call 12; refine (HF2.out _ HB4.out).mono ?_; rintro e w5 ⟨rfl, hb5⟩; have HB5 := Lib.hid (HB4.out.trans (hb5.mono HB4.out.size)); have HL5 := Lib.hid (((HSL.out.below HB34.out (Nat.le_refl _)).below hb5 HB34.out.size).up (Nat.le_trans HB34.out.size hb5.size)); have HK5 := Lib.hid ((HSK.out.below hb5 (Nat.le_refl _)).up hb5.size); clear hb5)
  clear hu
  have hln : n = l.length := HL5.out.hn
  have hkn : n2 = k.length := HK5.out.hn
  have hn6 := HL5.out.small
  have hn7 := HK5.out.small
  have ql := HQ.out.ql
  have qk := HQ.out.qk
  rw [← hln] at ql
  rw [← hkn] at qk
  have HLN := Lib.hid hln
  have HKN := Lib.hid hkn
  clear hln hkn
  go_wp2_with fail
  go_loopw [13] (fun i wr => ∃ j : Nat, j ≤ q ∧ i = .int .i64 (j : Int) ∧ Below w5.heap.size w5 wr) (fun i _ => n - (intOf i).toNat)
  case atStart => exact ⟨0, Nat.zero_le _, rfl, Below.refl _ _⟩
  case round =>
    obtain ⟨j, hj, rfl, hb⟩ := hrel
    have HBR := Lib.hid (HB5.out.trans (hb.mono HB5.out.size))
    have HBEG := Lib.hid (HBE.out wr HBR.out)
    by_cases hlt : j < n
    · obtain ⟨x, hx⟩ : ∃ x, l[j]? = some x := get_some (by have := HLN.out; omega)
      obtain ⟨b, o, A4, n4, c4, rfl, g0, g1, g2, g3, g4, g5, g6, gat⟩ := tok_get (HL5.out.below hb (Nat.le_refl _)) hx
      by_cases hjq : j < q
      · obtain ⟨s1, s2⟩ := HQ.out.same j x hjq hx
        obtain ⟨b', o', A5, n5, c5, rfl, h0, h1, h2, h3, h4, h5, h6, hat⟩ := tok_get (HK5.out.below hb (Nat.le_refl _)) s2
        have HSA := Lib.hid (fun (U : World) (hU : Below wr.heap.size wr U) => tkSame_any x x A4 A5 n4 c4 n5 c5 U w5.heap.size (Nat.le_trans hb.size hU.size) rfl ((gat.below hU hb.size)) ((hat.below hU hb.size)))
        have HBR0 : Hid (Below wr.heap.size wr wr) := Below.refl _ _
        have s1' : decide (x.2.2 ≤ N) = true := decide_eq_true s1
        have q1 : decide ((n2 : Int) ≤ (j : Int)) = false := decide_eq_false (by omega)
        have q2 : ¬ (n2 : Int) ≤ (j : Int) := by omega
        have q3 : j < n2 := by omega
        obtain ⟨⟨xk, xn, xa, xt, xs⟩, xf, xe⟩ := x
        dsimp only at g0 g1 g2 g3 g4 g5 g6 h0 h1 h2 h3 h4 h5 h6 HSA s1 s1'
        clear gat hat s2 hx
        go_upto_region 11 with fail
        go_cut [127] from 86 to 127 (fun v wx => v = .bool false ∧ Below wr.heap.size wr wx)
        case first =>
          refine wp_region_G (S := (fun U : World => Below wr.heap.size wr U)) (T := []) (by kernel_rfl) ?_
          have hS : (fun U : World => Below wr.heap.size wr U) wr.drew := tdrew _
          refine wpAnyG_pureW (i := 0) (v := ?_) rfl (by kernel_rfl) (by kernel_rfl) (by kernel_rfl) (fun _ _ _ h => h) (by kernel_rfl) ?_ ?_
          rotate_left
          · intro w'
            first | (go_simp; done) | (go_simp; with_reducible rfl)
          refine wpAnyG_pureW (i := 1) (v := ?_) rfl (by kernel_rfl) (by kernel_rfl) (by kernel_rfl) (fun _ _ _ h => h) (by kernel_rfl) ?_ ?_
          rotate_left
          · intro w'
            first | (go_simp; done) | (go_simp; with_reducible rfl)
          refine wpAnyG_pureW (i := 2) (v := ?_) rfl (by kernel_rfl) (by kernel_rfl) (by kernel_rfl) (fun _ _ _ h => h) (by kernel_rfl) ?_ ?_
          rotate_left
          · intro w'
            first | (go_simp; done) | (go_simp; with_reducible rfl)
          refine wpAnyG_pureW (i := 3) (v := ?_) rfl (by kernel_rfl) (by kernel_rfl) (by kernel_rfl) (fun _ _ _ h => h) (by kernel_rfl) ?_ ?_
          rotate_left
          · intro w'
            first | (go_simp; done) | (go_simp; with_reducible rfl)
          refine wpAnyG_pureW (i := 4) (v := ?_) rfl (by kernel_rfl) (by kernel_rfl) (by kernel_rfl) (fun _ _ _ h => h) (by kernel_rfl) ?_ ?_
          rotate_left
          · intro w'
            first | (go_simp; done) | (go_simp; with_reducible rfl)
          refine wpAnyG_pureW (i := 5) (v := ?_) rfl (by kernel_rfl) (by kernel_rfl) (by kernel_rfl) (fun _ _ _ h => h) (by kernel_rfl) ?_ ?_
          rotate_left
          · intro w'
            first | (go_simp; done) | (go_simp; with_reducible rfl)
          refine wpAnyG_pureW (i := 6) (v := ?_) rfl (by kernel_rfl) (by kernel_rfl) (by kernel_rfl) (fun _ _ _ h => h) (by kernel_rfl) ?_ ?_
          rotate_left
          · intro w'
            first | (go_simp; done) | (go_simp; with_reducible rfl)
          refine wpAnyG_pureW (i := 7) (v := ?_) rfl (by kernel_rfl) (by kernel_rfl) (by kernel_rfl) (fun _ _ _ h => h) (by kernel_rfl) ?_ ?_
          rotate_left
          · intro w'
            first | (go_simp; done) | (go_simp; with_reducible rfl)
          refine wpAnyG_takeW (i := 8) (v := ?_) rfl (by kernel_rfl) (by kernel_rfl) (by kernel_rfl) (by kernel_rfl) (fun _ _ _ h => h) hS (by kernel_rfl) ?_ ?_
          rotate_left
          · intro w' hSw
            have hSw : Below wr.heap.size wr w' := hSw
            have g0 := cell_be g0 hSw
            have g1 := cell_be g1 hSw
            have g2 := cell_be g2 hSw
            have g3 := cell_be g3 hSw
            have g4 := cell_be g4 hSw
            have g5 := cell_be g5 hSw
            have g6 := cell_be g6 hSw
            first | (go_simp; done) | (go_simp; with_reducible rfl)
          refine wpAnyG_pureW (i := 9) (v := ?_) rfl (by kernel_rfl) (by kernel_rfl) (by kernel_rfl) (fun _ _ _ h => h) (by kernel_rfl) ?_ ?_
          rotate_left
          · intro w'
            first | (go_simp; done) | (go_simp; with_reducible rfl)
          refine wpAnyG_pureW (i := 10) (v := ?_) rfl (by kernel_rfl) (by kernel_rfl) (by kernel_rfl) (fun _ _ _ h => h) (by kernel_rfl) ?_ ?_
          rotate_left
          · intro w'
            first | (go_simp; done) | (go_simp; with_reducible rfl)
          refine wpAnyG_pureW (i := 11) (v := ?_) rfl (by kernel_rfl) (by kernel_rfl) (by kernel_rfl) (fun _ _ _ h => h) (by kernel_rfl) ?_ ?_
          rotate_left
          · intro w'
            first | (go_simp; done) | (go_simp; with_reducible rfl)
          refine wpAnyG_takeW (i := 12) (v := ?_) rfl (by kernel_rfl) (by kernel_rfl) (by kernel_rfl) (by kernel_rfl) (fun _ _ _ h => h) hS (by kernel_rfl) ?_ ?_
          rotate_left
          · intro w' hSw
            have hSw : Below wr.heap.size wr w' := hSw
            have h0 := cell_be h0 hSw
            have h1 := cell_be h1 hSw
            have h2 := cell_be h2 hSw
            have h3 := cell_be h3 hSw
            have h4 := cell_be h4 hSw
            have h5 := cell_be h5 hSw
            have h6 := cell_be h6 hSw
            first | (go_simp; done) | (go_simp; with_reducible rfl)
          refine wpAnyG_oneW (i := 13) (by kernel_rfl) rfl (by kernel_rfl) (fun K hK => ?_)
          go_simp
          go_at_call 10
          refine (HSA.out _ hS).mono ?_
          rintro e w7 ⟨rfl, hb7⟩
          have hS7 : Below wr.heap.size wr w7 := tst hS hb7
          have HS7 := Lib.hid hS7
          clear hb7
          go_wp2_with fail
          refine hK.out _ _ (fun _ _ => hS7) ?_
          clear hK K hS
          have hS : (fun U : World => Below wr.heap.size wr U) w7 := HS7.out
          refine wpAnyG_pureW (i := 14) (v := ?_) rfl (by kernel_rfl) (by kernel_rfl) (by kernel_rfl) (fun _ _ _ h => h) (by kernel_rfl) ?_ ?_
          rotate_left
          · intro w'
            first | (go_simp; done) | (go_simp; with_reducible rfl)
          refine wpAnyG_pureW (i := 15) (v := ?_) rfl (by kernel_rfl) (by kernel_rfl) (by kernel_rfl) (fun _ _ _ h => h) (by kernel_rfl) ?_ ?_
          rotate_left
          · intro w'
            first | (go_simp; done) | (go_simp; with_reducible rfl)
          refine wpAnyG_pureW (i := 16) (v := ?_) rfl (by kernel_rfl) (by kernel_rfl) (by kernel_rfl) (fun _ _ _ h => h) (by kernel_rfl) ?_ ?_
          rotate_left
          · intro w'
            first | (go_simp; done) | (go_simp; with_reducible rfl)
          refine wpAnyG_pureW (i := 17) (v := ?_) rfl (by kernel_rfl) (by kernel_rfl) (by kernel_rfl) (fun _ _ _ h => h) (by kernel_rfl) ?_ ?_
          rotate_left
          · intro w'
            first | (go_simp; done) | (go_simp; with_reducible rfl)
          refine wpAnyG_pureW (i := 18) (v := ?_) rfl (by kernel_rfl) (by kernel_rfl) (by kernel_rfl) (fun _ _ _ h => h) (by kernel_rfl) ?_ ?_
          rotate_left
          · intro w'
            first | (go_simp; done) | (go_simp; with_reducible rfl)
          refine wpAnyG_pureW (i := 19) (v := ?_) rfl (by kernel_rfl) (by kernel_rfl) (by kernel_rfl) (fun _ _ _ h => h) (by kernel_rfl) ?_ ?_
          rotate_left
          · intro w'
            first | (go_simp; done) | (go_simp; with_reducible rfl)
          refine wpAnyG_pureW (i := 20) (v := ?_) rfl (by kernel_rfl) (by kernel_rfl) (by kernel_rfl) (fun _ _ _ h => h) (by kernel_rfl) ?_ ?_
          rotate_left
          · intro w'
            first | (go_simp; done) | (go_simp; with_reducible rfl)
          refine wpAnyG_takeW (i := 21) (v := ?_) rfl (by kernel_rfl) (by kernel_rfl) (by kernel_rfl) (by kernel_rfl) (fun _ _ _ h => h) hS (by kernel_rfl) ?_ ?_
          rotate_left
          · intro w' hSw
            have hSw : Below wr.heap.size wr w' := hSw
            have g5 := cell_be g5 hSw
            first | (go_simp; done) | (go_simp; with_reducible rfl)
          refine wpAnyG_pureW (i := 22) (v := ?_) rfl (by kernel_rfl) (by kernel_rfl) (by kernel_rfl) (fun _ _ _ h => h) (by kernel_rfl) ?_ ?_
          rotate_left
          · intro w'
            first | (go_simp; done) | (go_simp; with_reducible rfl)
          refine wpAnyG_pureW (i := 23) (v := ?_) rfl (by kernel_rfl) (by kernel_rfl) (by kernel_rfl) (fun _ _ _ h => h) (by kernel_rfl) ?_ ?_
          rotate_left
          · intro w'
            first | (go_simp; done) | (go_simp; with_reducible rfl)
          refine wpAnyG_pureW (i := 24) (v := ?_) rfl (by kernel_rfl) (by kernel_rfl) (by kernel_rfl) (fun _ _ _ h => h) (by kernel_rfl) ?_ ?_
          rotate_left
          · intro w'
            first | (go_simp; done) | (go_simp; with_reducible rfl)
          refine wpAnyG_pureW (i := 25) (v := ?_) rfl (by kernel_rfl) (by kernel_rfl) (by kernel_rfl) (fun _ _ _ h => h) (by kernel_rfl) ?_ ?_
          rotate_left
          · intro w'
            first | (go_simp; done) | (go_simp; with_reducible rfl)
          refine wpAnyG_takeW (i := 26) (v := ?_) rfl (by kernel_rfl) (by kernel_rfl) (by kernel_rfl) (by kernel_rfl) (fun _ _ _ h => h) hS (by kernel_rfl) ?_ ?_
          rotate_left
          · intro w' hSw
            have hSw : Below wr.heap.size wr w' := hSw
            have h5 := cell_be h5 hSw
            first | (go_simp; done) | (go_simp; with_reducible rfl)
          refine wpAnyG_pureW (i := 27) (v := ?_) rfl (by kernel_rfl) (by kernel_rfl) (by kernel_rfl) (fun _ _ _ h => h) (by kernel_rfl) ?_ ?_
          rotate_left
          · intro w'
            first | (go_simp; done) | (go_simp; with_reducible rfl)
          refine wpAnyG_pureW (i := 28) (v := ?_) rfl (by kernel_rfl) (by kernel_rfl) (by kernel_rfl) (fun _ _ _ h => h) (by kernel_rfl) ?_ ?_
          rotate_left
          · intro w'
            first | (go_simp; done) | (go_simp; with_reducible rfl)
          refine wpAnyG_pureW (i := 29) (v := ?_) rfl (by kernel_rfl) (by kernel_rfl) (by kernel_rfl) (fun _ _ _ h => h) (by kernel_rfl) ?_ ?_
          rotate_left
          · intro w'
            first | (go_simp; done) | (go_simp; with_reducible rfl)
          refine wpAnyG_pureW (i := 30) (v := ?_) rfl (by kernel_rfl) (by kernel_rfl) (by kernel_rfl) (fun _ _ _ h => h) (by kernel_rfl) ?_ ?_
          rotate_left
          · intro w'
            first | (go_simp; done) | (go_simp; with_reducible rfl)
          refine wpAnyG_pureW (i := 31) (v := ?_) rfl (by kernel_rfl) (by kernel_rfl) (by kernel_rfl) (fun _ _ _ h => h) (by kernel_rfl) ?_ ?_
          rotate_left
          · intro w'
            first | (go_simp; done) | (go_simp; with_reducible rfl)
          refine wpAnyG_pureW (i := 32) (v := ?_) rfl (by kernel_rfl) (by kernel_rfl) (by kernel_rfl) (fun _ _ _ h => h) (by kernel_rfl) ?_ ?_
          rotate_left
          · intro w'
            first | (go_simp; done) | (go_simp; with_reducible rfl)
          refine wpAnyG_pureW (i := 33) (v := ?_) rfl (by kernel_rfl) (by kernel_rfl) (by kernel_rfl) (fun _ _ _ h => h) (by kernel_rfl) ?_ ?_
          rotate_left
          · intro w'
            first | (go_simp; done) | (go_simp; with_reducible rfl)
          refine wpAnyG_takeW (i := 34) (v := ?_) rfl (by kernel_rfl) (by kernel_rfl) (by kernel_rfl) (by kernel_rfl) (fun _ _ _ h => h) hS (by kernel_rfl) ?_ ?_
          rotate_left
          · intro w' hSw
            have hSw : Below wr.heap.size wr w' := hSw
            have g6 := cell_be g6 hSw
            first | (go_simp; done) | (go_simp; with_reducible rfl)
          refine wpAnyG_pureW (i := 35) (v := ?_) rfl (by kernel_rfl) (by kernel_rfl) (by kernel_rfl) (fun _ _ _ h => h) (by kernel_rfl) ?_ ?_
          rotate_left
          · intro w'
            first | (go_simp; done) | (go_simp; with_reducible rfl)
          refine wpAnyG_pureW (i := 36) (v := ?_) rfl (by kernel_rfl) (by kernel_rfl) (by kernel_rfl) (fun _ _ _ h => h) (by kernel_rfl) ?_ ?_
          rotate_left
          · intro w'
            first | (go_simp; done) | (go_simp; with_reducible rfl)
          refine wpAnyG_pureW (i := 37) (v := ?_) rfl (by kernel_rfl) (by kernel_rfl) (by kernel_rfl) (fun _ _ _ h => h) (by kernel_rfl) ?_ ?_
          rotate_left
          · intro w'
            first | (go_simp; done) | (go_simp; with_reducible rfl)
          refine wpAnyG_pureW (i := 38) (v := ?_) rfl (by kernel_rfl) (by kernel_rfl) (by kernel_rfl) (fun _ _ _ h => h) (by kernel_rfl) ?_ ?_
          rotate_left
          · intro w'
            first | (go_simp; done) | (go_simp; with_reducible rfl)
          refine wpAnyG_takeW (i := 39) (v := ?_) rfl (by kernel_rfl) (by kernel_rfl) (by kernel_rfl) (by kernel_rfl) (fun _ _ _ h => h) hS (by kernel_rfl) ?_ ?_
          rotate_left
          · intro w' hSw
            have hSw : Below wr.heap.size wr w' := hSw
            have h6 := cell_be h6 hSw
            first | (go_simp; done) | (go_simp; with_reducible rfl)
          refine wpAnyG_pureW (i := 40) (v := ?_) rfl (by kernel_rfl) (by kernel_rfl) (by kernel_rfl) (fun _ _ _ h => h) (by kernel_rfl) ?_ ?_
          rotate_left
          · intro w'
            first | (go_simp; done) | (go_simp; with_reducible rfl)
          refine wpAnyG_pureW (i := 41) (v := ?_) rfl (by kernel_rfl) (by kernel_rfl) (by kernel_rfl) (fun _ _ _ h => h) (by kernel_rfl) ?_ ?_
          rotate_left
          · intro w'
            first | (go_simp; done) | (go_simp; with_reducible rfl)
          refine wpAnyG_done (by kernel_rfl) ?_ _
          go_simp
          go_wp2_with fail
          go_meet
          exact ⟨rfl, HS7.out⟩
        case rest =>
          obtain ⟨rfl, hbc⟩ := hcut
          have HBC := Lib.hid (hb.trans (hbc.mono hb.size))
          clear hbc
          go_wp2_with fail
          go_roundw
          case rel => exact ⟨j + 1, by omega, by first | rfl | (congr 1; omega), HBC.out⟩
          case measure => simp [intOf]; omega
      · have s1 := HQ.out.far j x (by omega) hx
        have s1' : decide (x.2.2 ≤ N) = false := decide_eq_false (by omega)
        have s1'' : ¬ x.2.2 ≤ N := by omega
        obtain ⟨⟨xk, xn, xa, xt, xs⟩, xf, xe⟩ := x
        dsimp only at g0 g1 g2 g3 g4 g5 g6 s1 s1' s1''
        clear gat hx
        go_wp2_with (go_at_call 8; refine HBEG.out.mono ?_; rintro e w8 ⟨rfl, hb8⟩; have HB8 := Lib.hid hb8; clear hb8)
        go_ret
        exact ⟨rfl, HBR.out.trans (HB8.out.mono HBR.out.size)⟩
    · go_wp2_with (go_at_call 8; refine HBEG.out.mono ?_; rintro e w8 ⟨rfl, hb8⟩; have HB8 := Lib.hid hb8; clear hb8)
      go_ret
      exact ⟨rfl, HBR.out.trans (HB8.out.mono HBR.out.size)⟩
end Go.Proofs.YtbddnohbkafagaaGreatDoor
