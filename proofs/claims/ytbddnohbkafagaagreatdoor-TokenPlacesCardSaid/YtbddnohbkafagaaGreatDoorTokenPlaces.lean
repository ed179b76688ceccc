/-
TOKENS STAND ONE BEHIND THE OTHER: the walk of TokenPlaces.
-/
import Derived.Test.YtbddnohbkafagaaGreatDoorTkE
namespace Go.Proofs.YtbddnohbkafagaaGreatDoor
open Go.RowKit Go.Cl
attribute [local go_sem ↓] Go.wp_at_zero Go.wp_at_succ
theorem chain_at {l : List Pl} {hi j : Nat} {z : Pl} (h : ChainP hi (l.drop j)) (hz : l[j]? = some z) : z.2.1 ≤ hi ∧ z.2.2 < z.2.1 ∧ ChainP z.2.2 (l.drop (j + 1)) := by
  have h1 := List.getElem?_eq_some_iff.1 hz
  rw [List.drop_eq_getElem_cons h1.1, h1.2] at h
  exact h
set_option maxRecDepth 100000 in
set_option maxHeartbeats 4000000 in
theorem tokenPlaces_walk (b0 : ByteArray) (W : World) (m : Int) (hm : maxLenAt W m) (hT : FoldTabs W) :
    Calls Tryz.prog 4 #[.string b0] W fun e w' => e = .returned (.bool true) ∧ Below W.heap.size W w' := by
  have HSO := Lib.hid (tkSome_any b0 300 W (by decide))
  have HM := Lib.hid hm
  have HT := Lib.hid hT
  clear hm hT
  go_enter Tryz.func4, Tryz.ntmps4
  go_upto_region 2 with (go_at_call 11; refine HSO.out.mono ?_; rintro e w1 ⟨⟨s, rfl, hs⟩, hw1⟩; subst hw1)
  have HRE := Lib.hid (tkRead_sl W s (by omega) m HM.out HT.out)
  obtain ⟨hch, hok⟩ := places_law s.data.toList
  obtain ⟨l, hl⟩ : ∃ l, (readF s.data.toList).1 = l := ⟨_, rfl⟩
  rw [hl] at HRE hch hok
  have HCH := Lib.hid hch
  have HOK := Lib.hid hok
  have HSZ := Lib.hid (Lib.size_eq s)
  clear hch hok hl
  go_wp2_with (go_at_call 9; refine HRE.out.mono ?_; rintro e w2 ⟨A, n, c, rfl, hb2, hsl⟩; have HB2 := Lib.hid hb2; have HSL := Lib.hid hsl; have hn6 := hsl.small; have HN : Hid (n = l.length) := (hsl.hn.trans (List.length_map _)); clear hb2 hsl)
  have hn4 : n ≤ 300 := by have := chain_len HCH.out; rw [HN.out]; rw [← HSZ.out] at this; omega
  go_loopw [5, 6] (fun a i wr => ∃ j hi : Nat, j ≤ n ∧ i = .int .i64 (j : Int) ∧ a = .int .i64 ((s.size - hi : Nat) : Int) ∧ Below w2.heap.size w2 wr ∧ Hid (ChainP hi (l.drop j))) (fun _ i _ => n - (intOf i).toNat)
  case atStart => exact ⟨0, s.size, Nat.zero_le _, rfl, by rw [Nat.sub_self]; rfl, Below.refl _ _, by have := HCH.out; rw [← HSZ.out] at this; exact this⟩
  case round =>
    obtain ⟨j, hi, hj, rfl, rfl, hb, HC⟩ := hrel
    have HBR := Lib.hid (HB2.out.trans (hb.mono HB2.out.size))
    by_cases hlt : j < n
    · obtain ⟨z, hz⟩ : ∃ z, l[j]? = some z := get_some (by have := HN.out; omega)
      obtain ⟨q1, q2, q3⟩ := chain_at HC.out hz
      have HC2 := Lib.hid q3
      obtain ⟨o1, o2, o3⟩ := HOK.out z (List.mem_of_getElem? hz)
      rw [← HSZ.out] at o1 o3
      have hx : (l.map (plOf s))[j]? = some (plOf s z) := by rw [List.getElem?_map, hz]; rfl
      obtain ⟨b, o, A2, n2, c2, rfl, g0, g1, g2, g3, g4, g5, g6, _⟩ := tok_get (HSL.out.below hb (Nat.le_refl _)) hx
      obtain ⟨⟨k, nm, at_, tx, sf⟩, za, zb⟩ := z
      dsimp only [plOf] at g0 g1 g2 g3 g4 g5 g6 q1 q2 o1 o2 o3 HC2
      obtain ⟨f, hf⟩ : ∃ f, s.size - za = f := ⟨_, rfl⟩
      obtain ⟨t, ht⟩ : ∃ t, s.size - zb = t + 1 := ⟨s.size - zb - 1, by omega⟩
      rw [hf] at g5 o3
      rw [ht] at g6 o3
      have g6 : wr.cell? ⟨b, o + j * 7 + 6, none⟩ = some (.int .i64 ((t : Int) + 1)) := g6
      have b1 : ((s.size - hi : Nat) : Int) ≤ (f : Int) := by omega
      have b2 : f < t + 1 := by omega
      have b3 : t + 1 ≤ s.size := by omega
      have e1 : decide ((f : Int) < ((s.size - hi : Nat) : Int)) = false := decide_eq_false (by omega)
      have e1p : ¬ (f : Int) < ((s.size - hi : Nat) : Int) := by omega
      have e2 : decide (((t : Int) + 1) ≤ (f : Int)) = false := decide_eq_false (by omega)
      have e2p : ¬ ((t : Int) + 1) ≤ (f : Int) := by omega
      have e3 : decide ((s.size : Int) < ((t : Int) + 1)) = false := decide_eq_false (by omega)
      have e3p : ¬ (s.size : Int) < ((t : Int) + 1) := by omega
      have HZT : Hid (t + 1 = s.size - zb) := ht.symm
      have HC3 : Hid (ChainP zb (l.drop (j + 1))) := HC2.out
      have j0 : (0 : Int) ≤ (f : Int) := by omega
      have j1 : (f : Int) < (s.size : Int) := by omega
      have j2 : (0 : Int) ≤ (t : Int) := by omega
      have j3 : (t : Int) < (s.size : Int) := by omega
      obtain ⟨w5, hw5⟩ : ∃ w5, w5 = wr.alloc (.cells (tokC k nm (.slice A2 n2 c2) tx sf (f : Int) ((t : Int) + 1)) 32) := ⟨_, rfl⟩
      have HX5 := Lib.hid (show w5.heap[wr.heap.size]? = some (.cells (tokC k nm (.slice A2 n2 c2) tx sf (f : Int) ((t : Int) + 1)) 32 (0, 0)) from by rw [hw5]; exact heap_alloc_new wr _)
      have HB5 := Lib.hid (show Below w2.heap.size w2 w5 from by rw [hw5]; exact hb.trans ((tal (Below.refl _ _) _).mono hb.size))
      clear hf ht hx hz q1 q2 q3 HC2
      have em := emp_list nm
      have ex := emp_list tx
      have hnz := Lib.size_eq nm
      have htz := Lib.size_eq tx
      by_cases k3 : k = 3
      · subst k3
        have ex' : tx.toList.isEmpty = false := by
          rw [ex]
          cases h : tx.data.toList with
          | nil => have := o2 rfl; rw [h] at htz; exact absurd htz this
          | cons _ _ => rfl
        clear o2 o3 em ex hnz htz
        go_upto_region 8 with fail
        rw [← hw5]
        clear hw5 g0 g1 g2 g3 g4 g5 g6
        have x0 := cell_blk (i := 0) HX5.out rfl
        have x1 := cell_blk (i := 1) HX5.out rfl
        have x2 := cell_blk (i := 2) HX5.out rfl
        have x3 := cell_blk (i := 3) HX5.out rfl
        have x4 := cell_blk (i := 4) HX5.out rfl
        have x5 := cell_blk (i := 5) HX5.out rfl
        have x6 := cell_blk (i := 6) HX5.out rfl
        go_wp2_with fail
        go_roundw
        case rel => exact ⟨j + 1, zb, by omega, by first | rfl | (congr 1; omega), by first | (rw [← HZT.out]; done) | (rw [← HZT.out]; rfl), HB5.out, HC3⟩
        case measure => simp [intOf]; omega
      · have k3' : (k == 3) = false := beq_eq_false_iff_ne.2 k3
        by_cases k12 : k = 1 ∨ k = 2
        · obtain ⟨p1, p2, p3⟩ := o3 k12
          have r1 : s[f]'(by omega) = 60 := by
            have h1 := Lib.data_getElem? s f (by omega)
            rw [p1] at h1
            injection h1.symm
          have r2 : s[t]'(by omega) = 62 := by
            rw [Nat.add_sub_cancel] at p2
            have h1 := Lib.data_getElem? s t (by omega)
            rw [p2] at h1
            injection h1.symm
          have em' : nm.toList.isEmpty = false := by
            rw [em]
            cases h : nm.data.toList with
            | nil => rw [h] at hnz; exact absurd hnz p3
            | cons _ _ => rfl
          clear o2 o3 em ex hnz htz p1 p2 p3
          rcases k12 with rfl | rfl
          all_goals
            go_upto_region 8 with fail
            rw [← hw5]
            clear hw5 g0 g1 g2 g3 g4 g5 g6
            have x0 := cell_blk (i := 0) HX5.out rfl
            have x1 := cell_blk (i := 1) HX5.out rfl
            have x2 := cell_blk (i := 2) HX5.out rfl
            have x3 := cell_blk (i := 3) HX5.out rfl
            have x4 := cell_blk (i := 4) HX5.out rfl
            have x5 := cell_blk (i := 5) HX5.out rfl
            have x6 := cell_blk (i := 6) HX5.out rfl
            go_wp2_with fail
            go_roundw
            case rel => exact ⟨j + 1, zb, by omega, by first | rfl | (congr 1; omega), by first | (rw [← HZT.out]; done) | (rw [← HZT.out]; rfl), HB5.out, HC3⟩
            case measure => simp [intOf]; omega
        · have k1' : (k == 1) = false := beq_eq_false_iff_ne.2 (fun e => k12 (.inl e))
          have k2' : (k == 2) = false := beq_eq_false_iff_ne.2 (fun e => k12 (.inr e))
          clear o2 o3 em ex hnz htz
          go_upto_region 8 with fail
          rw [← hw5]
          clear hw5 g0 g1 g2 g3 g4 g5 g6
          have x0 := cell_blk (i := 0) HX5.out rfl
          have x1 := cell_blk (i := 1) HX5.out rfl
          have x2 := cell_blk (i := 2) HX5.out rfl
          have x3 := cell_blk (i := 3) HX5.out rfl
          have x4 := cell_blk (i := 4) HX5.out rfl
          have x5 := cell_blk (i := 5) HX5.out rfl
          have x6 := cell_blk (i := 6) HX5.out rfl
          go_wp2_with fail
          go_roundw
          case rel => exact ⟨j + 1, zb, by omega, by first | rfl | (congr 1; omega), by first | (rw [← HZT.out]; done) | (rw [← HZT.out]; rfl), HB5.out, HC3⟩
          case measure => simp [intOf]; omega
    · have HBE := Lib.hid (tkBegun_any wr m (cell_be HM.out HBR.out) (HT.out.next (Nat.le_refl _) HBR.out))
      go_wp2_with (go_at_call 8; refine HBE.out.mono ?_; rintro e w7 ⟨rfl, hb7⟩; have HB7 := Lib.hid hb7; clear hb7)
      go_ret
      exact ⟨rfl, HBR.out.trans (HB7.out.mono HBR.out.size)⟩
end Go.Proofs.YtbddnohbkafagaaGreatDoor
