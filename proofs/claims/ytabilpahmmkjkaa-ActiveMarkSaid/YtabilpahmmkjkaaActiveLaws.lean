/-
The walks of the laws on package active.
-/
import Derived.Test.YtabilpahmmkjkaaActiveWalks5
import Derived.Test.YtabilpahmmkjkaaActivePlain
namespace Go.Proofs.Ytabilpahmmkjkaa
open Go.RowKit Go.Cl

def itB : Item := ⟨3, (⟨#[98]⟩ : ByteArray), []⟩
theorem beg_check : checkE ([] ++ [itB]) = 0 := by decide +kernel
theorem beg_check2 : checkE (pushedL [] itB) = 0 := by decide +kernel
theorem beg_pushed : pushedL [] itB = [itB] := by
  simp [pushedL, sameTo]
theorem beg_last : lastN [itB] = 0 := by decide +kernel

theorem activeBegun_any (w : World) : Calls Try.prog 12 #[] w fun e w' => e = .returned (.bool true) ∧ Below w.heap.size w w' := by
  have HP := Lib.hid (push_any none 0 0 [] itB none 0 0 w Sl.nil Sl.nil (by decide) (by decide +kernel) (by omega))
  go_enter Try.func12, Try.ntmps12
  go_wp2_with fail
  refine HP.out.mono ?_
  rintro e w1 ⟨A1, n1, c1, rfl, hb1, h1, _⟩
  have hs := h1 beg_check
  rw [beg_pushed] at hs
  obtain rfl : n1 = 1 := hs.hn
  rw [beg_check]
  have HC := Lib.hid (clear_any A1 1 c1 [itB] w1 hs (by rw [← beg_pushed]; exact beg_check2))
  obtain ⟨b, o, A2, n2, c2, rfl, hD, x0, x1, x2, _⟩ := sl_item hs (i := 0) rfl
  clear h1 HP
  go_wp2_with fail
  refine HC.out.mono ?_
  rintro e w2 ⟨A3, c3, rfl, hb2, hs3⟩
  rw [beg_last] at hs3 ⊢
  have y0 : w2.cell? ⟨b, o, none⟩ = some (.int .i64 3) := (hb2.cell (p := ⟨b, o, none⟩) hD).trans (by simpa [itB] using x0)
  have HB := Lib.hid (hb1.trans (hb2.mono hb1.size))
  clear x0 x1 x2 hb1 hb2 hs HC
  go_wp2_with fail
  go_ret
  exact ⟨rfl, HB.out⟩

set_option maxRecDepth 100000 in
theorem activeArk_walk (A : Option Addr) (n c : Nat) (l : List ByteArray) (mark : Int) (w : World) (hl : Sl tStr w (lt w.heap.size) A n c l) :
    Calls Try.prog 3 #[.slice A n c, .int .i64 mark] w fun e w' => e = .returned (.bool true) ∧ Below w.heap.size w w' := by
  have hn1 := hl.small
  have HL := Lib.hid hl.hn
  obtain ⟨k0, hk1, hk2, hk3, _⟩ := min_nat n 40 (by omega)
  have hkc : k0 ≤ c := Nat.le_trans hk2 hl.hc
  have hk := hl.cut_to hk2
  have hlen : (l.take k0).length = k0 := by have := HL.out; rw [List.length_take]; omega
  have HLEN := Lib.hid hlen
  clear hlen
  generalize l.take k0 = l' at *
  clear hl
  go_enter Try.func3, Try.ntmps3
  go_wp2_with fail
  go_loopw [5, 6] (fun v i wr => ∃ (k : Nat) (A1 : Option Addr) (n1 c1 : Nat) (ls : List Item), k ≤ k0 ∧ i = .int .i64 (k : Int) ∧ v = .slice A1 n1 c1 ∧ Below w.heap.size w wr ∧ Sl tItem wr (lt wr.heap.size) A1 n1 c1 ls ∧ Fine k ls) (fun _ i _ => k0 - (intOf i).toNat)
  case atStart => exact ⟨0, none, 0, 0, [], Nat.zero_le _, rfl, rfl, Below.refl _ _, Sl.nil, fine_nil⟩
  case round =>
    obtain ⟨k, A1, n1, c1, ls, hkk, rfl, rfl, hb, hs, hfine⟩ := hrel
    by_cases hlt : k < k0
    · obtain ⟨nm, hnm⟩ : ∃ x, l'[k]? = some x := get_some (by have := HLEN.out; omega)
      obtain ⟨b, o, rfl, hD, hcs, hnms⟩ := (hk.below hb (Nat.le_refl _)).str hnm
      have hDr : b < wr.heap.size := Nat.lt_of_lt_of_le hD hb.size
      have hn1' := hs.hn
      have hle := hfine.1
      have hn900 : n1 ≤ 900 := by omega
      have hz : ∀ o, (wr.alloc o).heap.size = wr.heap.size + 1 := World.size_alloc wr
      have hsA := fun o => (hs.al (Nat.le_refl _) o).up (B' := (wr.alloc o).heap.size) (by rw [hz]; omega)
      have hnl := pushed_len ls (arkItem nm mark k)
      have HCE := Lib.hid (fine_check1 hfine nm mark (by omega))
      have HFP := Lib.hid (fine_push hfine nm mark)
      obtain ⟨mm, hmm⟩ := pushed_last ls (arkItem nm mark k)
      have HMM := Lib.hid hmm
      have HS := Lib.hid hs
      have HN1 := Lib.hid hn1'
      clear hs hfine hmm hn1' hnl hle
      by_cases hkm : (k : Int) = mark
      · have hx : arkItem nm mark k = ⟨-1, ⟨#[]⟩, []⟩ := if_pos hkm
        have hbeq : ((k : Int) == mark) = true := by simpa using hkm
        have HP := Lib.hid (push_any A1 n1 c1 ls (arkItem nm mark k) none 0 0 (wr.alloc (.cells #[.int .i64 (-1), .string ⟨#[]⟩, .slice none 0 0] 26)) (hsA _) (by rw [hx]; exact Sl.nil) (by rw [hx]; decide) (by rw [hx]; decide +kernel) hn900)
        have HP2 : Hid (Calls Try.prog 10 #[.slice A1 n1 c1, .agg #[.int .i64 (-1), .string ⟨#[]⟩, .slice none 0 0]] (wr.alloc (.cells #[.int .i64 (-1), .string ⟨#[]⟩, .slice none 0 0] 26)) (PushPost (wr.alloc (.cells #[.int .i64 (-1), .string ⟨#[]⟩, .slice none 0 0] 26)) ls (arkItem nm mark k))) := by
          have := HP.out
          rw [show (arkItem nm mark k).node = -1 from by rw [hx], show (arkItem nm mark k).name = ⟨#[]⟩ from by rw [hx]] at this
          exact this
        clear HP hx hsA hkm
        go_wp2_with fail
        refine HP2.out.mono ?_
        rintro e w1 ⟨A2, n2, c2, rfl, hb1, hp1, _⟩
        have hs2 := hp1 HCE.out
        rw [HCE.out]
        have hn2 := hs2.hn
        have hn2' : (n2 : Int) ≤ (n1 : Int) + 1 := by have h1 := HN1.out; have h2 := pushed_len ls (arkItem nm mark k); omega
        have HB := Lib.hid ((hb.alloc hb.size _).trans (hb1.mono (by rw [hz]; have := hb.size; omega)))
        have HS2 := Lib.hid hs2
        clear hp1 hs2 hb1 hb hz hn2 HP2
        go_wp2_with fail
        go_roundw
        case rel => exact ⟨k + 1, A2, n2, c2, _, by omega, by go_num, rfl, HB.out, HS2.out, HFP.out⟩
        case measure => simp [intOf]; omega
      · have hx : arkItem nm mark k = ⟨k, nm, []⟩ := if_neg hkm
        have hbeq : ((k : Int) == mark) = false := by simpa using hkm
        have HP := Lib.hid (push_any A1 n1 c1 ls (arkItem nm mark k) none 0 0 (wr.alloc (.cells #[.int .i64 (k : Int), .string nm, .slice none 0 0] 26)) (hsA _) (by rw [hx]; exact Sl.nil) (by rw [hx]; show (Lit.int .i64 (k : Int)).wf = true; exact WalkArith.wf_i64 (by omega)) (by rw [hx]; exact hnms) hn900)
        have HP2 : Hid (Calls Try.prog 10 #[.slice A1 n1 c1, .agg #[.int .i64 (k : Int), .string nm, .slice none 0 0]] (wr.alloc (.cells #[.int .i64 (k : Int), .string nm, .slice none 0 0] 26)) (PushPost (wr.alloc (.cells #[.int .i64 (k : Int), .string nm, .slice none 0 0] 26)) ls (arkItem nm mark k))) := by
          have := HP.out
          rw [show (arkItem nm mark k).node = k from by rw [hx], show (arkItem nm mark k).name = nm from by rw [hx]] at this
          exact this
        have HXN := Lib.hid hx
        clear HP hx hsA hkm
        go_wp2_with fail
        refine HP2.out.mono ?_
        rintro e w1 ⟨A2, n2, c2, rfl, hb1, hp1, _⟩
        have hs2 := hp1 HCE.out
        rw [HCE.out]
        have hn2 := hs2.hn
        have hn2' : (n2 : Int) ≤ (n1 : Int) + 1 := by have h1 := HN1.out; have h2 := pushed_len ls (arkItem nm mark k); omega
        have hb2 := (hb.alloc hb.size _).trans (hb1.mono (by rw [hz]; have := hb.size; omega))
        have hcs1 : w1.cell? ⟨b, o + k, none⟩ = some (.string nm) := (hb1.cell (p := ⟨b, o + k, none⟩) (by rw [hz]; exact Nat.lt_succ_of_lt hDr)).trans (cell_al hcs _)
        have hlast : foundRev nm (pushedL ls (arkItem nm mark k)).reverse = ((n2 - 1 : Nat) : Int) := by
          have h1 := found_last (m := mm) (x := arkItem nm mark k) (by rw [HXN.out]; show ((k : Int) == -1) = false; rw [beq_eq_false_iff_ne]; omega)
          rw [show (arkItem nm mark k).name = nm from by rw [HXN.out], ← HMM.out] at h1
          rw [h1, hn2, HMM.out]
          simp
        have hpos : 0 < n2 := by rw [hn2, HMM.out]; simp
        obtain ⟨b2, o2, A4, n4, c4, hA2, hD2, x0, _, _, _⟩ := sl_item hs2 (i := n2 - 1) (x := arkItem nm mark k) (by rw [hn2, HMM.out]; simp)
        subst hA2
        rw [show (arkItem nm mark k).node = k from by rw [HXN.out]] at x0
        have HF := Lib.hid (find_any (some ⟨b2, o2, none⟩) n2 c2 _ nm w1 w1.heap.size hs2 (Nat.le_refl _) (fine_check HFP.out (by omega)))
        have HLA := Lib.hid hlast
        have HB := Lib.hid hb2
        have HS2 := Lib.hid hs2
        have HX0 := Lib.hid x0
        clear hp1 hs2 hb1 hb2 hb hz hn2 HP2 hlast x0
        go_wp2_with fail
        refine HF.out.mono ?_
        rintro e w3 ⟨rfl, hb3⟩
        rw [HLA.out, show max (((n2 - 1 : Nat) : Int)) 0 = ((n2 - 1 : Nat) : Int) from by omega, decide_eq_true (show (0 : Int) ≤ ((n2 - 1 : Nat) : Int) by omega)]
        have y0 := (hb3.cell (p := ⟨b2, _, none⟩) hD2).trans HX0.out
        have heq : (((n2 - 1 : Nat) : Int) != (n2 : Int) - 1) = false := by rw [bne_eq_false_iff_eq]; omega
        have heq2 : ((n2 - 1 : Nat) : Int) = (n2 : Int) - 1 := by omega
        have HB4 := Lib.hid (HB.out.trans (hb3.mono HB.out.size))
        have HS4 := Lib.hid ((HS2.out.below hb3 (Nat.le_refl _)).up hb3.size)
        clear hb3 hcs1 hcs
        rw [heq2]
        go_wp2_with fail
        go_roundw
        case rel => exact ⟨k + 1, _, n2, c2, _, by omega, by go_num, rfl, HB4.out, HS4.out, HFP.out⟩
        case measure => simp [intOf]; omega
    · obtain ⟨wf, rfl⟩ : ∃ wf : World, wf = wr := ⟨_, rfl⟩
      have HS := Lib.hid hs
      have HN1 := Lib.hid hs.hn
      have hle := hs.small
      have hlen1 : n1 ≤ 40 := by have := hfine.1; have := hs.hn; omega
      have HFI := Lib.hid hfine
      clear hs hfine
      go_wp2_with fail
      go_loopw [13, 14, 15] (fun i _ _ wq => ∃ p : Nat, p ≤ n1 ∧ i = .int .i64 (p : Int) ∧ Below wf.heap.size wf wq) (fun i _ _ _ => n1 - (intOf i).toNat)
      case atStart => exact ⟨0, Nat.zero_le _, rfl, Below.refl _ _⟩
      case round =>
        obtain ⟨p, hp, rfl, hbq⟩ := hrel
        obtain ⟨wo, rfl⟩ : ∃ wo : World, wo = wr := ⟨_, rfl⟩
        by_cases hpn : p < n1
        · obtain ⟨x, hx⟩ : ∃ x, ls[p]? = some x := get_some (by have := HN1.out; omega)
          have hsq := HS.out.below hbq (Nat.le_refl _)
          obtain ⟨b1, o1, A5, n5, c5, hA1, hD1, x0, x1, x2, _⟩ := sl_item hsq hx
          subst hA1
          have hcn : ∀ k, p ≤ k → k ≤ n1 → (∀ y ∈ (ls.drop p).take (k - p), mk y = false) → cn x.name ((ls.drop p).take (k - p)) ≤ 3 := fun k h1 h2 h3 =>
            HFI.out.2.2 (ls.take p) ((ls.drop p).take (k - p)) ((ls.drop p).drop (k - p)) x.name (by rw [List.append_assoc, List.take_append_drop, List.take_append_drop]) h3
          have HCN := Lib.hid hcn
          have HX0 := Lib.hid x0
          have HX1 := Lib.hid x1
          have HSQ := Lib.hid hsq
          clear hsq hcn hx x0 x1 x2
          go_wp2_with fail
          go_loopw [14, 15] (fun q i wi => ∃ (k m : Nat), p ≤ k ∧ k ≤ n1 ∧ i = .int .i64 (k : Int) ∧ q = .int .i64 (m : Int) ∧ Below wo.heap.size wo wi ∧ m = cn x.name ((ls.drop p).take (k - p)) ∧ (∀ y ∈ (ls.drop p).take (k - p), mk y = false)) (fun _ i _ => n1 - (intOf i).toNat)
          case atStart => exact ⟨p, 0, Nat.le_refl _, hp, rfl, rfl, Below.refl _ _, by rw [Nat.sub_self]; rfl, by rw [Nat.sub_self]; simp⟩
          case round =>
            obtain ⟨k, m, hpk, hkn, rfl, rfl, hbi, hm, hfree⟩ := hrel
            obtain ⟨wi, rfl⟩ : ∃ wi : World, wi = wr := ⟨_, rfl⟩
            have hm3 := HCN.out k hpk hkn hfree
            rw [← hm] at hm3
            have HM := Lib.hid hm
            have HFR := Lib.hid hfree
            clear hm hfree
            have x0 := (hbi.cell (p := ⟨b1, _, none⟩) (Nat.lt_of_lt_of_le hD1 hbq.size)).trans HX0.out
            have x1 := (hbi.cell (p := ⟨b1, _, none⟩) (Nat.lt_of_lt_of_le hD1 hbq.size)).trans HX1.out
            by_cases hk1 : k < n1
            · obtain ⟨y, hy⟩ : ∃ y, ls[k]? = some y := get_some (by have := HN1.out; omega)
              have hsi := (HSQ.out.below hbi hbq.size)
              obtain ⟨b2, o2, A6, n6, c6, hA2, _, y0, y1, y2, _⟩ := sl_item hsi hy
              simp only [Option.some.injEq, Addr.mk.injEq, and_true] at hA2
              obtain ⟨rfl, rfl⟩ := hA2
              have hseg : (ls.drop p).take (k + 1 - p) = (ls.drop p).take (k - p) ++ [y] := by
                rw [show k + 1 - p = (k - p) + 1 from by omega]
                exact take_snoc (by rw [List.getElem?_drop, show p + (k - p) = k from by omega]; exact hy)
              have HSEG := Lib.hid hseg
              have hnode := (HFI.out.2.1 y (List.mem_of_getElem? hy)).2
              have HBI := Lib.hid hbi
              have HBW := Lib.hid (hbq.trans (hbi.mono hbq.size))
              have hp0 : (p : Int) < (n1 : Int) := by omega
              have hk0' : (k : Int) < (n1 : Int) := by omega
              clear hsi hseg hy y2 hbi hbq
              by_cases hneg : y.node < 0
              · go_wp2_with fail
                all_goals exact ⟨⟨p + 1, by omega, by go_num, HBW.out⟩, by simp [intOf]; omega⟩
              · have hmy : mk y = false := by show (y.node == -1) = false; rw [beq_eq_false_iff_ne]; omega
                have HFR2 : Hid (∀ z ∈ (ls.drop p).take (k + 1 - p), mk z = false) := by
                  intro z hz
                  rw [HSEG.out] at hz
                  rcases List.mem_append.1 hz with hz | hz
                  · exact HFR.out z hz
                  · obtain rfl : z = y := by simpa using hz
                    exact hmy
                clear hmy
                cases hnm : (y.name.toList == x.name.toList) with
                | true =>
                  have HM2 : Hid (m + 1 = cn x.name ((ls.drop p).take (k + 1 - p))) := by
                    show _ = _
                    rw [HSEG.out, cn_append, cn_cons, hnm, ← HM.out]; simp [cn]
                  go_wp2_with fail
                  go_quiet (fail)
                  go_wp2_with fail
                  go_roundw
                  case rel => exact ⟨k + 1, m + 1, by omega, by omega, by go_num, by go_num, below_drewN HBI.out _, HM2.out, HFR2.out⟩
                  case measure => simp [intOf]; omega
                | false =>
                  have HM2 : Hid (m = cn x.name ((ls.drop p).take (k + 1 - p))) := by
                    show _ = _
                    rw [HSEG.out, cn_append, cn_cons, hnm, ← HM.out]; simp [cn]
                  go_wp2_with fail
                  go_quiet (fail)
                  go_wp2_with fail
                  go_roundw
                  case rel => exact ⟨k + 1, m, by omega, by omega, by go_num, rfl, below_drewN HBI.out _, HM2.out, HFR2.out⟩
                  case measure => simp [intOf]; omega
            · have HBW := Lib.hid (hbq.trans (hbi.mono hbq.size))
              clear hbq hbi
              have hp0 : (p : Int) < (n1 : Int) := by omega
              go_wp2_with fail
              all_goals exact ⟨⟨p + 1, by omega, by go_num, HBW.out⟩, by simp [intOf]; omega⟩
        · have HBW := Lib.hid (hb.trans (hbq.mono hb.size))
          clear hb hbq
          go_wp2_with fail
          refine (activeBegun_any _).mono ?_
          rintro e w9 ⟨rfl, hb9⟩
          have HB9 := Lib.hid (HBW.out.trans (hb9.mono HBW.out.size))
          clear hb9
          go_wp2_with fail
          go_ret
          exact ⟨rfl, HB9.out⟩

end Go.Proofs.Ytabilpahmmkjkaa
