/-
The walks of package walk: Common, Within.
-/
import Derived.Test.YtmemadajjmmlpaaDoorCommonLaw
namespace Go.Proofs.YtmemadajjmmlpaaDoor
open Go.RowKit Go.Cl
attribute [local go_sem ↓] Go.wp_at_zero Go.wp_at_succ

theorem com_same {ps qs : List Int} {i : Nat} {x : Int} (h : comF 0 ps qs = comF (prevI ps i) (ps.drop i) (qs.drop i)) (hp : ps[i]? = some x) (hq : qs[i]? = some x) : comF 0 ps qs = comF (prevI ps (i + 1)) (ps.drop (i + 1)) (qs.drop (i + 1)) := by
  rw [h, List.drop_eq_getElem_cons (List.getElem?_eq_some_iff.1 hp).1, (List.getElem?_eq_some_iff.1 hp).2, List.drop_eq_getElem_cons (List.getElem?_eq_some_iff.1 hq).1, (List.getElem?_eq_some_iff.1 hq).2, comF, if_pos rfl]
  unfold prevI
  rw [if_neg (by omega), Nat.add_sub_cancel, hp]
  rfl
theorem com_part {ps qs : List Int} {i : Nat} {x y : Int} (h : comF 0 ps qs = comF (prevI ps i) (ps.drop i) (qs.drop i)) (hp : ps[i]? = some x) (hq : qs[i]? = some y) (hne : x ≠ y) : comF 0 ps qs = prevI ps i := by
  rw [h, List.drop_eq_getElem_cons (List.getElem?_eq_some_iff.1 hp).1, (List.getElem?_eq_some_iff.1 hp).2, List.drop_eq_getElem_cons (List.getElem?_eq_some_iff.1 hq).1, (List.getElem?_eq_some_iff.1 hq).2, comF, if_neg hne]
theorem com_end {ps qs : List Int} {i : Nat} (h : comF 0 ps qs = comF (prevI ps i) (ps.drop i) (qs.drop i)) (hi : ps.length ≤ i ∨ qs.length ≤ i) : comF 0 ps qs = prevI ps i := by
  rw [h]
  rcases hi with hi | hi
  · rw [List.drop_of_length_le hi]
    rfl
  · rw [List.drop_of_length_le (l := qs) hi, com_nil]
/-- What is read behind the loop. -/
theorem com_out {w3 : World} {ps : List Int} {N c : Nat} {A : Option Addr} (hs : Sl (tInt .i64) w3 (lt w3.heap.size) A N c ps) (hN : ps.length = N) {i : Nat} (hi0 : 0 < i) (hi : i ≤ N) (h40 : N ≤ 41) :
    ∃ g o, A = some ⟨g, o, none⟩ ∧ w3.cell? ⟨g, o + (i - 1), none⟩ = some (.int .i64 (prevI ps i)) ∧ IntKind.i64.wrap ((i : Int) - 1) = (i : Int) - 1 ∧ ((i : Int) - 1).toNat = i - 1 ∧ (0 : Int) ≤ (i : Int) - 1 ∧ (i : Int) - 1 < (N : Int) := by
  obtain ⟨z, hz⟩ : ∃ z, ps[i - 1]? = some z := get_some (by omega)
  obtain ⟨g, o, e, _, cz, _⟩ := hs.int hz
  have hpv : prevI ps i = z := by unfold prevI; rw [if_neg (by omega), hz]; rfl
  exact ⟨g, o, e, by rw [hpv]; exact cz, IntWalk.i64_in _ (by omega), by omega, by omega, by omega⟩

set_option maxRecDepth 100000 in
set_option maxHeartbeats 8000000 in
theorem common_any (A : Option Addr) (n c : Nat) (l : List Nd) (q : Bool) (a b : Int) (w : World) (B : Nat) (hl : Sl tNd w (lt B) A n c l) (hB : B ≤ w.heap.size) (ha : (Lit.int .i64 a).wf = true) (hb : (Lit.int .i64 b).wf = true) :
    Calls Tryd.prog 13 #[.agg #[.slice A n c, .bool q], .int .i64 a, .int .i64 b] w fun e w' => e = .returned (.tuple #[.int .i64 (commonS l a b).1, .int .i64 (commonS l a b).2]) ∧ Below w.heap.size w w' := by
  obtain ⟨w0, hw0⟩ : ∃ w0, w0 = w.alloc (.cells #[.slice A n c, .bool q] 24) := ⟨_, rfl⟩
  have hbx : w0.heap[w.heap.size]? = some (.cells #[.slice A n c, .bool q] 24 (0, 0)) := by rw [hw0]; exact heap_alloc_new w _
  have b0 : w0.cell? ⟨w.heap.size, 0, none⟩ = some (.slice A n c) := cell_blk hbx rfl
  have b1 : w0.cell? ⟨w.heap.size, 1, none⟩ = some (.bool q) := cell_blk hbx rfl
  have hb0 : Below w.heap.size w w0 := by rw [hw0]; exact (Below.refl _ _).alloc (Nat.le_refl _) _
  have hz0 : w.heap.size < w0.heap.size := by rw [hw0, World.size_alloc]; omega
  have hbA : Below w.heap.size w (w0.alloc (.cells #[.int .i64 a, .int .i64 b] 3)) := hb0.alloc (by omega) _
  have HBA := Lib.hid hbA
  have HB0 := Lib.hid hb0
  have HL := Lib.hid hl
  have HC := Lib.hid (check_walk A n c l q (some ⟨w0.heap.size, 0, none⟩) 2 2 [a, b] (w0.alloc (.cells #[.int .i64 a, .int .i64 b] 3)) B ((hl.below hb0 hB).al (Nat.le_trans hB hb0.size) _) (by rw [World.size_alloc]; omega) ((ints_two ha hb).up (by rw [World.size_alloc]; exact Nat.le_refl _)))
  clear hb0 hbx hl hbA
  go_enter Tryd.func13, Tryd.ntmps13
  go_upto_region 1 with fail
  rw [← hw0]
  clear hw0
  go_wp2_with fail
  refine HC.out.mono ?_
  rintro e w1 ⟨hb1, ⟨h1, rfl⟩ | ⟨h1, g, bb, o, rfl, rfl, hwk, hg⟩⟩
  · have HR := Lib.hid (show commonS l a b = (0, checkW l [a, b]) from by unfold commonS; rw [if_pos h1])
    have h1c : (checkW l [a, b] != 0) = true := by simpa using h1
    generalize checkW l [a, b] = e0 at *
    clear h1
    go_wp2_with fail
    go_ret2
    exact ⟨by rw [HR.out]; rfl, HBA.out.trans (hb1.mono HBA.out.size)⟩
  · have HR := Lib.hid (show commonS l a b = (comF 0 (pathL l a) (pathL l b), 0) from by unfold commonS; rw [if_neg (by rw [h1]; simp)])
    obtain ⟨_, hin⟩ := checkW_in h1
    obtain ⟨ka, rfl, hka, hta⟩ := hin a (by simp)
    obtain ⟨kb, rfl, hkb, htb⟩ := hin b (by simp)
    have HB1 := Lib.hid (HBA.out.trans (hb1.mono HBA.out.size))
    have HWK := Lib.hid hwk
    have T := hwk.tree
    have HT := Lib.hid T
    have HTA := Lib.hid (show (pathL l ka)[0]? = some 0 from by rw [T.path_top hka, hta])
    have HTB := Lib.hid (show (pathL l kb)[0]? = some 0 from by rw [T.path_top hkb, htb])
    have HPA := Lib.hid (path_any w1 g bb o n c q l ka hwk hka)
    have hz1 := HB1.out.size
    clear h1 hb1 hg hin hta htb b0 b1
    go_wp2_with fail
    refine HPA.out.mono ?_
    rintro e w2 ⟨v1, rfl, hown1, hb2⟩
    have HPB := Lib.hid (path_any w2 g bb o n c q l kb (hwk.below hb2) hkb)
    have HB2 := Lib.hid (HB1.out.trans (hb2.mono hz1))
    have hbz2 := hb2.size
    have HBW2 := Lib.hid hb2
    have HO1 := Lib.hid hown1
    clear hb2 hown1 hwk
    go_wp2_with fail
    refine HPB.out.mono ?_
    rintro e w3 ⟨v2, rfl, hown2, hb3⟩
    have HB3 := Lib.hid (HB2.out.trans (hb3.mono HB2.out.size))
    have HBW3 := Lib.hid (HBW2.out.trans (hb3.mono hbz2))
    have hown1 := OwnF.below HO1.out hb3 (Nat.le_refl _)
    have la : (chainR l ka).length = (pathL l ka).length := by unfold pathL; rw [List.length_reverse]
    have lb : (chainR l kb).length = (pathL l kb).length := by unfold pathL; rw [List.length_reverse]
    have la41 : (pathL l ka).length ≤ 41 := by rw [← la]; exact T.chain_len hka
    have lb41 : (pathL l kb).length ≤ 41 := by rw [← lb]; exact T.chain_len hkb
    have pa0 := T.path_pos hka
    have pb0 := T.path_pos hkb
    have HINA := Lib.hid (T.path_in hka)
    rw [la] at hown1
    rw [lb] at hown2
    obtain ⟨A1, c1, rfl, hs1⟩ := OwnF.sl hown1 (by decide) (by show (pathL l ka).length * 8 ≤ _; omega)
    obtain ⟨A2, c2, rfl, hs2⟩ := OwnF.sl hown2 (by decide) (by show (pathL l kb).length * 8 ≤ _; omega)
    have hs1' : Sl (tInt .i64) w3 (lt w3.heap.size) A1 (pathL l ka).length c1 (pathL l ka) := hs1
    have hs2' : Sl (tInt .i64) w3 (lt w3.heap.size) A2 (pathL l kb).length c2 (pathL l kb) := hs2
    have HS1 := Lib.hid hs1'
    have HS2 := Lib.hid hs2'
    have hwk3 := HWK.out.below HBW3.out
    have HWK3 := Lib.hid hwk3
    clear hown1 hown2 hs1 hs2 hs1' hs2' la lb hb3 hwk3 T HO1 HPA HPB
    generalize pathL l ka = ps at *
    generalize pathL l kb = qs at *
    obtain ⟨N1, hN1⟩ : ∃ N, ps.length = N := ⟨_, rfl⟩
    obtain ⟨N2, hN2⟩ : ∃ N, qs.length = N := ⟨_, rfl⟩
    rw [hN1] at HS1 la41 pa0 ⊢
    rw [hN2] at HS2 lb41 pb0 ⊢
    have HN1 := Lib.hid hN1
    have HN2 := Lib.hid hN2
    clear hN1 hN2
    go_wp2_with fail
    go_loopw [12] (fun s wr => ∃ i : Nat, i ≤ N1 ∧ i ≤ N2 ∧ s = .int .i64 (i : Int) ∧ (∃ k, wr = w3.drewN k) ∧ Hid (comF 0 ps qs = comF (prevI ps i) (ps.drop i) (qs.drop i))) (fun s _ => N1 - (intOf s).toNat)
    case atStart => exact ⟨0, Nat.zero_le _, Nat.zero_le _, rfl, ⟨0, rfl⟩, Lib.hid rfl⟩
    case round =>
      obtain ⟨i, hi, hi2, rfl, ⟨kq, rfl⟩, HCF⟩ := hrel
      by_cases hlt : i < N1
      · obtain ⟨x, hx⟩ : ∃ x, ps[i]? = some x := get_some (by have := HN1.out; omega)
        obtain ⟨gp, op, rfl, _, cx, _⟩ := HS1.out.int hx
        have dx : (w3.drewN kq).cell? ⟨gp, op + i, none⟩ = some (.int .i64 x) := cx
        have i1 : (0 : Int) ≤ (i : Int) := by omega
        have i2 : (i : Int) < (N1 : Int) := by omega
        have HX := Lib.hid hx
        clear hx
        by_cases hlt2 : i < N2
        · obtain ⟨y, hy⟩ : ∃ y, qs[i]? = some y := get_some (by have := HN2.out; omega)
          obtain ⟨gq, oq, rfl, _, cy, _⟩ := HS2.out.int hy
          have dy : (w3.drewN kq).cell? ⟨gq, oq + i, none⟩ = some (.int .i64 y) := cy
          have i3 : (i : Int) < (N2 : Int) := by omega
          have HY := Lib.hid hy
          clear hy
          by_cases hxy : x = y
          · subst hxy
            have heq : (x == x) = true := by simp
            have HCF2 := Lib.hid (com_same HCF.out HX.out HY.out)
            go_wp2_with fail
            go_quiet (fail)
            go_wp2_with fail
            go_roundw
            case rel => exact ⟨i + 1, by omega, by omega, by go_num, ⟨_, rfl⟩, HCF2⟩
            case measure => simp [intOf]; omega
          · have heq : (x == y) = false := by simpa using hxy
            have hi0 : 0 < i := by
              rcases Nat.eq_zero_or_pos i with e | e
              · subst e
                have h1 := HX.out
                have h2 := HY.out
                rw [HTA.out] at h1
                rw [HTB.out] at h2
                exact absurd (Option.some.inj (h1.symm.trans h2)) hxy
              · exact e
            have HCP := Lib.hid (com_part HCF.out HX.out HY.out hxy)
            obtain ⟨gp', op', ep, cz, wz, nz, j1, j2⟩ := com_out HS1.out HN1.out hi0 hi la41
            obtain ⟨rfl, rfl⟩ : gp = gp' ∧ op = op' := by simpa using ep
            have dz : (w3.drewN kq).cell? ⟨gp, op + (i - 1), none⟩ = some (.int .i64 (prevI ps i)) := cz
            generalize prevI ps i = pv at *
            clear hxy ep
            go_wp2_with fail
            go_quiet (fail)
            go_wp2_with fail
            go_ret2
            exact ⟨by rw [HR.out, HCP.out]; rfl, below_dN HB3.out _⟩
        · have hi0 : 0 < i := by omega
          have HCP := Lib.hid (com_end HCF.out (Or.inr (by have := HN2.out; omega)))
          obtain ⟨gp', op', ep, cz, wz, nz, j1, j2⟩ := com_out HS1.out HN1.out hi0 hi la41
          obtain ⟨rfl, rfl⟩ : gp = gp' ∧ op = op' := by simpa using ep
          have dz : (w3.drewN kq).cell? ⟨gp, op + (i - 1), none⟩ = some (.int .i64 (prevI ps i)) := cz
          have n3 : ¬ (i : Int) < (N2 : Int) := by omega
          generalize prevI ps i = pv at *
          clear ep
          go_wp2_with fail
          go_quiet (fail)
          go_wp2_with fail
          go_ret2
          exact ⟨by rw [HR.out, HCP.out]; rfl, below_dN HB3.out _⟩
      · have hi0 : 0 < i := by omega
        have HCP := Lib.hid (com_end HCF.out (Or.inl (by have := HN1.out; omega)))
        obtain ⟨gp, op, rfl, cz, wz, nz, j1, j2⟩ := com_out HS1.out HN1.out hi0 hi la41
        have dz : (w3.drewN kq).cell? ⟨gp, op + (i - 1), none⟩ = some (.int .i64 (prevI ps i)) := cz
        have n3 : ¬ (i : Int) < (N1 : Int) := by omega
        generalize prevI ps i = pv at *
        go_wp2_with fail
        go_quiet (fail)
        go_wp2_with fail
        go_ret2
        exact ⟨by rw [HR.out, HCP.out]; rfl, below_dN HB3.out _⟩
theorem containsInt_any (A : Option Addr) (n c : Nat) (l : List Int) (x : Int) (w : World) (D : Nat → Prop) (hl : Sl (tInt .i64) w D A n c l) :
    Calls Tryd.prog 41 #[.slice A n c, .int .i64 x] w fun e w' => e = .returned (.bool (l.contains x)) ∧ w' = w := by
  rcases Nat.eq_zero_or_pos n with h0 | h0
  · subst h0
    obtain rfl : l = [] := List.eq_nil_of_length_eq_zero hl.hn.symm
    exact (Tryd.slices_Contains_int_empty A c x w).mono fun e w' h => ⟨by rw [h.1]; rfl, h.2⟩
  · obtain ⟨b, o, cells, rfl, hb, hr, hc⟩ := hl.at_ h0
    have hn := hl.hn
    refine (Tryd.slices_Contains_int b o n c l x w (by omega) (by have := hl.small; omega) (fun j hj => ?_)).mono fun e w' h => ⟨by rw [h.1, hn, List.take_length], h.2⟩
    obtain ⟨b', o', e, _, hcell, _⟩ := hl.int (List.getElem?_eq_getElem hj)
    simp only [Option.some.injEq, Addr.mk.injEq] at e
    obtain ⟨rfl, rfl, _⟩ := e
    rw [hcell, List.getD_eq_getElem?_getD, List.getElem?_eq_getElem hj]; rfl
set_option maxRecDepth 100000 in
set_option maxHeartbeats 8000000 in
theorem within_any (A : Option Addr) (n c : Nat) (l : List Nd) (q : Bool) (a b : Int) (w : World) (B : Nat) (hl : Sl tNd w (lt B) A n c l) (hB : B ≤ w.heap.size) (ha : (Lit.int .i64 a).wf = true) (hb : (Lit.int .i64 b).wf = true) :
    Calls Tryd.prog 15 #[.agg #[.slice A n c, .bool q], .int .i64 a, .int .i64 b] w fun e w' => e = .returned (.tuple #[.bool (withinS l a b).1, .int .i64 (withinS l a b).2]) ∧ Below w.heap.size w w' := by
  obtain ⟨w0, hw0⟩ : ∃ w0, w0 = w.alloc (.cells #[.slice A n c, .bool q] 24) := ⟨_, rfl⟩
  have hbx : w0.heap[w.heap.size]? = some (.cells #[.slice A n c, .bool q] 24 (0, 0)) := by rw [hw0]; exact heap_alloc_new w _
  have b0 : w0.cell? ⟨w.heap.size, 0, none⟩ = some (.slice A n c) := cell_blk hbx rfl
  have b1 : w0.cell? ⟨w.heap.size, 1, none⟩ = some (.bool q) := cell_blk hbx rfl
  have hb0 : Below w.heap.size w w0 := by rw [hw0]; exact (Below.refl _ _).alloc (Nat.le_refl _) _
  have hz0 : w.heap.size < w0.heap.size := by rw [hw0, World.size_alloc]; omega
  have hbA : Below w.heap.size w (w0.alloc (.cells #[.int .i64 a, .int .i64 b] 3)) := hb0.alloc (by omega) _
  have HBA := Lib.hid hbA
  have HB0 := Lib.hid hb0
  have HL := Lib.hid hl
  have HC := Lib.hid (check_walk A n c l q (some ⟨w0.heap.size, 0, none⟩) 2 2 [a, b] (w0.alloc (.cells #[.int .i64 a, .int .i64 b] 3)) B ((hl.below hb0 hB).al (Nat.le_trans hB hb0.size) _) (by rw [World.size_alloc]; omega) ((ints_two ha hb).up (by rw [World.size_alloc]; exact Nat.le_refl _)))
  clear hb0 hbx hl hbA
  go_enter Tryd.func15, Tryd.ntmps15
  go_upto_region 1 with fail
  rw [← hw0]
  clear hw0
  go_wp2_with fail
  refine HC.out.mono ?_
  rintro e w1 ⟨hb1, ⟨h1, rfl⟩ | ⟨h1, g, bb, o, rfl, rfl, hwk, hg⟩⟩
  · have HR := Lib.hid (show withinS l a b = (false, checkW l [a, b]) from by unfold withinS; rw [if_pos h1])
    have h1c : (checkW l [a, b] != 0) = true := by simpa using h1
    generalize checkW l [a, b] = e0 at *
    clear h1
    go_wp2_with fail
    go_ret2
    exact ⟨by rw [HR.out]; rfl, HBA.out.trans (hb1.mono HBA.out.size)⟩
  · have HR := Lib.hid (show withinS l a b = ((pathL l a).contains b, 0) from by unfold withinS; rw [if_neg (by rw [h1]; simp)])
    obtain ⟨_, hin⟩ := checkW_in h1
    obtain ⟨ka, rfl, hka, hta⟩ := hin a (by simp)
    obtain ⟨kb, rfl, hkb, htb⟩ := hin b (by simp)
    have HB1 := Lib.hid (HBA.out.trans (hb1.mono HBA.out.size))
    have HWK := Lib.hid hwk
    have T := hwk.tree
    have HT := Lib.hid T
    have HPA := Lib.hid (path_any w1 g bb o n c q l ka hwk hka)
    have hz1 := HB1.out.size
    clear h1 hb1 hg hin hta htb b0 b1
    go_wp2_with fail
    refine HPA.out.mono ?_
    rintro e w2 ⟨v1, rfl, hown1, hb2⟩
    have HB2 := Lib.hid (HB1.out.trans (hb2.mono hz1))
    have la : (chainR l ka).length = (pathL l ka).length := by unfold pathL; rw [List.length_reverse]
    have la41 : (pathL l ka).length ≤ 41 := by rw [← la]; exact T.chain_len hka
    rw [la] at hown1
    obtain ⟨A1, c1, rfl, hs1⟩ := OwnF.sl hown1 (by decide) (by show (pathL l ka).length * 8 ≤ _; omega)
    have hs1' : Sl (tInt .i64) w2 (lt w2.heap.size) A1 (pathL l ka).length c1 (pathL l ka) := hs1
    have HCO := Lib.hid (containsInt_any A1 _ c1 (pathL l ka) kb w2 _ hs1')
    clear hown1 hs1 hs1' la hb2 hwk HPA
    generalize pathL l ka = ps at *
    go_wp2_with (go_at_call 41; refine HCO.out.mono ?_; rintro e w3 ⟨rfl, rfl⟩)
    go_ret2
    exact ⟨by rw [HR.out]; show Ending.returned (.tuple #[.bool (decide ((kb : Int) ∈ ps)), .int .i64 0]) = .returned (.tuple #[.bool (ps.contains (kb : Int)), .int .i64 0]); rw [List.contains_eq_mem], HB2.out⟩
end Go.Proofs.YtmemadajjmmlpaaDoor
