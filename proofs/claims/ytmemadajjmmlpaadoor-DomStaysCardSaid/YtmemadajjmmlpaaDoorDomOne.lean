/-
The walks of package dom: parent, bare, one.
-/
import Derived.Test.YtmemadajjmmlpaaDoorDomAttr
namespace Go.Proofs.YtmemadajjmmlpaaDoor
open Go.RowKit Go.Cl
attribute [local go_sem ↓] Go.wp_at_zero Go.wp_at_succ

theorem parentB_any (k : Int) (w : World) : Calls Tryd.prog 108 #[.int .i64 k] w fun e w' => e = .returned (.bool (parentB k)) ∧ w = w' := by
  go_enter Tryd.func108, Tryd.ntmps108
  go_wp2_with fail
  all_goals
    go_ret
    refine ⟨retB ?_, rfl⟩
    unfold parentB
    simp_all
theorem below_dN {B : Nat} {a w : World} (h : Below B a w) (n : Nat) : Below B a (w.drewN n) := h.trans ⟨rfl, rfl, rfl, Nat.le_refl _, fun _ _ => rfl⟩
theorem len0 {α : Type} {l : List α} {n : Nat} (h : n = l.length) : ((n : Int) == 0) = l.isEmpty := by
  subst h
  cases l with
  | nil => rfl
  | cons a l =>
    rw [List.isEmpty_cons, beq_eq_false_iff_ne, List.length_cons]
    omega

set_option maxRecDepth 100000 in
set_option maxHeartbeats 1000000 in
theorem bare_any (x : Nd) (Aa : Option Addr) (na ca : Nat) (Ak : Option Addr) (nk ck : Nat) (w : World) (hna : na = x.attrs.length) (hnk : nk = x.kids.length) :
    Calls Tryd.prog 77 #[.agg #[.int .i64 x.kind, .string x.name, .slice Aa na ca, .string x.text, .int .i64 x.parent, .slice Ak nk ck]] w fun e w' => e = .returned (.bool (bareB x)) ∧ Below w.heap.size w w' := by
  have ha := len0 hna
  have hk := len0 hnk
  obtain ⟨kd, nm, ats, tx, pr, ks⟩ := x
  dsimp only at *
  have HP := Lib.hid (fun W => parentB_any kd W)
  have HR : Hid (bareB ⟨kd, nm, ats, tx, pr, ks⟩ = ((kd == 2 || kd == 5 || nm.toList.isEmpty) && (kd == 2 || ((na : Int) == 0)) && ((kd == 3 || kd == 4) || tx.toList.isEmpty) && (parentB kd || ((nk : Int) == 0)))) := by
    show _ = _
    rw [ha, hk]
    rfl
  have hb : Below w.heap.size w (w.alloc (.cells #[.int .i64 kd, .string nm, .slice Aa na ca, .string tx, .int .i64 pr, .slice Ak nk ck] 35)) := (Below.refl _ _).alloc (Nat.le_refl _) _
  have HB := Lib.hid hb
  clear ha hk hb hna hnk
  generalize parentB kd = pk at *
  generalize hq1 : nm.toList.isEmpty = q1 at *
  generalize hq2 : (((na : Int) == 0) : Bool) = q2 at *
  generalize hq3 : tx.toList.isEmpty = q3 at *
  generalize hq4 : (((nk : Int) == 0) : Bool) = q4 at *
  go_enter Tryd.func77, Tryd.ntmps77
  go_wp2_with fail
  by_cases k2 : kd = 2
  · subst k2
    go_quiet (fail)
    go_wp2_with (go_at_call 108; refine (HP.out _).mono ?_; rintro e w2 ⟨rfl, rfl⟩)
    all_goals
      go_ret
      exact ⟨retB (by rw [HR.out]; simp_all), below_dN HB.out _⟩
  by_cases k3 : kd = 3
  · subst k3
    go_quiet (fail)
    go_wp2_with (go_at_call 108; refine (HP.out _).mono ?_; rintro e w2 ⟨rfl, rfl⟩)
    all_goals
      go_ret
      exact ⟨retB (by rw [HR.out]; simp_all), below_dN HB.out _⟩
  by_cases k4 : kd = 4
  · subst k4
    go_quiet (fail)
    go_wp2_with (go_at_call 108; refine (HP.out _).mono ?_; rintro e w2 ⟨rfl, rfl⟩)
    all_goals
      go_ret
      exact ⟨retB (by rw [HR.out]; simp_all), below_dN HB.out _⟩
  by_cases k5 : kd = 5
  · subst k5
    go_quiet (fail)
    go_wp2_with (go_at_call 108; refine (HP.out _).mono ?_; rintro e w2 ⟨rfl, rfl⟩)
    all_goals
      go_ret
      exact ⟨retB (by rw [HR.out]; simp_all), below_dN HB.out _⟩
  · have b2 : (kd == 2) = false := by simpa using k2
    have b3 : (kd == 3) = false := by simpa using k3
    have b4 : (kd == 4) = false := by simpa using k4
    have b5 : (kd == 5) = false := by simpa using k5
    clear k2 k3 k4 k5
    go_quiet (fail)
    go_wp2_with (go_at_call 108; refine (HP.out _).mono ?_; rintro e w2 ⟨rfl, rfl⟩)
    all_goals
      go_ret
      exact ⟨retB (by rw [HR.out]; simp_all), below_dN HB.out _⟩

set_option maxRecDepth 100000 in
set_option maxHeartbeats 1000000 in
theorem one_any' (x : Nd) (Aa : Option Addr) (na ca : Nat) (Ak : Option Addr) (nk ck : Nat) (w : World) (B : Nat) (hx : NdAt w (lt B) x Aa na ca Ak nk ck) (hB : B ≤ w.heap.size) :
    Calls Tryd.prog 53 #[.agg #[.int .i64 x.kind, .string x.name, .slice Aa na ca, .string x.text, .int .i64 x.parent, .slice Ak nk ck]] w fun e w' => e = .returned (.int .i64 (nodeE x)) ∧ Below w.heap.size w w' := by
  obtain ⟨w1, hw1⟩ : ∃ w1, w1 = w.alloc (.cells #[.int .i64 x.kind, .string x.name, .slice Aa na ca, .string x.text, .int .i64 x.parent, .slice Ak nk ck] 35) := ⟨_, rfl⟩
  have e1 : w1.heap[w.heap.size]? = some (.cells #[.int .i64 x.kind, .string x.name, .slice Aa na ca, .string x.text, .int .i64 x.parent, .slice Ak nk ck] 35 (0, 0)) := by rw [hw1]; exact heap_alloc_new w _
  have hz1 : w1.heap.size = w.heap.size + 1 := by rw [hw1]; exact World.size_alloc w _
  have hb1 : Below w.heap.size w w1 := by rw [hw1]; exact (Below.refl _ _).alloc (Nat.le_refl _) _
  have HB1 := Lib.hid hb1
  have HX := Lib.hid hx
  have HBA := Lib.hid (fun W => bare_any x Aa na ca Ak nk ck W hx.attrs.hn hx.kids.hn)
  have HNA := Lib.hid (fun W => name_any x.name W hx.name)
  have HAT := Lib.hid (fun W (hW : Below w.heap.size w W) => attrs_any Aa na ca x.attrs W B (hx.attrs.below hW hB) (Nat.le_trans hB hW.size))
  have z1 := hx.name
  have z2 := hx.text
  have c0 : w1.cell? ⟨w.heap.size, 0, none⟩ = some (.int .i64 x.kind) := cell_blk e1 rfl
  have c1 : w1.cell? ⟨w.heap.size, 1, none⟩ = some (.string x.name) := cell_blk e1 rfl
  have c2 : w1.cell? ⟨w.heap.size, 2, none⟩ = some (.slice Aa na ca) := cell_blk e1 rfl
  have c3 : w1.cell? ⟨w.heap.size, 3, none⟩ = some (.string x.text) := cell_blk e1 rfl
  have c4 : w1.cell? ⟨w.heap.size, 4, none⟩ = some (.int .i64 x.parent) := cell_blk e1 rfl
  have c5 : w1.cell? ⟨w.heap.size, 5, none⟩ = some (.slice Ak nk ck) := cell_blk e1 rfl
  have HK : Hid (∀ W, Below w1.heap.size w1 W → ∀ i v, (#[.int .i64 x.kind, .string x.name, .slice Aa na ca, .string x.text, .int .i64 x.parent, .slice Ak nk ck] : Array Value)[i]? = some v → W.cell? ⟨w.heap.size, i, none⟩ = some v) := fun W hW i v hv => cell_blk ((hW.block _ (by omega)).trans e1) hv
  clear e1 hb1 hx
  go_enter Tryd.func53, Tryd.ntmps53
  go_upto_region 1 with fail
  rw [← hw1]
  clear hw1
  by_cases k1 : x.kind < 1
  · have HR := Lib.hid (show nodeE x = 7 from by unfold nodeE; rw [if_pos (Or.inl k1)])
    go_wp2_with fail
    go_ret
    exact ⟨retI HR.out.symm, HB1.out⟩
  by_cases k5 : 5 < x.kind
  · have HR := Lib.hid (show nodeE x = 7 from by unfold nodeE; rw [if_pos (Or.inr (Or.inl k5))])
    go_wp2_with fail
    go_ret
    exact ⟨retI HR.out.symm, HB1.out⟩
  cases hba : bareB x with
  | false =>
    have HR := Lib.hid (show nodeE x = 7 from by unfold nodeE; rw [if_pos (Or.inr (Or.inr hba))])
    rw [hba] at HBA
    clear hba
    go_wp2_with fail
    refine (HBA.out _).mono ?_
    rintro e w2 ⟨rfl, hb2⟩
    go_wp2_with fail
    go_ret
    exact ⟨retI HR.out.symm, HB1.out.trans (hb2.mono HB1.out.size)⟩
  | true =>
    rw [hba] at HBA
    have HR1 := Lib.hid (show nodeE x = (if x.kind = 2 ∧ namedR x.name lettersB = false then 3 else if attrsE x.attrs ≠ 0 then attrsE x.attrs else if 400 < x.text.size ∨ 400 < x.name.size then 2 else 0) from by
      unfold nodeE
      rw [if_neg (by rw [hba]; simp; omega)])
    clear hba
    go_upto_region 3 with (go_at_call 77; refine (HBA.out _).mono ?_; rintro e w2 ⟨rfl, hb2⟩)
    have HB2 := Lib.hid (HB1.out.trans (hb2.mono HB1.out.size))
    have d0 := HK.out _ hb2 0 _ rfl
    have d1 := HK.out _ hb2 1 _ rfl
    have d2 := HK.out _ hb2 2 _ rfl
    have HBW := Lib.hid hb2
    have hz2 := hb2.size
    clear c0 c1 c2 c3 c4 c5 hb2
    by_cases k2 : x.kind = 2
    · have k2b : (x.kind == 2) = true := by simpa using k2
      cases hnm : namedR x.name lettersB with
      | false =>
        have HR := Lib.hid (HR1.out.trans (if_pos ⟨k2, hnm⟩))
        rw [hnm] at HNA
        clear hnm k2
        go_wp2_with (go_at_call 78; refine (HNA.out _).mono ?_; rintro e w3 ⟨rfl, hb3⟩)
        go_ret
        exact ⟨retI HR.out.symm, HB2.out.trans (hb3.mono HB2.out.size)⟩
      | true =>
        have HR := Lib.hid (HR1.out.trans (if_neg (by rw [hnm]; simp)))
        rw [hnm] at HNA
        clear hnm k2
        go_upto_region 5 with (go_at_call 78; refine (HNA.out _).mono ?_; rintro e w3 ⟨rfl, hb3⟩)
        have HB3 := Lib.hid (HB2.out.trans (hb3.mono HB2.out.size))
        have HBW3 := Lib.hid (HBW.out.trans (hb3.mono hz2))
        clear hb3 d0 d1 d2
        have b2 := HK.out _ HBW3.out 2 _ rfl
        by_cases ha0 : attrsE x.attrs = 0
        · have HR3 := Lib.hid (HR.out.trans (if_neg (by rw [ha0]; decide)))
          have HAT2 := Lib.hid (HAT.out _ HB3.out)
          rw [ha0] at HAT2
          clear ha0
          go_upto_region 8 with (go_at_call 79; refine HAT2.out.mono ?_; rintro e w4 ⟨rfl, hb4⟩)
          have HB4 := Lib.hid (HB3.out.trans (hb4.mono HB3.out.size))
          have d1' := HK.out _ (HBW3.out.trans (hb4.mono HBW3.out.size)) 1 _ rfl
          have d3' := HK.out _ (HBW3.out.trans (hb4.mono HBW3.out.size)) 3 _ rfl
          clear hb4
          by_cases ht : 400 < x.text.size
          · have HR4 := Lib.hid (HR3.out.trans (if_pos (Or.inl ht)))
            go_wp2_with fail
            go_ret
            exact ⟨retI HR4.out.symm, HB4.out⟩
          · by_cases hn4 : 400 < x.name.size
            · have HR4 := Lib.hid (HR3.out.trans (if_pos (Or.inr hn4)))
              go_wp2_with fail
              go_ret
              exact ⟨retI HR4.out.symm, HB4.out⟩
            · have HR4 := Lib.hid (HR3.out.trans (if_neg (by omega)))
              go_wp2_with fail
              go_ret
              exact ⟨retI HR4.out.symm, HB4.out⟩
        · have HR3 := Lib.hid (HR.out.trans (if_pos ha0))
          have HAT2 := Lib.hid (HAT.out _ HB3.out)
          have ha1 : (attrsE x.attrs != 0) = true := by simpa using ha0
          generalize attrsE x.attrs = q at *
          clear ha0
          go_wp2_with (go_at_call 79; refine HAT2.out.mono ?_; rintro e w4 ⟨rfl, hb4⟩)
          go_ret
          exact ⟨retI HR3.out.symm, HB3.out.trans (hb4.mono HB3.out.size)⟩

    · have k2b : (x.kind == 2) = false := by simpa using k2
      have HR := Lib.hid (HR1.out.trans (if_neg (fun h => k2 h.1)))
      clear k2
      go_upto_region 5 with fail
      clear d0 d1 d2
      have b2 := HK.out _ HBW.out 2 _ rfl
      by_cases ha0 : attrsE x.attrs = 0
      · have HR3 := Lib.hid (HR.out.trans (if_neg (by rw [ha0]; decide)))
        have HAT2 := Lib.hid (HAT.out _ HB2.out)
        rw [ha0] at HAT2
        clear ha0
        go_upto_region 8 with (go_at_call 79; refine HAT2.out.mono ?_; rintro e w4 ⟨rfl, hb4⟩)
        have HB4 := Lib.hid (HB2.out.trans (hb4.mono HB2.out.size))
        have d1' := HK.out _ (HBW.out.trans (hb4.mono HBW.out.size)) 1 _ rfl
        have d3' := HK.out _ (HBW.out.trans (hb4.mono HBW.out.size)) 3 _ rfl
        clear hb4
        by_cases ht : 400 < x.text.size
        · have HR4 := Lib.hid (HR3.out.trans (if_pos (Or.inl ht)))
          go_wp2_with fail
          go_ret
          exact ⟨retI HR4.out.symm, HB4.out⟩
        · by_cases hn4 : 400 < x.name.size
          · have HR4 := Lib.hid (HR3.out.trans (if_pos (Or.inr hn4)))
            go_wp2_with fail
            go_ret
            exact ⟨retI HR4.out.symm, HB4.out⟩
          · have HR4 := Lib.hid (HR3.out.trans (if_neg (by omega)))
            go_wp2_with fail
            go_ret
            exact ⟨retI HR4.out.symm, HB4.out⟩
      · have HR3 := Lib.hid (HR.out.trans (if_pos ha0))
        have HAT2 := Lib.hid (HAT.out _ HB2.out)
        have ha1 : (attrsE x.attrs != 0) = true := by simpa using ha0
        generalize attrsE x.attrs = q at *
        clear ha0
        go_wp2_with (go_at_call 79; refine HAT2.out.mono ?_; rintro e w4 ⟨rfl, hb4⟩)
        go_ret
        exact ⟨retI HR3.out.symm, HB2.out.trans (hb4.mono HB2.out.size)⟩

end Go.Proofs.YtmemadajjmmlpaaDoor
