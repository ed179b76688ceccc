/-
The walk of the law ActiveMark.
-/
import Derived.Test.YtabilpahmmkjkaaActiveLaws
namespace Go.Proofs.Ytabilpahmmkjkaa
open Go.RowKit Go.Cl

def mkr : Item := ⟨-1, ⟨#[]⟩, []⟩
theorem mkr_push (l : List Item) : pushedL l mkr = l ++ [mkr] := by
  rcases pushed_ways l mkr with ⟨h, _⟩ | ⟨_, _, _, _, _, _, _, h, _⟩
  · exact h
  · cases h
theorem mkr_last {l t : List Item} (ht : ∀ y ∈ t, mk y = false) : lastN (l ++ [mkr] ++ t) = l.length + 1 := by
  have h : (l ++ [mkr] ++ t).reverse = t.reverse ++ (mkr :: l.reverse) := by simp
  unfold lastN
  rw [h, List.takeWhile_append_of_pos (by intro y hy; have := ht y (List.mem_reverse.1 hy); show (!(mk y)) = true; rw [this]; rfl)]
  rw [List.takeWhile_cons, show (!(mkr.node == -1)) = false from rfl]
  simp
  omega
theorem mkr_miss (l : List Item) (op : List Int) : missRev op (l ++ [mkr]).reverse = l.length + 1 := by
  rw [List.reverse_append]
  show missRev op (mkr :: l.reverse) = _
  rw [missRev, show (mkr.node == -1) = true from rfl]
  simp
/-- A list in good order. -/
def Good (l : List Item) : Prop := ∀ y ∈ l, badB y = false
theorem good_check {l : List Item} (h : Good l) (hl : l.length ≤ 60) : checkE l = 0 := by
  unfold checkE
  rw [if_neg (by omega), if_neg]
  simp only [List.any_eq_true, not_exists, not_and, Bool.not_eq_true]
  exact h
theorem check_good {l : List Item} (h : checkE l = 0) : Good l := by
  unfold checkE at h
  intro y hy
  split at h
  · cases h
  · split at h
    · cases h
    · rename_i h2
      cases hb : badB y with
      | false => rfl
      | true => exact absurd (List.any_eq_true.2 ⟨y, hy, hb⟩) h2
theorem good_node {x : Item} (h : ¬ x.node < 0) : badB x = false := by
  unfold badB
  rw [decide_eq_false (by omega), show (x.node == -1) = false from by rw [beq_eq_false_iff_ne]; omega]
  rfl
theorem mark_push {l t : List Item} {x : Item} (ht : ∀ y ∈ t, ¬ y.node < 0) (hx : ¬ x.node < 0) :
    ∃ t', pushedL (l ++ [mkr] ++ t) x = l ++ [mkr] ++ t' ∧ (∀ y ∈ t', ¬ y.node < 0) ∧ t'.length ≤ t.length + 1 := by
  have hf : ∀ y ∈ t, mk y = false := fun y hy => by show (y.node == -1) = false; rw [beq_eq_false_iff_ne]; have := ht y hy; omega
  rcases pushed_ways (l ++ [mkr] ++ t) x with ⟨h, _⟩ | ⟨a, y, b, e1, e2, _, e4, _⟩
  · refine ⟨t ++ [x], by rw [h]; simp, fun y hy => ?_, by simp⟩
    rcases List.mem_append.1 hy with hy | hy
    · exact ht y hy
    · obtain rfl : y = x := by simpa using hy
      exact hx
  · rw [mkr_last hf] at e2
    have hpre : ∃ a', a = l ++ [mkr] ++ a' := by
      rcases List.append_eq_append_iff.1 e1 with ⟨u, h1, _⟩ | ⟨u, h1, h2⟩
      · exact ⟨u, h1⟩
      · have h3 := congrArg List.length h1
        simp at h3
        have hu : u = [] := List.eq_nil_of_length_eq_zero (by omega)
        subst hu
        exact ⟨[], by simpa using h1.symm⟩
    obtain ⟨a', rfl⟩ := hpre
    have e5 : t = a' ++ y :: b := by
      rw [List.append_assoc (l ++ [mkr])] at e1
      exact List.append_cancel_left e1
    refine ⟨a' ++ b ++ [x], by rw [e4]; simp, fun z hz => ?_, by rw [e5]; simp⟩
    simp only [List.mem_append, List.mem_singleton] at hz
    rcases hz with (hz | hz) | rfl
    · exact ht z (by rw [e5]; simp [hz])
    · exact ht z (by rw [e5]; simp [hz])
    · exact hx

set_option maxRecDepth 100000 in
theorem activeMark_walk (A : Option Addr) (n c : Nat) (l : List Item) (A' : Option Addr) (n' c' : Nat) (more : List Item) (A'' : Option Addr) (n'' c'' : Nat) (op : List Int) (w : World)
    (hl : Sl tItem w (lt w.heap.size) A n c l) (hm : Sl tItem w (lt w.heap.size) A' n' c' more) (ho : Sl (tInt .i64) w (lt w.heap.size) A'' n'' c'' op) :
    Calls Try.prog 4 #[.slice A n c, .slice A' n' c', .slice A'' n'' c''] w fun e w' => e = .returned (.bool true) ∧ Below w.heap.size w w' := by
  have hn1 := hl.small
  have hn2 := hm.small
  have hn3 := ho.small
  obtain ⟨k1, hk1, hk1n, hk1b, _⟩ := min_nat n 30 (by omega)
  obtain ⟨k2, hk2, hk2n, hk2b, _⟩ := min_nat n' 20 (by omega)
  obtain ⟨k3, hk3, hk3n, hk3b, _⟩ := min_nat n'' 30 (by omega)
  have hkc1 : (k1 : Int) ≤ (c : Int) := by have := hl.hc; omega
  have hkc2 : (k2 : Int) ≤ (c' : Int) := by have := hm.hc; omega
  have hkc3 : (k3 : Int) ≤ (c'' : Int) := by have := ho.hc; omega
  have hk1' := hl.cut_to hk1n
  have hk2' := hm.cut_to hk2n
  have hk3' := ho.cut_to hk3n
  have HN := Lib.hid hk1'.hn
  have HN2 := Lib.hid hk2'.hn
  generalize l.take k1 = l at *
  generalize more.take k2 = more at *
  generalize op.take k3 = op at *
  clear hl hm ho
  have hi0 : (0 : Int) ≤ (k1 : Int) := by omega
  have hi1 : (0 : Int) ≤ (k2 : Int) := by omega
  have hi2 : (0 : Int) ≤ (k3 : Int) := by omega
  go_enter Try.func4, Try.ntmps4
  go_wp2_with fail
  go_quiet (fail)
  go_wp2_with fail
  obtain ⟨w0, hw0⟩ : ∃ w0, w0 = w.drewN nq := ⟨_, rfl⟩
  have hb0 : Below w.heap.size w w0 := by rw [hw0]; exact below_drewN (Below.refl _ _) nq
  have hz0 : w0.heap.size = w.heap.size := by rw [hw0]; rfl
  rw [← hw0]
  clear hw0
  have HZ0 := Lib.hid hz0
  have hl0 : Sl tItem w0 (lt w0.heap.size) A k1 c l := (hk1'.below hb0 (Nat.le_refl _)).up hb0.size
  have HP := Lib.hid (push_any A k1 c l mkr none 0 0 w0 hl0 Sl.nil (by decide) (by decide +kernel) (by omega))
  have HL0 := Lib.hid hl0
  have HM0 := Lib.hid ((hk2'.below hb0 (Nat.le_refl _)).up (B' := w0.heap.size) hb0.size)
  have HO0 := Lib.hid ((hk3'.below hb0 (Nat.le_refl _)).up (B' := w0.heap.size) hb0.size)
  have HB0 := Lib.hid hb0
  clear hl0 hk1' hk2' hk3' hb0 hz0 hkc1 hkc2 hkc3 hk1n hk2n hk3n hn1 hn2 hn3 hk1 hk2 hk3
  refine HP.out.mono ?_
  rintro e w1 ⟨A1, n1, c1, rfl, hb1, hp1, hp2⟩
  by_cases hce : checkE (l ++ [mkr]) = 0
  · have hs1 := hp1 hce
    rw [mkr_push] at hs1
    have hgood : Good l := fun y hy => check_good hce y (by simp [hy])
    have hlen1 : n1 = k1 + 1 := by have h1 := hs1.hn; have h2 := HN.out; simp at h1; omega
    subst hlen1
    have HAG := Lib.hid (again_any A1 (k1 + 1) c1 (l ++ [mkr]) A'' k3 c'' op w1 hs1 ((HO0.out.below hb1 (Nat.le_refl _)).up hb1.size) hce (by omega))
    have HS1 := Lib.hid hs1
    have HMI : Hid (missRev op (l ++ [mkr]).reverse = k1 + 1) := by show _ = _; rw [mkr_miss, HN.out]
    have HB1 := Lib.hid hb1
    have HG := Lib.hid hgood
    rw [hce]
    clear hp1 hp2 hs1 hgood hce hb1
    go_wp2_with fail
    refine HAG.out.mono ?_
    rintro e w2 ⟨v2, rfl, hb2, hown2⟩
    rw [HMI.out, Nat.sub_self] at hown2
    obtain ⟨A2, c2, rfl⟩ := Own.form hown2
    have HB2 := Lib.hid (HB1.out.trans (hb2.mono HB1.out.size))
    have HS2 := Lib.hid ((HS1.out.below hb2 (Nat.le_refl _)).up hb2.size)
    clear hown2 hb2
    go_wp2_with fail
    go_loopw [7, 11, 12, 13] (fun m i _ _ wr => ∃ (k : Nat) (Am : Option Addr) (nm cm : Nat) (t : List Item), k ≤ k2 ∧ i = .int .i64 (k : Int) ∧ m = .slice Am nm cm ∧ Below w0.heap.size w0 wr ∧ Sl tItem wr (lt wr.heap.size) Am nm cm (l ++ [mkr] ++ t) ∧ (∀ y ∈ t, ¬ y.node < 0) ∧ t.length ≤ k) (fun _ i _ _ _ => k2 - (intOf i).toNat)
    case atStart => exact ⟨0, A1, k1 + 1, c1, [], Nat.zero_le _, rfl, rfl, HB2.out, by rw [List.append_nil]; exact HS2.out, by simp, Nat.le_refl _⟩
    case round =>
      obtain ⟨k, Am, nm, cm, t, hk, rfl, rfl, hb, hs, ht, htl⟩ := hrel
      have hlen2 : nm = k1 + 1 + t.length := by have h1 := hs.hn; have h2 := HN.out; simp at h1; omega
      have HLE := Lib.hid hlen2
      clear hlen2
      by_cases hlt : k < k2
      · obtain ⟨x, hx⟩ : ∃ x, more[k]? = some x := get_some (by have := HN2.out; omega)
        obtain ⟨bq, oq, Ax, nx, cx, rfl, hD, x0, x1, x2, hxs, hxw, hxz⟩ := sl_item2 (HM0.out.below hb (Nat.le_refl _)) hx
        have hi : (k : Int) < (k2 : Int) := by omega
        by_cases hneg : x.node < 0
        · have HB := Lib.hid hb
          have HS := Lib.hid hs
          clear hb hs hx hxs
          go_wp2_with fail
          go_roundw
          case rel => exact ⟨k + 1, Am, nm, cm, t, by omega, by go_num, rfl, HB.out, HS.out, ht, by omega⟩
          case measure => simp [intOf]; omega
        · obtain ⟨t', ht1, ht2, ht3⟩ := mark_push (l := l) ht hneg
          have hce : checkE (l ++ [mkr] ++ t ++ [x]) = 0 := good_check (by
            intro y hy
            simp only [List.mem_append, List.mem_singleton] at hy
            rcases hy with ((hy | rfl) | hy) | rfl
            · exact HG.out y hy
            · decide +kernel
            · exact good_node (ht y hy)
            · exact good_node hneg) (by have := HN.out; simp; omega)
          have HPX := Lib.hid (push_any Am nm cm (l ++ [mkr] ++ t) x Ax nx cx wr hs (hxs.up hb.size) hxw hxz (by have := HLE.out; omega))
          have HB := Lib.hid hb
          have HCE := Lib.hid hce
          clear hb hs hx hxs hce
          go_wp2_with fail
          refine HPX.out.mono ?_
          rintro e w3 ⟨A3, n3, c3, rfl, hb3, hp3, _⟩
          have HS3 := Lib.hid (hp3 HCE.out)
          have HB3 := Lib.hid (HB.out.trans (hb3.mono HB.out.size))
          rw [HCE.out]
          clear hp3 hb3 x0 x1 x2
          go_wp2_with fail
          go_roundw
          case rel => exact ⟨k + 1, A3, n3, c3, t', by omega, by go_num, rfl, HB3.out, by rw [← ht1]; exact HS3.out, fun y hy => by have := ht2 y hy; omega, by omega⟩
          case measure => simp [intOf]; omega
      · have hce : checkE (l ++ [mkr] ++ t) = 0 := good_check (by
          intro y hy
          simp only [List.mem_append, List.mem_singleton] at hy
          rcases hy with (hy | rfl) | hy
          · exact HG.out y hy
          · decide +kernel
          · exact good_node (ht y hy)) (by have := HN.out; simp; omega)
        have HC := Lib.hid (clear_any Am nm cm _ wr hs hce)
        have hlast : lastN (l ++ [mkr] ++ t) - 1 = k1 := by
          rw [mkr_last (fun y hy => by show (y.node == -1) = false; rw [beq_eq_false_iff_ne]; have := ht y hy; omega), HN.out]; rfl
        have HLA := Lib.hid hlast
        have HTK : Hid ((l ++ [mkr] ++ t).take k1 = l) := by show _ = _; rw [HN.out]; simp
        have HB := Lib.hid hb
        obtain ⟨wf, rfl⟩ : ∃ wf : World, wf = wr := ⟨_, rfl⟩
        clear hb hs hce hlast
        go_wp2_with fail
        refine HC.out.mono ?_
        rintro e w4 ⟨A4, c4, rfl, hb4, hs4⟩
        rw [HLA.out] at hs4 ⊢
        rw [HTK.out] at hs4
        have HS4 := Lib.hid hs4
        have HB4 := Lib.hid (HB.out.trans (hb4.mono HB.out.size))
        clear hs4 hb4
        go_wp2_with fail
        go_loopw [16] (fun i wr => ∃ (k : Nat), k ≤ k1 ∧ i = .int .i64 (k : Int) ∧ Below w4.heap.size w4 wr) (fun i _ => k1 - (intOf i).toNat)
        case atStart => exact ⟨0, Nat.zero_le _, rfl, Below.refl _ _⟩
        case round =>
          obtain ⟨k, hk, rfl, hb5⟩ := hrel
          by_cases hlt : k < k1
          · obtain ⟨x, hx⟩ : ∃ x, l[k]? = some x := get_some (by have := HN.out; omega)
            obtain ⟨b1, o1, A5, n5, c5, rfl, hD5, x0, x1, x2, hxs⟩ := sl_item (HS4.out.below hb5 (Nat.le_refl _)) hx
            obtain ⟨b2, o2, A6, n6, c6, rfl, hD6, y0, y1, y2, hys⟩ := sl_item ((HL0.out.below HB4.out (Nat.le_refl _)).below hb5 HB4.out.size) hx
            have hn56 : n5 = n6 := by rw [hxs.hn, hys.hn]
            subst hn56
            have HB5 := Lib.hid hb5
            have hi : (k : Int) < (k1 : Int) := by omega
            have hi0 : (0 : Int) ≤ (k : Int) := by omega
            clear hxs hys hx hb5
            go_wp2_with fail
            go_quiet (fail)
            go_wp2_with fail
            go_roundw
            case rel => exact ⟨k + 1, by omega, by go_num, below_drewN HB5.out _⟩
            case measure => simp [intOf]; omega
          · have HB5 := Lib.hid hb5
            clear hb5
            go_wp2_with fail
            refine (activeBegun_any _).mono ?_
            rintro e w9 ⟨rfl, hb9⟩
            have hz9 := HB0.out.size
            have HB9 := Lib.hid (HB0.out.trans ((HB4.out.trans ((HB5.out.mono HB4.out.size).trans (hb9.mono (Nat.le_trans HB4.out.size HB5.out.size)))).mono hz9))
            clear hb9
            go_wp2_with fail
            go_ret
            exact ⟨rfl, HB9.out⟩
  · have hn0 := hp2 hce
    subst hn0
    have hcb : (checkE (l ++ [mkr]) != 0) = true := by simpa using hce
    have HB1 := Lib.hid hb1
    clear hp1 hp2 hce hb1
    go_wp2_with fail
    refine (activeBegun_any _).mono ?_
    rintro e w9 ⟨rfl, hb9⟩
    have HB9 := Lib.hid (HB0.out.trans ((HB1.out.trans (hb9.mono HB1.out.size)).mono HB0.out.size))
    clear hb9
    go_wp2_with fail
    go_ret
    exact ⟨rfl, HB9.out⟩

end Go.Proofs.Ytabilpahmmkjkaa
