/-
The walks of package dom: find, attrs.
-/
import Derived.Test.YtmemadajjmmlpaaDoorDomName
namespace Go.Proofs.YtmemadajjmmlpaaDoor
open Go.RowKit Go.Cl
attribute [local go_sem ↓] Go.wp_at_zero Go.wp_at_succ

theorem findLam_any (a b nm : ByteArray) (g : Nat) (w : World) (hc : w.cell? ⟨g, 0, none⟩ = some (.string nm)) :
    Calls Tryd.prog 70 #[.agg #[.string a, .string b], .pointer (some ⟨g, 0, none⟩)] w fun e w' => e = .returned (.bool (a.toList == nm.toList)) ∧ Below w.heap.size w w' := by
  have hc2 : ∀ o, (w.alloc o).cell? ⟨g, 0, none⟩ = some (.string nm) := fun o => cell_al hc o
  go_enter Tryd.func70, Tryd.ntmps70
  go_wp2_with fail
  go_ret
  exact ⟨rfl, (Below.refl _ _).alloc (Nat.le_refl _) _⟩

theorem findA_skip {l : List DAttr} {nm : ByteArray} {k : Nat} {x : DAttr} (h : ∀ j y, j < k → l[j]? = some y → (y.1.toList == nm.toList) = false) (hx : l[k]? = some x) (hp : (x.1.toList == nm.toList) = false) : ∀ j y, j < k + 1 → l[j]? = some y → (y.1.toList == nm.toList) = false := by
  intro j y hj hy
  by_cases e : j = k
  · subst e
    rw [hx] at hy
    obtain rfl := Option.some.inj hy
    exact hp
  · exact h j y (by omega) hy
theorem findA_hit {l : List DAttr} {nm : ByteArray} {k : Nat} {x : DAttr} (h : ∀ j y, j < k → l[j]? = some y → (y.1.toList == nm.toList) = false) (hx : l[k]? = some x) (hp : (x.1.toList == nm.toList) = true) : findA l nm = (k : Int) := by
  have hf : l.findIdx? (fun a => a.1.toList == nm.toList) = some k := by
    rw [List.findIdx?_eq_some_iff_getElem]
    have hk := (List.getElem?_eq_some_iff.1 hx).1
    refine ⟨hk, by rw [(List.getElem?_eq_some_iff.1 hx).2]; exact hp, fun j hj => ?_⟩
    have := h j l[j] hj (List.getElem?_eq_getElem (by omega))
    simp [this]
  unfold findA
  rw [hf]
theorem findA_none {l : List DAttr} {nm : ByteArray} {k : Nat} (h : ∀ j y, j < k → l[j]? = some y → (y.1.toList == nm.toList) = false) (hk : l.length ≤ k) : findA l nm = -1 := by
  have hf : l.findIdx? (fun a => a.1.toList == nm.toList) = none := by
    rw [List.findIdx?_eq_none_iff]
    intro x hx
    obtain ⟨j, hj⟩ := List.mem_iff_getElem?.1 hx
    exact h j x (by have := (List.getElem?_eq_some_iff.1 hj).1; omega) hj
  unfold findA
  rw [hf]
theorem da_cells {w : World} {D : Nat → Prop} {A : Option Addr} {n c : Nat} {l : List DAttr} (h : Sl tDA w D A n c l) {i : Nat} {x : DAttr} (hx : l[i]? = some x) :
    ∃ b o, A = some ⟨b, o, none⟩ ∧ D b ∧ w.cell? ⟨b, o + i * 2, none⟩ = some (.string x.1) ∧ w.cell? ⟨b, o + i * 2 + 1, none⟩ = some (.string x.2) ∧ x.1.size ≤ 1152921504606846976 ∧ x.2.size ≤ 1152921504606846976 := by
  obtain ⟨b, o, cs, e, hD, ⟨c1, c2, rfl, ⟨rfl, h1⟩, rfl, h2⟩, hc⟩ := h.get hx
  exact ⟨b, o, e, hD, hc 0 _ rfl, hc 1 _ rfl, h1, h2⟩

set_option maxRecDepth 100000 in
theorem idxA_any (A : Option Addr) (n c : Nat) (l : List DAttr) (nm : ByteArray) (g : Nat) (w : World) (B : Nat) (hl : Sl tDA w (lt B) A n c l) (hB : B ≤ w.heap.size) (hc : w.cell? ⟨g, 0, none⟩ = some (.string nm)) :
    Calls Tryd.prog 69 #[.slice A n c, .func (.func 70) #[] #[.pointer (some ⟨g, 0, none⟩)]] w fun e w' => e = .returned (.int .i64 (findA l nm)) ∧ Below w.heap.size w w' := by
  have hn1 := hl.small
  have HL := Lib.hid hl.hn
  go_enter Tryd.func69, Tryd.ntmps69
  go_wp2_with fail
  go_loopw [8] (fun i wr => ∃ k : Nat, k ≤ n ∧ i = .int .i64 (k : Int) ∧ Below w.heap.size w wr ∧ Hid (∀ j y, j < k → l[j]? = some y → (y.1.toList == nm.toList) = false)) (fun i _ => n - (intOf i).toNat)
  case atStart => exact ⟨0, Nat.zero_le _, rfl, Below.refl _ _, Lib.hid (fun j y hj => by omega)⟩
  case round =>
    obtain ⟨k, hk, rfl, hb, HA⟩ := hrel
    by_cases hlt : k < n
    · obtain ⟨x, hx⟩ : ∃ x, l[k]? = some x := get_some (by have := HL.out; omega)
      obtain ⟨b, o, rfl, hD, c1, c2, z1, z2⟩ := da_cells (hl.below hb hB) hx
      have HX := Lib.hid hx
      have HCALL := Lib.hid (findLam_any x.1 x.2 nm g wr (cell_be hc hb))
      clear hx
      cases hpx : (x.1.toList == nm.toList) with
      | true =>
        have HR := Lib.hid (findA_hit HA.out HX.out hpx)
        rw [hpx] at HCALL
        clear hpx
        go_wp2_with fail
        refine HCALL.out.mono ?_
        rintro e w1 ⟨rfl, hb1⟩
        go_wp2_with fail
        go_ret
        exact ⟨retI HR.out.symm, hb.trans (hb1.mono hb.size)⟩
      | false =>
        have HA2 := Lib.hid (findA_skip HA.out HX.out hpx)
        rw [hpx] at HCALL
        clear hpx
        go_wp2_with fail
        refine HCALL.out.mono ?_
        rintro e w1 ⟨rfl, hb1⟩
        go_wp2_with fail
        go_roundw
        case rel => exact ⟨k + 1, by omega, by go_num, hb.trans (hb1.mono hb.size), HA2⟩
        case measure => simp [intOf]; omega
    · have HR := Lib.hid (findA_none (k := k) HA.out (by have := HL.out; omega))
      go_wp2_with fail
      go_ret
      exact ⟨retI HR.out.symm, hb⟩
theorem find_dom (A : Option Addr) (n c : Nat) (l : List DAttr) (nm : ByteArray) (w : World) (B : Nat) (hl : Sl tDA w (lt B) A n c l) (hB : B ≤ w.heap.size) :
    Calls Tryd.prog 45 #[.slice A n c, .string nm] w fun e w' => e = .returned (.int .i64 (findA l nm)) ∧ Below w.heap.size w w' := by
  have HI := Lib.hid (idxA_any A n c l nm w.heap.size (w.alloc (.cells #[.string nm] 9)) B (hl.al hB _) (by rw [World.size_alloc]; omega) (cell_blk (heap_alloc_new w _) rfl))
  go_enter Tryd.func45, Tryd.ntmps45
  go_wp2_with fail
  refine HI.out.mono ?_
  rintro e w1 ⟨rfl, hb1⟩
  go_wp2_with fail
  go_ret
  exact ⟨rfl, ((Below.refl _ _).alloc (Nat.le_refl _) _).trans (hb1.mono (by rw [World.size_alloc]; omega))⟩

theorem attrsF_step {l : List DAttr} {k : Nat} {x : DAttr} (hx : l[k]? = some x) (h1 : namedR x.1 attrB = true) (h2 : x.2.size ≤ 400) (h3 : findA (l.take k) x.1 < 0) : attrsF (l.take k) (l.drop k) = attrsF (l.take (k + 1)) (l.drop (k + 1)) := by
  rw [List.drop_eq_getElem_cons (List.getElem?_eq_some_iff.1 hx).1, (List.getElem?_eq_some_iff.1 hx).2, attrsF, if_neg (by rw [h1]; decide), if_neg (by omega), if_neg (by omega), take_snoc hx]
theorem attrsF_one {l : List DAttr} {k : Nat} {x : DAttr} (hx : l[k]? = some x) (h1 : namedR x.1 attrB = false) : attrsF (l.take k) (l.drop k) = 3 := by
  rw [List.drop_eq_getElem_cons (List.getElem?_eq_some_iff.1 hx).1, (List.getElem?_eq_some_iff.1 hx).2, attrsF, if_pos h1]
theorem attrsF_two {l : List DAttr} {k : Nat} {x : DAttr} (hx : l[k]? = some x) (h1 : namedR x.1 attrB = true) (h2 : 400 < x.2.size) : attrsF (l.take k) (l.drop k) = 2 := by
  rw [List.drop_eq_getElem_cons (List.getElem?_eq_some_iff.1 hx).1, (List.getElem?_eq_some_iff.1 hx).2, attrsF, if_neg (by rw [h1]; decide), if_pos h2]
theorem attrsF_three {l : List DAttr} {k : Nat} {x : DAttr} (hx : l[k]? = some x) (h1 : namedR x.1 attrB = true) (h2 : x.2.size ≤ 400) (h3 : 0 ≤ findA (l.take k) x.1) : attrsF (l.take k) (l.drop k) = 3 := by
  rw [List.drop_eq_getElem_cons (List.getElem?_eq_some_iff.1 hx).1, (List.getElem?_eq_some_iff.1 hx).2, attrsF, if_neg (by rw [h1]; decide), if_neg (by omega), if_pos h3]

set_option maxRecDepth 100000 in
set_option maxHeartbeats 1000000 in
theorem attrs_any (A : Option Addr) (n c : Nat) (l : List DAttr) (w : World) (B : Nat) (hl : Sl tDA w (lt B) A n c l) (hB : B ≤ w.heap.size) :
    Calls Tryd.prog 79 #[.slice A n c] w fun e w' => e = .returned (.int .i64 (attrsE l)) ∧ Below w.heap.size w w' := by
  have hn1 := hl.small
  have HL := Lib.hid hl.hn
  by_cases h12 : 12 < n
  · have HR := Lib.hid (show attrsE l = 2 from by unfold attrsE; rw [if_pos (by have := HL.out; omega)])
    go_enter Tryd.func79, Tryd.ntmps79
    go_wp2_with fail
    go_ret
    exact ⟨retI HR.out.symm, Below.refl _ _⟩
  · have HR := Lib.hid (show attrsE l = attrsF (l.take 0) (l.drop 0) from by unfold attrsE; rw [if_neg (by have := HL.out; omega)]; rfl)
    go_enter Tryd.func79, Tryd.ntmps79
    go_wp2_with fail
    go_loopw [10] (fun i wr => ∃ k : Nat, k ≤ n ∧ i = .int .i64 (k : Int) ∧ Below w.heap.size w wr ∧ Hid (attrsE l = attrsF (l.take k) (l.drop k))) (fun i _ => n - (intOf i).toNat)
    case atStart => exact ⟨0, Nat.zero_le _, rfl, Below.refl _ _, HR⟩
    case round =>
      obtain ⟨k, hk, rfl, hb, HE⟩ := hrel
      have hz := hb.size
      by_cases hlt : k < n
      · obtain ⟨x, hx⟩ : ∃ x, l[k]? = some x := get_some (by have := HL.out; omega)
        have hkr := hl.below hb hB
        have hcap : n ≤ c := hl.hc
        obtain ⟨b, o, rfl, hD, c1, c2, z1, z2⟩ := da_cells hkr hx
        have HX := Lib.hid hx
        have HN := Lib.hid (fun W => attrName_any x.1 W z1)
        clear hx
        go_upto_region 6 with fail
        obtain ⟨w1, hw1⟩ : ∃ w1, w1 = wr.alloc (.cells #[.string x.1, .string x.2] 91) := ⟨_, rfl⟩
        have e1 : w1.heap[wr.heap.size]? = some (.cells #[.string x.1, .string x.2] 91 (0, 0)) := by rw [hw1]; exact heap_alloc_new wr _
        have hz1 : w1.heap.size = wr.heap.size + 1 := by rw [hw1]; exact World.size_alloc wr _
        have hb1 : Below w.heap.size w w1 := by rw [hw1]; exact hb.alloc hz _
        rw [← hw1]
        have k1 : w1.cell? ⟨wr.heap.size, 0, none⟩ = some (.string x.1) := cell_blk e1 rfl
        have HB1 := Lib.hid hb1
        clear hw1 hb1 c1 c2
        cases hnm : namedR x.1 attrB with
        | false =>
          have HR3 := Lib.hid (HE.out.trans (attrsF_one HX.out hnm))
          rw [hnm] at HN
          clear hnm
          go_wp2_with fail
          refine (HN.out _).mono ?_
          rintro e w2 ⟨rfl, hb2⟩
          go_wp2_with fail
          go_ret
          exact ⟨retI HR3.out.symm, HB1.out.trans (hb2.mono HB1.out.size)⟩
        | true =>
          rw [hnm] at HN
          have HNM := Lib.hid hnm
          clear hnm
          go_upto_region 8 with (refine (HN.out _).mono ?_; rintro e w2 ⟨rfl, hb2⟩)
          have HB2 := Lib.hid (HB1.out.trans (hb2.mono HB1.out.size))
          have e2 : w2.heap[wr.heap.size]? = some (.cells #[.string x.1, .string x.2] 91 (0, 0)) := (hb2.block _ (by omega)).trans e1
          have k2 : w2.cell? ⟨wr.heap.size, 0, none⟩ = some (.string x.1) := cell_blk e2 rfl
          have v2 : w2.cell? ⟨wr.heap.size, 1, none⟩ = some (.string x.2) := cell_blk e2 rfl
          have hz2 := hb2.size
          clear e1 k1 hb2
          by_cases h400 : 400 < x.2.size
          · have HR2 := Lib.hid (HE.out.trans (attrsF_two HX.out HNM.out h400))
            go_wp2_with fail
            go_ret
            exact ⟨retI HR2.out.symm, HB2.out⟩
          · have hcut := (hl.below HB2.out hB).cut_to (k := k) (by omega)
            have i1 : (0 : Int) ≤ (k : Int) := by omega
            have i2 : (k : Int) ≤ (c : Int) := by omega
            have i3 : (k : Int) ≤ (n : Int) := by omega
            have HF := Lib.hid (find_dom (some ⟨b, o, none⟩) k c (l.take k) x.1 w2.drew B (hcut.drew) (by show B ≤ w2.heap.size; omega))
            generalize hf : findA (l.take k) x.1 = f at *
            clear hcut
            go_wp2_with fail
            go_region_held3 (fun w' => w'.cell? ⟨wr.heap.size, 0, none⟩ = some (.string x.1)) (first | go_keep | assumption)
              ((go_at_call 45; refine HF.out.mono ?_; rintro e w3 ⟨rfl, hb3⟩; have k3 : w3.cell? ⟨wr.heap.size, 0, none⟩ = some (.string x.1) := (hb3.cell (p := ⟨wr.heap.size, 0, none⟩) (by show wr.heap.size < w2.heap.size; omega)).trans k2))
            all_goals
              have HB3 := Lib.hid (HB2.out.trans ((((Below.refl w.heap.size w2).drew)).trans (hb3.mono (by show _ ≤ w2.heap.size; omega))))
              clear hb3 k3 k2 v2
            by_cases hf0 : 0 ≤ f
            · have HR3 := Lib.hid (HE.out.trans (attrsF_three HX.out HNM.out (by omega) (by rw [hf]; exact hf0)))
              clear hf
              go_wp2_with fail
              go_ret
              exact ⟨retI HR3.out.symm, HB3.out⟩
            · have HE2 := Lib.hid (HE.out.trans (attrsF_step HX.out HNM.out (by omega) (by rw [hf]; omega)))
              clear hf
              go_wp2_with fail
              go_roundw
              case rel => exact ⟨k + 1, by omega, by go_num, HB3.out, HE2⟩
              case measure => simp [intOf]; omega
      · have HR0 := Lib.hid (show attrsE l = 0 from by rw [HE.out, List.drop_of_length_le (by have := HL.out; omega), attrsF])
        go_wp2_with fail
        go_ret
        exact ⟨retI HR0.out.symm, hb⟩
end Go.Proofs.YtmemadajjmmlpaaDoor
