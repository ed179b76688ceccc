/-
Forms: the walks of control and Owner.
-/
import Derived.Test.YtpbngckplbnahaaGreatDoorFormEnt
namespace Go.Proofs.YtpbngckplbnahaaGreatDoor
open Go.RowKit Go.Cl
attribute [local go_sem ↓] Go.wp_at_zero Go.wp_at_succ
theorem hasIn_any (A : Option Addr) (n c : Nat) (l : List Int) (x : Int) (w : World) (D : Nat → Prop) (hl : Sl (tInt .i64) w D A n c l) :
    Calls Tryz.prog 58 #[.slice A n c, .int .i64 x] w fun e w' => e = .returned (.bool (l.contains x)) ∧ w' = w := by
  rcases Nat.eq_zero_or_pos n with h0 | h0
  · subst h0
    obtain rfl : l = [] := List.eq_nil_of_length_eq_zero hl.hn.symm
    exact (Tryz.slices_Contains_int_empty A c x w).mono fun e w' h => ⟨by rw [h.1]; rfl, h.2⟩
  · obtain ⟨b, o, cells, rfl, hb, hr, hc⟩ := hl.at_ h0
    have hn := hl.hn
    refine (Tryz.slices_Contains_int b o n c l x w (by omega) (by have := hl.small; omega) (fun j hj => ?_)).mono fun e w' h => ⟨by rw [h.1, hn, List.take_length], h.2⟩
    obtain ⟨b', o', e, _, hcell, _⟩ := hl.int (List.getElem?_eq_getElem hj)
    simp only [Option.some.injEq, Addr.mk.injEq] at e
    obtain ⟨rfl, rfl, _⟩ := e
    rw [hcell, List.getD_eq_getElem?_getD, List.getElem?_eq_getElem hj]; rfl
/-- What control hands back. -/
def CtrlPost (w : World) (A : Option Addr) (n c : Nat) (q : Bool) (l : List Nd) (nn : Int) (names : ByteArray) (e : Ending) (w' : World) : Prop :=
  Below w.heap.size w w' ∧ ∃ F, e = .returned (.tuple #[.pointer (some ⟨F, 0, none⟩), .int .i64 (ctrlE l nn names)]) ∧ w.heap.size ≤ F ∧ F < w'.heap.size ∧ (ctrlE l nn names = 0 → ∃ B O m k, Fm w' B F A n c q O m k l (preR l 0))
set_option maxRecDepth 100000 in
set_option maxHeartbeats 8000000 in
theorem control_f (A : Option Addr) (n c : Nat) (l : List Nd) (q : Bool) (nn : Int) (names : ByteArray) (w : World) (B : Nat) (hl : Sl tNd w (lt B) A n c l) (hB : B ≤ w.heap.size) (hE : Env w) (hns : names.size ≤ 1000) (hnn : (Lit.int .i64 nn).wf = true) :
    Calls Tryz.prog 25 #[.agg #[.slice A n c, .bool q], .int .i64 nn, .string names] w (CtrlPost w A n c q l nn names) := by
  obtain ⟨w0, hw0⟩ : ∃ w0, w0 = w.alloc (.cells #[.slice A n c, .bool q] 29) := ⟨_, rfl⟩
  have hbx : w0.heap[w.heap.size]? = some (.cells #[.slice A n c, .bool q] 29 (0, 0)) := by rw [hw0]; exact heap_alloc_new w _
  have hb0 : Below w.heap.size w w0 := by rw [hw0]; exact balloc (Below.refl _ _) _
  have b0 : w0.cell? ⟨w.heap.size, 0, none⟩ = some (.slice A n c) := cell_blk hbx rfl
  have b1 : w0.cell? ⟨w.heap.size, 1, none⟩ = some (.bool q) := cell_blk hbx rfl
  have HB0 := Lib.hid hb0
  have HL := Lib.hid hl
  have HBW : Hid (B ≤ w.heap.size) := hB
  have HOR := Lib.hid (order_any A n c l q w0 B (hl.below hb0 hB) (Nat.le_trans hB hb0.size))
  have HX := Lib.hid (fun W (hW : Below w0.heap.size w0 W) => And.intro (cell_be b0 hW) (cell_be b1 hW))
  have HEN := Lib.hid hE
  have hnc := hl.hc
  have hn := hl.hn
  have HN := Lib.hid hn
  have HNS := Lib.hid hns
  have HSM := Lib.hid hl.small
  clear hl hB hE hb0 hbx hn hns
  go_enter Tryz.func25, Tryz.ntmps25
  go_upto_region 1 with fail
  rw [← hw0]
  clear hw0
  by_cases hck : checkD l = 0
  · have HG := Lib.hid (good_of hck)
    have HT := Lib.hid (tree_of hck)
    have hfew := HT.out.all_few
    have HC0 := Lib.hid (show ctrlE l nn names = if nn < 0 ∨ (l.length : Int) ≤ nn then 1 else if (atD l nn).kind ≠ 2 ∨ oneB (atD l nn).name names = false then 7 else if nn ∈ preR l 0 then 0 else 5 from by unfold ctrlE; rw [hck, if_neg (by simp)])
    have HCK := Lib.hid hck
    clear hck
    go_upto_region 3 with (go_at_call 57; refine HOR.out.mono ?_; rintro e w1 ⟨hb1, hp⟩; rcases hp with ⟨h, _⟩ | ⟨_, v1, rfl, hown1⟩; exact absurd HCK.out h; obtain ⟨O1, k1, e1, hs1⟩ := OwnF.sl hown1 (by decide) (by show (preR l 0).length * 8 ≤ _; omega); subst e1; have HB1 := Lib.hid hb1; have HS1 := Lib.hid hs1; obtain ⟨c0, c1⟩ := HX.out w1 hb1; clear hb1 hown1 hs1)
    have HBW1 := Lib.hid (bst HB0.out HB1.out)
    have HL1 := Lib.hid (HL.out.below (bst HB0.out HB1.out) HBW.out)
    have HE1 := Lib.hid (HEN.out.below (bst HB0.out HB1.out))
    have hpl : (preR l 0).length ≤ 200 := hfew
    clear hfew HOR HX HL
    by_cases h1 : nn < 0
    · have HC := Lib.hid (HC0.out.trans (if_pos (.inl h1)))
      have t1 : decide (nn < 0) = true := decide_eq_true h1
      generalize preR l 0 = ord at *
      go_wp2_with fail
      go_ret2
      exact ⟨balloc HBW1.out _, _, by rw [HC.out]; rfl, HBW1.out.size, by simp, fun h => by rw [HC.out] at h; exact absurd h (by decide)⟩
    · have t1 : decide (nn < 0) = false := decide_eq_false h1
      by_cases h2 : (n : Int) ≤ nn
      · have HC := Lib.hid (HC0.out.trans (if_pos (.inr (by rw [← HN.out]; exact h2))))
        have t2 : decide ((n : Int) ≤ nn) = true := decide_eq_true h2
        generalize preR l 0 = ord at *
        go_wp2_with fail
        go_ret2
        exact ⟨balloc HBW1.out _, _, by rw [HC.out]; rfl, HBW1.out.size, by simp, fun h => by rw [HC.out] at h; exact absurd h (by decide)⟩
      · have HC1 := Lib.hid (HC0.out.trans (if_neg (by rw [← HN.out]; omega)))
        have t2 : decide ((n : Int) ≤ nn) = false := decide_eq_false h2
        obtain ⟨i, rfl⟩ : ∃ i : Nat, nn = (i : Int) := ⟨nn.toNat, by omega⟩
        have hi : i < l.length := by rw [← HN.out]; omega
        obtain ⟨x, hx⟩ := get_some hi
        obtain ⟨b, o, eA, hD⟩ := doc_at HL1.out (by rw [HN.out]; omega)
        subst eA
        obtain ⟨Aa, na, ca, Ak, nk, ck, hnd, p0, p1, p2, p3, p4, p5⟩ := hD.at_ i x hx
        have hat : atD l i = x := atD_at hx
        rw [hat] at HC1
        have hes := (nodeE_iff x).1 (HG.out.each x (List.mem_of_getElem? hx))
        obtain ⟨mm, hmm⟩ := HE1.out.mx
        have HON := Lib.hid (one_any x.name names mm w1 (by omega) (by have := HNS.out; omega) hmm)
        have i1 : (0 : Int) ≤ (i : Int) := by omega
        have i2 : (i : Int) < (n : Int) := by omega
        clear HC0 hx hD hat hes hmm hnd p2 p3 p4 p5 h1 h2
        have HHI := Lib.hid (hasIn_any _ _ _ _ (i : Int) w1 _ HS1.out)
        cases hk : (x.kind == 2) with
        | false =>
          have HC := Lib.hid (HC1.out.trans (if_pos (.inl (by simpa using hk))))
          have k3 : (x.kind != 2) = true := by rw [bne, hk]; rfl
          generalize preR l 0 = ord at *
          go_wp2_with fail
          go_ret2
          exact ⟨balloc HBW1.out _, _, by rw [HC.out]; rfl, HBW1.out.size, by simp, fun h => by rw [HC.out] at h; exact absurd h (by decide)⟩
        | true =>
          have k3 : (x.kind != 2) = false := by rw [bne, hk]; rfl
          have HK := Lib.hid (show x.kind = 2 from by simpa using hk)
          cases ho : oneB x.name names with
          | false =>
            have HC := Lib.hid (HC1.out.trans (if_pos (.inr ho)))
            rw [ho] at HON
            clear ho
            generalize preR l 0 = ord at *
            go_wp2_with (go_at_call 27; refine HON.out.mono ?_; rintro e w2 ⟨rfl, rfl⟩)
            go_ret2
            exact ⟨balloc HBW1.out _, _, by rw [HC.out]; rfl, HBW1.out.size, by simp, fun h => by rw [HC.out] at h; exact absurd h (by decide)⟩
          | true =>
            have HC2 := Lib.hid (HC1.out.trans (if_neg fun h => h.elim (fun h => h HK.out) fun h => by rw [ho] at h; cases h))
            rw [ho] at HON
            clear ho HC1
            by_cases hm : (i : Int) ∈ preR l 0
            · have HC := Lib.hid (HC2.out.trans (if_pos hm))
              have hct : (preR l 0).contains (i : Int) = true := by simpa using hm
              rw [hct] at HHI
              clear hm hct
              go_wp2_with (first | (go_at_call 27; refine HON.out.mono ?_; rintro e w2 ⟨rfl, rfl⟩) | (go_at_call 58; refine HHI.out.mono ?_; rintro e w3 ⟨rfl, rfl⟩))
              go_ret2
              refine ⟨balloc HBW1.out _, _, by rw [HC.out]; rfl, HBW1.out.size, by simp, fun _ => ⟨w3.heap.size, _, _, _, heap_alloc_new _ _, ?_, ?_, by simp, HE1.out.below (balloc (Below.refl _ _) _)⟩⟩
              · exact (HL1.out.up (Nat.le_trans HBW.out HBW1.out.size)).al (Nat.le_refl _) _
              · exact HS1.out.al (Nat.le_refl _) _
            · have HC := Lib.hid (HC2.out.trans (if_neg hm))
              have hct : (preR l 0).contains (i : Int) = false := by simpa using hm
              rw [hct] at HHI
              clear hm hct
              generalize preR l 0 = ord at *
              go_wp2_with (first | (go_at_call 27; refine HON.out.mono ?_; rintro e w2 ⟨rfl, rfl⟩) | (go_at_call 58; refine HHI.out.mono ?_; rintro e w3 ⟨rfl, rfl⟩))
              go_ret2
              exact ⟨balloc HBW1.out _, _, by rw [HC.out]; rfl, HBW1.out.size, by simp, fun h => by rw [HC.out] at h; exact absurd h (by decide)⟩
  · have HC := Lib.hid (show ctrlE l nn names = checkD l from if_pos hck)
    have HCK := Lib.hid hck
    have k1 : (checkD l != 0) = true := by simpa using hck
    have k2 : (checkD l == 0) = false := by simpa using hck
    clear hck
    go_upto_region 9 with (go_at_call 57; refine HOR.out.mono ?_; rintro e w1 ⟨hb1, hp⟩; rcases hp with ⟨_, rfl⟩ | ⟨h, _⟩; rotate_left; exact absurd h HCK.out; have HB1 := Lib.hid hb1; obtain ⟨c0, c1⟩ := HX.out w1 hb1; clear hb1)
    have HCN := Lib.hid (show checkD l ≠ 0 from HCK.out)
    generalize checkD l = ck at *
    go_wp2_with fail
    go_ret2
    exact ⟨balloc (bst HB0.out HB1.out) _, _, by rw [HC.out]; rfl, (bst HB0.out HB1.out).size, by simp, fun h => by rw [HC.out] at h; exact absurd h HCN.out⟩
theorem ctrl_zero {l : List Nd} {n : Int} {names : ByteArray} (h : ctrlE l n names = 0) : checkD l = 0 ∧ ∃ i : Nat, n = (i : Int) ∧ i < l.length := by
  unfold ctrlE at h
  by_cases h1 : checkD l = 0
  · rw [if_neg (by simp [h1])] at h
    by_cases h2 : n < 0 ∨ (l.length : Int) ≤ n
    · rw [if_pos h2] at h; cases h
    · exact ⟨h1, n.toNat, by omega, by omega⟩
  · rw [if_pos h1] at h; exact absurd h h1
end Go.Proofs.YtpbngckplbnahaaGreatDoor
