/-
Forms: the walk of told.
-/
import Derived.Test.YtpbngckplbnahaaGreatDoorFormVal
namespace Go.Proofs.YtpbngckplbnahaaGreatDoor
open Go.RowKit Go.Cl
attribute [local go_sem ↓] Go.wp_at_zero Go.wp_at_succ
theorem estr_yes {s : ByteArray} (h : s.size = 0) : s.toList.isEmpty = true := by
  rw [ByteArray.toList_eq]
  have : s.data.toList.length = 0 := by simpa using h
  rw [List.eq_nil_of_length_eq_zero this]; rfl
theorem estr_no {s : ByteArray} (h : 0 < s.size) : s.toList.isEmpty = false := by
  rw [ByteArray.toList_eq]
  cases hl : s.data.toList with
  | nil => have : s.data.toList.length = s.size := by simp
           rw [hl] at this; simp at this; omega
  | cons => rfl
section
variable {w : World} {B F : Nat} {A : Option Addr} {n c : Nat} {q : Bool} {O : Option Addr} {m k : Nat} {l : List Nd} {ord : List Int}
set_option maxRecDepth 100000 in
set_option maxHeartbeats 4000000 in
theorem told1_f (h : Fm w B F A n c q O m k l ord) {i X : Nat} (hi : i < l.length) (hX : w.heap[X]? = some (.cells #[.pointer (some ⟨F, 0, none⟩)] 68 (0, 0))) :
    Calls Tryz.prog 64 #[.int .i64 (i : Int), .pointer (some ⟨X, 0, none⟩)] w fun e w' => e = .returned (.bool (offF l i)) ∧ Below w.heap.size w w' := by
  have x0 := cell_blk (i := 0) hX rfl
  have HX := Lib.hid (fun W (hW : Below w.heap.size w W) => cell_be x0 hW)
  have HNF := Lib.hid (named_f F (⟨#[102, 105, 101, 108, 100, 115, 101, 116]⟩ : ByteArray) w)
  have HN1 := Lib.hid (fun W (hW : Below w.heap.size w W) (Y : Nat) (hY : NmB W F Y (⟨#[102, 105, 101, 108, 100, 115, 101, 116]⟩ : ByteArray)) => named1_f (h.below hW) hi (⟨#[102, 105, 101, 108, 100, 115, 101, 116]⟩ : ByteArray) hY)
  have HHS := Lib.hid (fun W (hW : Below w.heap.size w W) => has_f (h.below hW) hi (⟨#[100, 105, 115, 97, 98, 108, 101, 100]⟩ : ByteArray))
  clear h hi hX
  cases hn : namedF l (⟨#[102, 105, 101, 108, 100, 115, 101, 116]⟩ : ByteArray) i with
  | false =>
    have HR := Lib.hid (show offF l i = false from by unfold offF; rw [hn]; rfl)
    rw [hn] at HN1
    clear hn
    go_enter Tryz.func64, Tryz.ntmps64
    go_wp2_with (first | (go_at_call 63; refine HNF.out.mono ?_; rintro e w1 ⟨rfl, hx1, hb1⟩; have HB1 := Lib.hid hb1; have HC1 := Lib.hid (HN1.out w1 hb1 _ hx1); clear hx1 hb1 HNF) | (go_at_call 111; refine HC1.out.mono ?_; rintro e w2 ⟨rfl, hb2⟩))
    go_ret
    exact ⟨by rw [HR.out]; rfl, bst HB1.out hb2⟩
  | true =>
    have HR := Lib.hid (show offF l i = hasF l i (⟨#[100, 105, 115, 97, 98, 108, 101, 100]⟩ : ByteArray) from by unfold offF; rw [hn]; rfl)
    rw [hn] at HN1
    clear hn
    go_enter Tryz.func64, Tryz.ntmps64
    go_wp2_with (first | (go_at_call 63; refine HNF.out.mono ?_; rintro e w1 ⟨rfl, hx1, hb1⟩; have HB1 := Lib.hid hb1; have HC1 := Lib.hid (HN1.out w1 hb1 _ hx1); clear hx1 hb1 HNF) | (go_at_call 111; refine HC1.out.mono ?_; rintro e w2 ⟨rfl, hb2⟩; have HB2 := Lib.hid (bst HB1.out hb2); have HH2 := Lib.hid (HHS.out w2 (bst HB1.out hb2)); have x2 := HX.out w2 (bst HB1.out hb2); clear hb2) | (go_at_call 61; refine HH2.out.mono ?_; rintro e w3 ⟨rfl, hb3⟩))
    go_ret
    exact ⟨by rw [HR.out]; rfl, bst HB2.out hb3⟩
theorem told_enters : ∀ args w, (callFunc 64 args).run Tryz.prog w = .ok (.enter 64 args) w := enters_of Tryz.func64 (by kernel_rfl) rfl
set_option maxRecDepth 100000 in
set_option maxHeartbeats 8000000 in
theorem told_f (T : Tree l) (G : Good l) (h : Fm w B F A n c q O m k l ord) {i : Nat} (hi : i < l.length) :
    Calls Tryz.prog 29 #[.pointer (some ⟨F, 0, none⟩), .int .i64 (i : Int)] w fun e w' => e = .returned (.bool (toldF l i)) ∧ Below w.heap.size w w' := by
  obtain ⟨wa, hwa⟩ : ∃ wa, wa = w.alloc (.cells #[.pointer (some ⟨F, 0, none⟩)] 68) := ⟨_, rfl⟩
  have hba : Below w.heap.size w wa := by rw [hwa]; exact balloc (Below.refl _ _) _
  have hX : wa.heap[w.heap.size]? = some (.cells #[.pointer (some ⟨F, 0, none⟩)] 68 (0, 0)) := by rw [hwa]; exact heap_alloc_new w _
  have HBA := Lib.hid hba
  have ha := h.below hba
  have HXC := Lib.hid (fun W (hW : Below wa.heap.size wa W) => cell_be (cell_blk (i := 0) hX rfl) hW)
  have HKD := Lib.hid (kind_f G ha hi)
  have HAT := Lib.hid (fun W (hW : Below wa.heap.size wa W) => attr_f (ha.below hW) hi (⟨#[110, 97, 109, 101]⟩ : ByteArray))
  have HHD := Lib.hid (fun W (hW : Below wa.heap.size wa W) => has_f (ha.below hW) hi (⟨#[100, 105, 115, 97, 98, 108, 101, 100]⟩ : ByteArray))
  have HHC := Lib.hid (fun W (hW : Below wa.heap.size wa W) => has_f (ha.below hW) hi (⟨#[99, 104, 101, 99, 107, 101, 100]⟩ : ByteArray))
  have HAB := Lib.hid (fun W (hW : Below wa.heap.size wa W) => above_f T (ha.below hW) hi 64 #[.pointer (some ⟨w.heap.size, 0, none⟩)] told_enters (offF l) (fun V j hj hV => told1_f ((ha.below hW).below hV) hj ((hV.block _ (by have := (Array.getElem?_eq_some_iff.1 hX).1; have := hW.size; omega)).trans ((hW.block _ (Array.getElem?_eq_some_iff.1 hX).1).trans hX))))
  have HON := Lib.hid (fun W (hW : Below wa.heap.size wa W) => (ha.below hW).env.mx)
  have HKS := Lib.hid (kindF_small G i)
  have HR0 := Lib.hid (show toldF l i = if (attrF l i (⟨#[110, 97, 109, 101]⟩ : ByteArray)).size = 0 ∨ hasF l i (⟨#[100, 105, 115, 97, 98, 108, 101, 100]⟩ : ByteArray) = true ∨ 0 ≤ aboveF l (offF l) i then false
    else if oneB (kindF l i) (⟨#[32, 115, 117, 98, 109, 105, 116, 32, 114, 101, 115, 101, 116, 32, 98, 117, 116, 116, 111, 110, 32, 105, 109, 97, 103, 101, 32, 102, 105, 108, 101, 32]⟩ : ByteArray) then false
    else !tickF (kindF l i) || hasF l i (⟨#[99, 104, 101, 99, 107, 101, 100]⟩ : ByteArray) from rfl)
  clear ha hX hba h hi T G
  generalize kindF l i = kd at *
  generalize attrF l i (⟨#[110, 97, 109, 101]⟩ : ByteArray) = nm at *
  go_enter Tryz.func29, Tryz.ntmps29
  go_upto_region 1 with fail
  rw [← hwa]
  have xa := HXC.out wa (Below.refl _ _)
  clear hwa
  go_upto_region 3 with (go_at_call 30; refine HKD.out.mono ?_; rintro e w1 ⟨rfl, hb1⟩; have x1 := HXC.out w1 hb1)
  have HB1 := Lib.hid hb1
  have HA1 := Lib.hid (HAT.out w1 hb1)
  clear hb1 HKD xa
  by_cases h0 : nm.size = 0
  · have e0 := estr_yes h0
    have HR := Lib.hid (HR0.out.trans (if_pos (.inl h0)))
    clear h0
    go_wp2_with (go_at_call 31; refine HA1.out.mono ?_; rintro e w2 ⟨rfl, hb2⟩)
    go_ret
    exact ⟨by rw [HR.out]; rfl, bst HBA.out (bst HB1.out hb2)⟩
  · have e0 := estr_no (s := nm) (by omega)
    have H0 : Hid (¬ nm.size = 0) := h0
    clear h0
    go_upto_region 4 with (go_at_call 31; refine HA1.out.mono ?_; rintro e w2 ⟨rfl, hb2⟩)
    have HB2 := Lib.hid (bst HB1.out hb2)
    have HD2 := Lib.hid (HHD.out w2 HB2.out)
    have x2 := HXC.out w2 HB2.out
    clear hb2 HA1 x1 e0
    cases hd : hasF l i (⟨#[100, 105, 115, 97, 98, 108, 101, 100]⟩ : ByteArray) with
    | true =>
      have HR := Lib.hid (HR0.out.trans (if_pos (.inr (.inl hd))))
      rw [hd] at HD2
      clear hd
      go_wp2_with (go_at_call 61; refine HD2.out.mono ?_; rintro e w3 ⟨rfl, hb3⟩)
      go_ret
      exact ⟨by rw [HR.out]; rfl, bst HBA.out (bst HB2.out hb3)⟩
    | false =>
      have HD := Lib.hid hd
      rw [hd] at HD2
      clear hd
      go_upto_region 5 with (go_at_call 61; refine HD2.out.mono ?_; rintro e w3 ⟨rfl, hb3⟩)
      have HB3 := Lib.hid (bst HB2.out hb3)
      have HA3 := Lib.hid (HAB.out w3 HB3.out)
      have x3 := HXC.out w3 HB3.out
      clear hb3 HD2 x2
      by_cases ho : 0 ≤ aboveF l (offF l) i
      · have HR := Lib.hid (HR0.out.trans (if_pos (.inr (.inr ho))))
        have t1 : decide (0 ≤ aboveF l (offF l) i) = true := decide_eq_true ho
        go_wp2_with (go_at_call 62; refine HA3.out.mono ?_; rintro e w4 ⟨rfl, hb4⟩)
        go_ret
        exact ⟨by rw [HR.out]; rfl, bst HBA.out (bst HB3.out hb4)⟩
      · have HR1 := Lib.hid (HR0.out.trans (if_neg (fun h => h.elim H0.out fun h => h.elim (fun h => by rw [HD.out] at h; cases h) ho)))
        have t1 : decide (0 ≤ aboveF l (offF l) i) = false := decide_eq_false ho
        clear HR0
        generalize aboveF l (offF l) i = ab at *
        go_upto_region 7 with (go_at_call 62; refine HA3.out.mono ?_; rintro e w4 ⟨rfl, hb4⟩)
        have HB4 := Lib.hid (bst HB3.out hb4)
        obtain ⟨mm, hmm⟩ := HON.out w4 HB4.out
        have HO4 := Lib.hid (one_any kd (⟨#[32, 115, 117, 98, 109, 105, 116, 32, 114, 101, 115, 101, 116, 32, 98, 117, 116, 116, 111, 110, 32, 105, 109, 97, 103, 101, 32, 102, 105, 108, 101, 32]⟩ : ByteArray) mm w4 (by have := HKS.out; omega) (by decide) hmm)
        have HT4 := Lib.hid (ticked_f kd w4)
        have HC4 := Lib.hid (HHC.out w4 HB4.out)
        have x4 := HXC.out w4 HB4.out
        clear hb4 HA3 x3 hmm ho t1
        cases hon : oneB kd (⟨#[32, 115, 117, 98, 109, 105, 116, 32, 114, 101, 115, 101, 116, 32, 98, 117, 116, 116, 111, 110, 32, 105, 109, 97, 103, 101, 32, 102, 105, 108, 101, 32]⟩ : ByteArray) with
        | true =>
          have HR := Lib.hid (show toldF l i = false from by rw [HR1.out, hon]; rfl)
          rw [hon] at HO4
          clear hon
          go_wp2_with (go_at_call 27; refine HO4.out.mono ?_; rintro e w5 ⟨rfl, rfl⟩)
          go_ret
          exact ⟨by rw [HR.out]; rfl, bst HBA.out HB4.out⟩
        | false =>
          have HR2 := Lib.hid (show toldF l i = (!tickF kd || hasF l i (⟨#[99, 104, 101, 99, 107, 101, 100]⟩ : ByteArray)) from by rw [HR1.out, hon]; rfl)
          rw [hon] at HO4
          clear hon HR1
          cases ht : tickF kd with
          | false =>
            have HR := Lib.hid (show toldF l i = true from by rw [HR2.out, ht]; rfl)
            rw [ht] at HT4
            clear ht
            go_wp2_with (first | (go_at_call 27; refine HO4.out.mono ?_; rintro e w5 ⟨rfl, rfl⟩) | (go_at_call 65; refine HT4.out.mono ?_; rintro e w6 ⟨rfl, rfl⟩))
            go_ret
            exact ⟨by rw [HR.out]; rfl, bst HBA.out HB4.out⟩
          | true =>
            have HR := Lib.hid (show toldF l i = hasF l i (⟨#[99, 104, 101, 99, 107, 101, 100]⟩ : ByteArray) from by rw [HR2.out, ht]; rfl)
            rw [ht] at HT4
            clear ht
            go_wp2_with (first | (go_at_call 27; refine HO4.out.mono ?_; rintro e w5 ⟨rfl, rfl⟩) | (go_at_call 65; refine HT4.out.mono ?_; rintro e w6 ⟨rfl, rfl⟩) | (go_at_call 61; refine HC4.out.mono ?_; rintro e w7 ⟨rfl, hb7⟩))
            go_ret
            exact ⟨by rw [HR.out]; rfl, bst HBA.out (bst HB4.out hb7)⟩
end
end Go.Proofs.YtpbngckplbnahaaGreatDoor
