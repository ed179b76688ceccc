/-
The walk of dom's TextOf.
-/
import Derived.Test.YtcnogokemilhnaaDoorSpanText
namespace Go.Proofs.YtcnogokemilhnaaDoor
open Go.RowKit Go.Cl
attribute [local go_sem ↓] Go.wp_at_zero Go.wp_at_succ

/-- What TextOf says. -/
def txtOf (l : List Nd) (n : Int) : ByteArray × Int := if askS l n ≠ 0 then (⟨#[]⟩, askS l n) else if kindD l n = 4 then (textD l n, 0) else (joinB (wholeK l) (preR l n), 0)
theorem ask_zero {l : List Nd} {z : Int} (h : askS l z = 0) : checkD l = 0 ∧ ∃ m : Nat, z = (m : Int) ∧ m < l.length := by
  unfold askS at h
  by_cases hc : checkD l = 0
  · rw [if_neg (by simpa using hc)] at h
    by_cases h1 : z < 0 ∨ (l.length : Int) ≤ z
    · rw [if_pos h1] at h; cases h
    · exact ⟨hc, z.toNat, by omega, by omega⟩
  · rw [if_pos hc] at h; exact absurd h hc
set_option maxRecDepth 100000 in
set_option maxHeartbeats 8000000 in
theorem textOf_any (A : Option Addr) (n c : Nat) (l : List Nd) (q : Bool) (z : Int) (w : World) (B : Nat) (hl : Sl tNd w (lt B) A n c l) (hB : B ≤ w.heap.size) :
    Calls Tryd.prog 21 #[.agg #[.slice A n c, .bool q], .int .i64 z] w fun e' w' => e' = .returned (.tuple #[.string (txtOf l z).1, .int .i64 (txtOf l z).2]) ∧ Below w.heap.size w w' := by
  obtain ⟨w0, hw0⟩ : ∃ w0, w0 = w.alloc (.cells #[.slice A n c, .bool q] 24) := ⟨_, rfl⟩
  have hb0 : Below w.heap.size w w0 := by rw [hw0]; exact (Below.refl _ _).alloc (Nat.le_refl _) _
  have hx1 : w0.heap[w.heap.size]? = some (.cells #[.slice A n c, .bool q] 24 (0, 0)) := by rw [hw0]; exact heap_alloc_new w _
  have HAS := Lib.hid (ask_any A n c l q z w0 B (hl.below hb0 hB) (Nat.le_trans hB hb0.size))
  have HB0 := Lib.hid hb0
  have HX1 := Lib.hid hx1
  have HL := Lib.hid hl
  have HBW : Hid (B ≤ w.heap.size) := hB
  have d0 := cell_blk (i := 0) hx1 rfl
  have d1 := cell_blk (i := 1) hx1 rfl
  clear hb0 hx1 hl hB
  go_enter Tryd.func21, Tryd.ntmps21
  go_upto_region 1 with fail
  rw [← hw0]
  clear hw0
  go_upto_region 2 with (go_at_call 48; refine HAS.out.mono ?_; rintro e' w1 ⟨rfl, hb1⟩)
  have HB1 := Lib.hid (HB0.out.trans (hb1.mono HB0.out.size))
  have hx2 := (hb1.block _ (Array.getElem?_eq_some_iff.1 HX1.out).1).trans HX1.out
  have HX2 := Lib.hid hx2
  clear hb1 d0 d1 HAS HB0 HX1 hx2
  by_cases ha : askS l z = 0
  · obtain ⟨hck, m, rfl, hml⟩ := ask_zero ha
    have G := good_of hck
    have T := tree_of hck
    obtain ⟨y, hy⟩ := get_some hml
    have hl1 := HL.out.below HB1.out HBW.out
    have hmn : m < n := by have := HL.out.hn; omega
    have hcap := HL.out.hc
    obtain ⟨bb, o, rfl, hd⟩ := doc_at hl1 (by omega)
    obtain ⟨_, _, _, _, _, _, _, k0, _, _, k3, _⟩ := hd.at_ m y hy
    have HTX := Lib.hid (textD_at hy)
    have HKD := Lib.hid (kindD_at hy)
    have d0 := cell_blk (i := 0) HX2.out rfl
    have d1 := cell_blk (i := 1) HX2.out rfl
    have i1 : (0 : Int) ≤ (m : Int) := by omega
    have i2 : (m : Int) < (n : Int) := by omega
    have HT1 := Lib.hid (show txtOf l m = if kindD l m = 4 then (textD l m, 0) else (joinB (wholeK l) (preR l m), 0) from if_neg (by simpa using ha))
    rw [ha]
    have HG := Lib.hid G
    have HTR := Lib.hid T
    have HML := Lib.hid hml
    have HD := Lib.hid hd
    clear ha hck G T hy hl1 hml hd
    by_cases hk : y.kind = 4
    · have HR := Lib.hid (HT1.out.trans (if_pos (HKD.out.trans hk)))
      have k4 : (y.kind == 4) = true := by simpa using hk
      clear hk
      go_wp2_with fail
      refine bodyPost_ret (v := .tuple #[.string y.text, .int .i64 0]) (by simp [results, Tryd.results21, go_sem]) rfl ⟨by rw [HR.out, HTX.out], HB1.out⟩
    · have HR1 := Lib.hid (HT1.out.trans (if_neg (fun h => hk (HKD.out.symm.trans h))))
      have k4 : (y.kind == 4) = false := beq_eq_false_iff_ne.2 hk
      have hfew : (preR l m).length ≤ 200 := Nat.le_trans (HTR.out.pre_few HML.out) HTR.out.small
      have HP := Lib.hid (pre_any l HTR.out bb o n c q hcap (41 - upN l (m : Nat)) m [] (.slice none 0 0) w1 w1.heap.size HML.out (by have := (HTR.out.deep m HML.out).1; omega) (OwnF.nil _ _ _) (HD.out.more (Nat.le_trans HBW.out HB1.out.size)) (Nat.le_refl _) (by show 0 + (preR l m).length ≤ 200; omega))
      have HIN : Hid (∀ x ∈ preR l m, ∃ k : Nat, x = (k : Int) ∧ k < l.length) := fun x hx => by
        obtain ⟨k, e, hk, _⟩ := (HTR.out.pre_chain (41 - upN l m) m HML.out (by have := (HTR.out.deep m HML.out).1; omega)).2 x hx
        exact ⟨k, e, hk⟩
      clear hk HT1
      go_upto_region 6 with fail
      rw [List.nil_append] at HP
      generalize preR l m = ns at *
      go_upto_region 8 with (go_at_call 47; refine HP.out.mono ?_; rintro e' w3 ⟨v3, rfl, hown, hb3, _⟩; obtain ⟨A8, c8, rfl⟩ := Own.form hown)
      have hs8 : Sl (tInt .i64) w3 (lt w3.heap.size) A8 ns.length c8 ns := by
        obtain ⟨A9, c9, e9, hs⟩ := OwnF.sl hown (by decide) (by show ns.length * 8 ≤ _; omega)
        simp only [Value.slice.injEq, true_and] at e9
        obtain ⟨rfl, rfl⟩ := e9
        exact hs
      have HS8 := Lib.hid hs8
      have hcap8 := hs8.hc
      have HX3 := Lib.hid ((hb3.block _ (Array.getElem?_eq_some_iff.1 HX2.out).1).trans HX2.out)
      have HB3 := Lib.hid (HB1.out.trans (hb3.mono HB1.out.size))
      have HD3 := Lib.hid (HD.out.below hb3 (Nat.le_trans HBW.out HB1.out.size))
      have HJS := Lib.hid (join_size (f := wholeK l) HG.out.whole_small)
      clear hb3 hown hs8 d0 d1 k0 k3 HP
      go_loopw [33, 7] (fun s o wr => ∃ i : Nat, i ≤ ns.length ∧ s = .int .i64 (i : Int) ∧ o = .string (joinB (wholeK l) (ns.take i)) ∧ Hid (wr = w3)) (fun s _ _ => ns.length - (intOf s).toNat)
      case atStart => exact ⟨0, Nat.zero_le _, rfl, rfl, Lib.hid rfl⟩
      case round =>
        obtain ⟨i, hi, rfl, rfl, HBR⟩ := hrel
        obtain rfl := HBR.out
        by_cases hlt : i < ns.length
        · obtain ⟨x, hx⟩ := get_some hlt
          obtain ⟨k, hm, hkl⟩ := HIN.out x (List.mem_of_getElem? hx)
          subst hm
          obtain ⟨u, hu⟩ := get_some hkl
          obtain ⟨b8, o8, e8, _, hcell, _⟩ := HS8.out.int hx
          subst e8
          obtain ⟨_, _, _, _, _, _, _, k0, _, _, k3, _⟩ := HD3.out.at_ k u hu
          have HKU := Lib.hid (kindD_at hu)
          have HTU := Lib.hid (textD_at hu)
          have hjs := HJS.out (ns.take i)
          rw [List.length_take] at hjs
          have HJ1 := Lib.hid (join_step (f := wholeK l) hx)
          have hps := HG.out.text_small (k : Int)
          rw [HTU.out] at hps
          have d0 := cell_blk (i := 0) HX3.out rfl
          have d1 := cell_blk (i := 1) HX3.out rfl
          have i3 : (0 : Int) ≤ (k : Int) := by omega
          have i4 : (k : Int) < (n : Int) := by have := HL.out.hn; omega
          have i5 : (0 : Int) ≤ (i : Int) := by omega
          have i6 : (i : Int) < (ns.length : Int) := by omega
          generalize joinB (wholeK l) (ns.take i) = acc at *
          have hacc : acc.size ≤ 80000 := by omega
          clear hjs hx hu hkl
          by_cases hk : u.kind = 3
          · have HPK := Lib.hid (show wholeK l k = u.text from (if_pos (HKU.out.trans hk)).trans HTU.out)
            rw [HPK.out] at HJ1
            have k3' : (u.kind == 3) = true := by simpa using hk
            clear hk
            go_wp2_with fail
            go_roundw
            case rel => exact ⟨i + 1, by omega, by go_num, by rw [HJ1.out], Lib.hid trivial⟩
            case measure => simp [intOf]; omega
          · have HPK := Lib.hid (show wholeK l k = ⟨#[]⟩ from if_neg (fun h => hk (HKU.out.symm.trans h)))
            rw [HPK.out] at HJ1
            have HJ2 := Lib.hid (HJ1.out.trans ByteArray.append_empty)
            have k3' : (u.kind == 3) = false := beq_eq_false_iff_ne.2 hk
            clear hk
            go_wp2_with fail
            go_roundw
            case rel => exact ⟨i + 1, by omega, by go_num, by rw [HJ2.out], Lib.hid trivial⟩
            case measure => simp [intOf]; omega
        · have e : ns.take i = ns := List.take_of_length_le (by omega)
          rw [e]
          generalize joinB (wholeK l) ns = acc at *
          clear e
          go_wp2_with fail
          refine bodyPost_ret (v := .tuple #[.string acc, .int .i64 0]) (by simp [results, Tryd.results21, go_sem]) rfl ⟨by rw [HR1.out], HB3.out⟩
  · have HR := Lib.hid (show txtOf l z = (⟨#[]⟩, askS l z) from if_pos ha)
    have j1 : (askS l z != 0) = true := by simpa using ha
    generalize askS l z = er at *
    clear ha
    go_wp2_with fail
    refine bodyPost_ret (v := .tuple #[.string ⟨#[]⟩, .int .i64 er]) (by simp [results, Tryd.results21, go_sem]) rfl ⟨by rw [HR.out], HB1.out⟩
end Go.Proofs.YtcnogokemilhnaaDoor
