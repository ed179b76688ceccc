/-
The search in a list of words, and in a row of nodes by their ranks.
-/
import Derived.Test.YtomleengbnfikaaGreatDoorIdxKit
import Derived.WalkLawsBesides
namespace Go.Proofs.YtomleengbnfikaaGreatDoor
open Go.RowKit Go.Cl
attribute [local go_sem ↓] Go.wp_at_zero Go.wp_at_succ

theorem nanS_any (a : ByteArray) (w : World) : Calls Tryz.prog 73 #[.string a] w fun e w' => e = .returned (.bool false) ∧ w = w' := by
  go_enter Tryz.func73, Tryz.ntmps73
  go_wp2
  go_ret
  exact ⟨by simp, rfl⟩
theorem cmpS_any (a b : ByteArray) (w : World) : Calls Tryz.prog 52 #[.string a, .string b] w fun e w' => e = .returned (.int .i64 (cmpS a b)) ∧ w = w' := by
  have HN := Lib.hid (fun x => nanS_any x w)
  cases h1 : Op.bytesLess a.toList b.toList with
  | true =>
    have HR := Lib.hid (show cmpS a b = -1 from if_pos h1)
    go_enter Tryz.func52, Tryz.ntmps52
    go_wp2_with (go_at_call 73; refine (HN.out _).mono ?_; rintro e w1 ⟨rfl, rfl⟩)
    go_ret
    exact ⟨by rw [HR.out]; rfl, rfl⟩
  | false =>
    cases h2 : Op.bytesLess b.toList a.toList with
    | true =>
      have hne : (a.toList == b.toList) = false := by
        rw [beq_eq_false_iff_ne]
        intro e
        rw [e, bl_irr] at h2
        cases h2
      have HR := Lib.hid (show cmpS a b = 1 from (if_neg (by rw [sL, h1]; decide)).trans (if_pos h2))
      go_enter Tryz.func52, Tryz.ntmps52
      go_wp2_with (go_at_call 73; refine (HN.out _).mono ?_; rintro e w1 ⟨rfl, rfl⟩)
      go_ret
      exact ⟨by rw [HR.out]; rfl, rfl⟩
    | false =>
      have heq : (a.toList == b.toList) = true := by rw [bl_tri _ _ h1 h2]; simp
      have HR := Lib.hid (show cmpS a b = 0 from (if_neg (by rw [sL, h1]; decide)).trans (if_neg (by rw [sL, h2]; decide)))
      go_enter Tryz.func52, Tryz.ntmps52
      go_wp2_with (go_at_call 73; refine (HN.out _).mono ?_; rintro e w1 ⟨rfl, rfl⟩)
      go_ret
      exact ⟨by rw [HR.out]; rfl, rfl⟩
theorem find1_any (a b : ByteArray) (Av : Option Addr) (nv cv : Nat) (w : World) : Calls Tryz.prog 51 #[.agg #[.string a, .slice Av nv cv], .string b] w fun e w' => e = .returned (.int .i64 (cmpS a b)) ∧ Below w.heap.size w w' := by
  have HC := Lib.hid (fun W => cmpS_any a b W)
  go_enter Tryz.func51, Tryz.ntmps51
  go_wp2_with (go_at_call 52; refine (HC.out _).mono ?_; rintro e w1 ⟨rfl, rfl⟩)
  go_ret
  exact ⟨rfl, (Below.refl _ _).alloc (Nat.le_refl _) _⟩

theorem sl_int {w : World} {D : Nat → Prop} {A : Option Addr} {n c : Nat} {xs : List Int} (h : Sl (tInt .i64) w D A n c xs) {i : Nat} {x : Int} (hx : xs[i]? = some x) : ∃ b o, A = some ⟨b, o, none⟩ ∧ D b ∧ w.cell? ⟨b, o + i, none⟩ = some (.int .i64 x) := by
  obtain ⟨b, o, e, hD, hc, _⟩ := h.int hx
  exact ⟨b, o, e, hD, hc⟩
theorem ref_cells {w : World} {D : Nat → Prop} {A : Option Addr} {n c : Nat} {l : List Ref} (h : Sl tRef w D A n c l) {i : Nat} {r : Ref} (hr : l[i]? = some r) :
    ∃ b o Av cv, A = some ⟨b, o, none⟩ ∧ D b ∧ w.cell? ⟨b, o + i * 2, none⟩ = some (.string r.1) ∧ w.cell? ⟨b, o + i * 2 + 1, none⟩ = some (.slice Av r.2.length cv) ∧ r.1.size ≤ 1152921504606846976 ∧ Sl (tInt .i64) w D Av r.2.length cv r.2 := by
  obtain ⟨b, o, cs, e, hD, ⟨c1, c2, rfl, ⟨rfl, h1⟩, Av, nv, cv, rfl, h2⟩, hc⟩ := h.get hr
  obtain rfl : nv = r.2.length := h2.hn
  exact ⟨b, o, Av, cv, e, hD, hc 0 _ rfl, hc 1 _ rfl, h1, h2⟩
/-- What a search tells. -/
def foundP {α : Type} (p : α → Int) (l : List α) : Bool := match l[l.countP fun x => decide (p x < 0)]? with
  | some x => p x == 0
  | none => false
theorem found_in {α : Type} {p : α → Int} {l : List α} {k : Nat} {x : α} (h : (l.countP fun x => decide (p x < 0)) = k) (hx : l[k]? = some x) : foundP p l = (p x == 0) := by
  unfold foundP
  rw [h, hx]
theorem found_out {α : Type} {p : α → Int} {l : List α} {k : Nat} (h : (l.countP fun x => decide (p x < 0)) = k) (hk : l.length ≤ k) : foundP p l = false := by
  unfold foundP
  rw [h, List.getElem?_eq_none hk]
theorem cnt_lo {α : Type} {p : α → Int} {l : List α} (hm : Mono (fun x => decide (p x < 0)) l) {k i : Nat} {x : α} (h : (l.countP fun x => decide (p x < 0)) = k) (hx : l[i]? = some x) (hp : p x < 0) : i + 1 ≤ k := by
  have := (cnt_iff hm i x hx).1 (by simpa using hp)
  omega
theorem cnt_hi {α : Type} {p : α → Int} {l : List α} (hm : Mono (fun x => decide (p x < 0)) l) {k i : Nat} {x : α} (h : (l.countP fun x => decide (p x < 0)) = k) (hx : l[i]? = some x) (hp : ¬ p x < 0) : k ≤ i := by
  have := mt (cnt_iff hm i x hx).2 (by simpa using hp)
  omega

set_option maxRecDepth 100000 in
set_option maxHeartbeats 4000000 in
/-- slices.BinarySearchFunc over nodes, by what a function says that knows a cell. -/
theorem bsI_any (A : Option Addr) (n c : Nat) (xs : List Int) (t : Int) (nb : Nat) (p : Int → Int) (w : World) (B : Nat) (hl : Sl (tInt .i64) w (lt B) A n c xs) (hB : B ≤ w.heap.size) (hm : Mono (fun x => decide (p x < 0)) xs)
    (hc : ∀ x ∈ xs, ∀ W, Below w.heap.size w W → Calls Tryz.prog 38 #[.int .i64 x, .int .i64 t, .pointer (some ⟨nb, 0, none⟩)] W fun e w' => e = .returned (.int .i64 (p x)) ∧ Below W.heap.size W w') :
    Calls Tryz.prog 37 #[.slice A n c, .int .i64 t, .func (.func 38) #[] #[.pointer (some ⟨nb, 0, none⟩)]] w fun e w' => e = .returned (.tuple #[.int .i64 ((xs.countP fun x => decide (p x < 0) : Nat) : Int), .bool (foundP p xs)]) ∧ Below w.heap.size w w' := by
  have hn1 := hl.small
  have HL := Lib.hid hl.hn
  have HM := Lib.hid hm
  have HC := Lib.hid hc
  obtain ⟨k, hk⟩ : ∃ k, (xs.countP fun x => decide (p x < 0)) = k := ⟨_, rfl⟩
  have HKN : Hid (k ≤ n) := by have := List.countP_le_length (p := fun x => decide (p x < 0)) (l := xs); have := hl.hn; show k ≤ n; omega
  have HK := Lib.hid hk
  obtain ⟨f, hf⟩ : ∃ f, foundP p xs = f := ⟨_, rfl⟩
  have HF := Lib.hid hf
  rw [hk, hf]
  clear hm hc hk hf
  go_enter Tryz.func37, Tryz.ntmps37
  go_wp2_with fail
  go_loopw [9, 10] (fun s9 s10 wr => ∃ lo hi : Nat, s9 = .int .i64 lo ∧ s10 = .int .i64 hi ∧ lo ≤ hi ∧ hi ≤ n ∧ Below w.heap.size w wr ∧ Hid (lo ≤ k ∧ k ≤ hi)) (fun s9 s10 _ => (intOf s10).toNat - (intOf s9).toNat)
  case atStart => exact ⟨0, n, rfl, rfl, Nat.zero_le _, Nat.le_refl _, Below.refl _ _, Lib.hid ⟨Nat.zero_le _, HKN.out⟩⟩
  case round =>
    obtain ⟨lo, hi, rfl, rfl, hlh, hin, hb, HI⟩ := hrel
    by_cases hlt : lo < hi
    · obtain ⟨y, hy⟩ := get_some (l := xs) (k := (lo + hi) / 2) (by have := HL.out; omega)
      obtain ⟨b, o, rfl, _, c1⟩ := sl_int (hl.below hb hB) hy
      have HCALL := Lib.hid (HC.out y (List.mem_of_getElem? hy) wr hb)
      have HY := Lib.hid hy
      clear hy
      by_cases hyx : p y < 0
      · have HI2 : Hid ((lo + hi) / 2 + 1 ≤ k ∧ k ≤ hi) := ⟨cnt_lo HM.out HK.out HY.out hyx, HI.out.2⟩
        generalize p y = py at *
        go_wp2_with (go_at_call 38; refine HCALL.out.mono ?_; rintro e w1 ⟨rfl, hb1⟩)
        go_roundw
        case rel => exact ⟨(lo + hi) / 2 + 1, hi, by rw [show ((lo : Int) + (hi : Int)) / 2 + 1 = (((lo + hi) / 2 + 1 : Nat) : Int) by omega], rfl, by omega, hin, hb.trans (hb1.mono hb.size), HI2⟩
        case measure => simp [intOf]; omega
      · have HI2 : Hid (lo ≤ k ∧ k ≤ (lo + hi) / 2) := ⟨HI.out.1, cnt_hi HM.out HK.out HY.out hyx⟩
        generalize p y = py at *
        go_wp2_with (go_at_call 38; refine HCALL.out.mono ?_; rintro e w1 ⟨rfl, hb1⟩)
        go_roundw
        case rel => exact ⟨lo, (lo + hi) / 2, rfl, by rw [show ((lo : Int) + (hi : Int)) / 2 = (((lo + hi) / 2 : Nat) : Int) by omega], by omega, by omega, hb.trans (hb1.mono hb.size), HI2⟩
        case measure => simp [intOf]; omega
    · obtain rfl : hi = lo := by omega
      obtain rfl : hi = k := by have := HI.out; omega
      by_cases hkn : hi < n
      · obtain ⟨y, hy⟩ := get_some (l := xs) (k := hi) (by have := HL.out; omega)
        obtain ⟨b, o, rfl, _, c1⟩ := sl_int (hl.below hb hB) hy
        have HCALL := Lib.hid (HC.out y (List.mem_of_getElem? hy) wr hb)
        have HFY := Lib.hid (HF.out.symm.trans (found_in HK.out hy))
        clear hy
        generalize p y = py at *
        go_wp2_with (go_at_call 38; refine HCALL.out.mono ?_; rintro e w1 ⟨rfl, hb1⟩)
        go_ret2
        exact ⟨by rw [HFY.out]; rfl, hb.trans (hb1.mono hb.size)⟩
      · have HFY := Lib.hid (HF.out.symm.trans (found_out HK.out (by have := HL.out; omega)))
        go_wp2_with fail
        go_ret2
        exact ⟨by rw [HFY.out]; rfl, hb⟩

set_option maxRecDepth 100000 in
set_option maxHeartbeats 4000000 in
/-- slices.BinarySearchFunc over entries, by their words. -/
theorem bsR_any (A : Option Addr) (n c : Nat) (l : List Ref) (t : ByteArray) (w : World) (B : Nat) (hl : Sl tRef w (lt B) A n c l) (hB : B ≤ w.heap.size) (hm : Mono (fun r : Ref => decide (cmpS r.1 t < 0)) l) :
    Calls Tryz.prog 50 #[.slice A n c, .string t, .func (.func 51) #[] #[]] w fun e w' => e = .returned (.tuple #[.int .i64 ((l.countP fun r => decide (cmpS r.1 t < 0) : Nat) : Int), .bool (foundP (fun r : Ref => cmpS r.1 t) l)]) ∧ Below w.heap.size w w' := by
  have hn1 := hl.small
  have HL := Lib.hid hl.hn
  have HM := Lib.hid hm
  have HC := Lib.hid (fun a Av nv cv W => find1_any a t Av nv cv W)
  obtain ⟨k, hk⟩ : ∃ k, (l.countP fun r => decide (cmpS r.1 t < 0)) = k := ⟨_, rfl⟩
  have HKN : Hid (k ≤ n) := by have := List.countP_le_length (p := fun r : Ref => decide (cmpS r.1 t < 0)) (l := l); have := hl.hn; show k ≤ n; omega
  have HK := Lib.hid hk
  obtain ⟨f, hf⟩ : ∃ f, foundP (fun r : Ref => cmpS r.1 t) l = f := ⟨_, rfl⟩
  have HF := Lib.hid hf
  rw [hk, hf]
  clear hm hk hf
  go_enter Tryz.func50, Tryz.ntmps50
  go_wp2_with fail
  go_loopw [9, 10] (fun s9 s10 wr => ∃ lo hi : Nat, s9 = .int .i64 lo ∧ s10 = .int .i64 hi ∧ lo ≤ hi ∧ hi ≤ n ∧ Below w.heap.size w wr ∧ Hid (lo ≤ k ∧ k ≤ hi)) (fun s9 s10 _ => (intOf s10).toNat - (intOf s9).toNat)
  case atStart => exact ⟨0, n, rfl, rfl, Nat.zero_le _, Nat.le_refl _, Below.refl _ _, Lib.hid ⟨Nat.zero_le _, HKN.out⟩⟩
  case round =>
    obtain ⟨lo, hi, rfl, rfl, hlh, hin, hb, HI⟩ := hrel
    by_cases hlt : lo < hi
    · obtain ⟨y, hy⟩ := get_some (l := l) (k := (lo + hi) / 2) (by have := HL.out; omega)
      obtain ⟨b, o, Av, cv, rfl, _, c1, c2, _, _⟩ := ref_cells (hl.below hb hB) hy
      have HCALL := Lib.hid (HC.out y.1 Av y.2.length cv wr)
      have HY := Lib.hid hy
      clear hy
      by_cases hyx : cmpS y.1 t < 0
      · have HI2 : Hid ((lo + hi) / 2 + 1 ≤ k ∧ k ≤ hi) := ⟨cnt_lo HM.out HK.out HY.out hyx, HI.out.2⟩
        generalize cmpS y.1 t = py at *
        go_wp2_with (go_at_call 51; refine HCALL.out.mono ?_; rintro e w1 ⟨rfl, hb1⟩)
        go_roundw
        case rel => exact ⟨(lo + hi) / 2 + 1, hi, by rw [show ((lo : Int) + (hi : Int)) / 2 + 1 = (((lo + hi) / 2 + 1 : Nat) : Int) by omega], rfl, by omega, hin, hb.trans (hb1.mono hb.size), HI2⟩
        case measure => simp [intOf]; omega
      · have HI2 : Hid (lo ≤ k ∧ k ≤ (lo + hi) / 2) := ⟨HI.out.1, cnt_hi HM.out HK.out HY.out hyx⟩
        generalize cmpS y.1 t = py at *
        go_wp2_with (go_at_call 51; refine HCALL.out.mono ?_; rintro e w1 ⟨rfl, hb1⟩)
        go_roundw
        case rel => exact ⟨lo, (lo + hi) / 2, rfl, by rw [show ((lo : Int) + (hi : Int)) / 2 = (((lo + hi) / 2 : Nat) : Int) by omega], by omega, by omega, hb.trans (hb1.mono hb.size), HI2⟩
        case measure => simp [intOf]; omega
    · obtain rfl : hi = lo := by omega
      obtain rfl : hi = k := by have := HI.out; omega
      by_cases hkn : hi < n
      · obtain ⟨y, hy⟩ := get_some (l := l) (k := hi) (by have := HL.out; omega)
        obtain ⟨b, o, Av, cv, rfl, _, c1, c2, _, _⟩ := ref_cells (hl.below hb hB) hy
        have HCALL := Lib.hid (HC.out y.1 Av y.2.length cv wr)
        have HFY := Lib.hid (HF.out.symm.trans (found_in HK.out hy))
        clear hy
        generalize cmpS y.1 t = py at *
        go_wp2_with (go_at_call 51; refine HCALL.out.mono ?_; rintro e w1 ⟨rfl, hb1⟩)
        go_ret2
        exact ⟨by rw [HFY.out]; rfl, hb.trans (hb1.mono hb.size)⟩
      · have HFY := Lib.hid (HF.out.symm.trans (found_out HK.out (by have := HL.out; omega)))
        go_wp2_with fail
        go_ret2
        exact ⟨by rw [HFY.out]; rfl, hb⟩
theorem cmp_mono {l : List Ref} (h : RSort l) (t : ByteArray) : Mono (fun r : Ref => decide (cmpS r.1 t < 0)) l := fun i j x y hij hx hy hp => by
  simp only [decide_eq_true_eq, cmpS_lt] at hp ⊢
  exact rs_mono h t i j x y hij hx hy hp
theorem cmp_at (l : List Ref) (t : ByteArray) : (l.countP fun r => decide (cmpS r.1 t < 0)) = atR l t := by
  unfold atR
  congr 1
  funext r
  rw [Bool.eq_iff_iff, decide_eq_true_eq, cmpS_lt]
theorem cmp_found (l : List Ref) (t : ByteArray) : foundP (fun r : Ref => cmpS r.1 t) l = hasR l t := by
  unfold foundP hasR
  rw [cmp_at]
  cases l[atR l t]? <;> rfl
/-- find: a word's place in a list that rises. -/
theorem findR_any (A : Option Addr) (n c : Nat) (l : List Ref) (t : ByteArray) (w : World) (B : Nat) (hl : Sl tRef w (lt B) A n c l) (hB : B ≤ w.heap.size) (hs : RSort l) :
    Calls Tryz.prog 32 #[.slice A n c, .string t] w fun e w' => e = .returned (.tuple #[.int .i64 (atR l t : Nat), .bool (hasR l t)]) ∧ Below w.heap.size w w' := by
  have h0 := bsR_any A n c l t w B hl hB (cmp_mono hs t)
  rw [cmp_at, cmp_found] at h0
  have H := Lib.hid h0
  clear h0
  generalize atR l t = i at *
  generalize hasR l t = f at *
  go_enter Tryz.func32, Tryz.ntmps32
  go_wp2_with (go_at_call 50; refine H.out.mono ?_; rintro e w1 ⟨rfl, hb1⟩)
  go_ret2
  exact ⟨rfl, hb1⟩
end Go.Proofs.YtomleengbnfikaaGreatDoor
