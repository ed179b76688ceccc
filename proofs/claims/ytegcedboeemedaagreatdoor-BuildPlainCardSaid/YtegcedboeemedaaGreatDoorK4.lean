/-
Tokens: the reader's value.
-/
import Derived.Test.YtegcedboeemedaaGreatDoorK3
import Derived.BigQuiet
import Derived.Deep.DeepCutAuto
import Derived.Shelf.Strings.SlTrimAscii
import Derived.Lib.OthersKept
import Derived.Deep.LoopGhost
import Derived.Deep.QuietTactic
import Derived.Outline
import Derived.Deep.DrawnRows
import Derived.Shelf.Strings.FuncGrows
import Derived.Lib.LaidU8
import Derived.Lib.LaidCase
import Derived.ScopeJumps
import Derived.Shelf.Strings.Fold
import Derived.Lib.ReplaceLaws
import Derived.WalkSpells
namespace Go.Proofs.YtegcedboeemedaaGreatDoor
open Go.RowKit Go.Cl
attribute [local go_sem ↓] Go.wp_at_zero Go.wp_at_succ
theorem until_rd (f : FuncId) (p : UInt8 → Bool) (hent : ∀ args w, (callFunc f args).run Tryz.prog w = .ok (.enter f args) w) (hf : ∀ (b : UInt8) (u : World), Calls Tryz.prog f #[.int .u8 (b.toNat : Int)] u fun e w' => e = .returned (.bool (!p b)) ∧ w' = u)
    (X : Nat) (s : ByteArray) (r : List UInt8) (E : Int) (O : Value) (w : World) (hs : s.size ≤ 1000000) (h : Rd w X s r E O) :
    Calls Tryz.prog 144 #[.pointer (some ⟨X, 0, none⟩), .func (.func f) #[] #[]] w fun e w' => e = .returned (.string ⟨(r.takeWhile p).toArray⟩) ∧ w.grownBy w' (some X) ∧ Rd w' X s (r.dropWhile p) E O := by
  obtain ⟨⟨a, ha, hr, hc⟩, hm⟩ := h
  refine (until_any f p hent hf X s a E O w ha hs hc).mono ?_
  rintro e w' ⟨rfl, hg, hc'⟩
  have hdl := drop_len ha hr
  have hsp := List.takeWhile_append_dropWhile (p := p) (l := r)
  have hln := congrArg List.length hsp
  rw [List.length_append] at hln
  rw [hr] at hc' ⊢
  refine ⟨rfl, hg, ⟨_, by omega, ?_, hc'⟩, mx_grown hm (hc.ne0 hm) hg⟩
  rw [← List.drop_drop, hr]
  generalize r.takeWhile p = x at *
  generalize r.dropWhile p = y at *
  rw [← hsp, List.drop_left' rfl]
theorem at_head {s : ByteArray} {a : Nat} {q : UInt8} {t : List UInt8} (hr : s.data.toList.drop a = q :: t) : ∃ h : a < s.size, s[a] = q ∧ s.data.toList.drop (a + 1) = t := by
  have h2 : s.data.toList.length = s.size := by simp
  have hl : a < s.data.toList.length := by
    rcases Nat.lt_or_ge a s.data.toList.length with h | h
    · exact h
    · rw [List.drop_eq_nil_of_le h] at hr; cases hr
  rw [List.drop_eq_getElem_cons hl] at hr
  injection hr with h3 h4
  exact ⟨by omega, h3, h4⟩
/-- The reader has gone on to a place. -/
theorem Rd.step {w : World} {X : Nat} {s : ByteArray} {a b : Nat} {r : List UInt8} {E : Int} {O : Value} {n : Int} (hn : n = (b : Int)) (hb : b ≤ s.size) (hr : s.data.toList.drop b = r) (hc : Rc w X s a E O) (hm : ∃ m : Int, w.cell? ⟨0, 0, none⟩ = some (.int .i64 m)) :
    Rd (w.setCell ⟨X, 1, none⟩ (.int .i64 n)) X s r E O ∧ w.grownBy (w.setCell ⟨X, 1, none⟩ (.int .i64 n)) (some X) := by
  subst hn
  have k1 := hc.go b
  exact ⟨⟨⟨b, hb, hr, k1.1⟩, mx_grown hm (hc.ne0 hm) k1.2⟩, k1.2⟩
theorem Rd.nil {w : World} {X : Nat} {s : ByteArray} {E : Int} {O : Value} (h : Rd w X s [] E O) : Rc w X s s.size E O := by
  obtain ⟨⟨a, ha, hra, hc⟩, hm⟩ := h
  have hna : a = s.size := by
    have h2 : s.data.toList.length = s.size := by simp
    have h3 := congrArg List.length hra
    rw [List.length_drop] at h3
    have : s.data.toList.length - a = 0 := h3
    omega
  exact hna ▸ hc
theorem ext_one {s : ByteArray} {a : Nat} {q : UInt8} {t : List UInt8} (hr : s.data.toList.drop a = q :: t) : s.extract a (a + 1) = ⟨#[q]⟩ := by
  apply ByteArray.ext
  apply Array.toList_inj.1
  rw [ByteArray.data_extract, Array.toList_extract, List.extract_eq_take_drop, hr]
  simp
set_option maxRecDepth 100000 in
set_option maxHeartbeats 4000000 in
theorem tkValue_any (X : Nat) (s : ByteArray) (r : List UInt8) (E : Int) (O : Value) (w : World) (hs : s.size ≤ 1000000) (h : Rd w X s r E O) :
    Calls Tryz.prog 182 #[.pointer (some ⟨X, 0, none⟩)] w fun e w' => e = .returned (.string ⟨(valueF r).1.toArray⟩) ∧ w.grownBy w' (some X) ∧ Rd w' X s (valueF r).2 E O := by
  have HU1 := Lib.hid (until_rd 221 blankB (enters_of Tryz.func221 (by kernel_rfl) rfl) blankNot2_any X s r E O w hs h)
  have hv : valueF r = match r.dropWhile blankB with
    | [] => ([], [])
    | q :: t => if q = 34 ∨ q = 39 then ((Lib.cut t [q]).1, (Lib.cut t [q]).2.1) else ((q :: t).takeWhile valB, (q :: t).dropWhile valB) := rfl
  have HU2 := Lib.hid (fun (r' : List UInt8) (u : World) (h : Rd u X s r' E O) => until_rd 222 valB (enters_of Tryz.func222 (by kernel_rfl) rfl) valStop_any X s r' E O u hs h)
  have HPA := Lib.hid (fun (r' : List UInt8) (mk : ByteArray) (hmk : mk.size ≤ 1000) (u : World) (h : Rd u X s r' E O) => past_any X s r' mk E O u hs hmk h)
  cases hd : r.dropWhile blankB with
  | nil =>
    rw [hd] at HU1 hv
    have HV := Lib.hid hv
    clear hv hd h
    go_enter Tryz.func182, Tryz.ntmps182
    go_upto_region 2 with (go_at_call 144; refine HU1.out.mono ?_; rintro e w1 ⟨rfl, hg1, hr1⟩)
    have HR1 := Lib.hid hr1
    have HG1 := Lib.hid hg1
    have hc := hr1.nil
    have c0 := hc.c0
    have c1 := hc.c1
    have g0 : decide ((s.size : Int) < (s.size : Int)) = false := by simp
    clear hg1 hc hr1
    go_quiet (fail)
    go_wp2_with (go_at_call 144; refine (HU2.out [] _ (HR1.out.next (tdrewN _ _))).mono ?_; rintro e w2 ⟨rfl, hg2, hr2⟩)
    go_ret
    exact ⟨by rw [HV.out]; rfl, (HG1.out.trans (grown_below (tdrewN _ _) _)).trans hg2, by rw [HV.out]; exact hr2⟩
  | cons q t =>
    rw [hd] at HU1 hv
    have HV := Lib.hid hv
    clear hv hd h
    by_cases h34 : q = 34
    · subst h34
      have HV2 := Lib.hid (show valueF r = ((Lib.cut t [34]).1, (Lib.cut t [34]).2.1) from by rw [HV.out]; exact if_pos (by decide))
      go_enter Tryz.func182, Tryz.ntmps182
      go_upto_region 2 with (go_at_call 144; refine HU1.out.mono ?_; rintro e w1 ⟨rfl, hg1, hr1⟩)
      have HG1 := Lib.hid hg1
      obtain ⟨⟨a, ha, hra, hc⟩, hm⟩ := hr1
      obtain ⟨hlt, hsa, hr2⟩ := at_head hra
      have HC := Lib.hid hc
      have HM := Lib.hid hm
      have HT := Lib.hid hr2
      obtain ⟨qS, hqS⟩ : ∃ qS : ByteArray, (⟨#[34]⟩ : ByteArray) = qS := ⟨_, rfl⟩
      have x1 : s.extract a (a + 1) = qS := by rw [ext_one hra, hqS]
      have HPC := Lib.hid (fun (u : World) (h : Rd u X s t E O) => (hqS ▸ HPA.out t ⟨#[34]⟩ (by decide) u h : Calls Tryz.prog 142 #[.pointer (some ⟨X, 0, none⟩), .string qS] u fun e w' => e = .returned (.tuple #[.string ⟨(Lib.cut t [34]).1.toArray⟩, .bool (Lib.cut t [34]).2.2]) ∧ u.grownBy w' (some X) ∧ Rd w' X s (Lib.cut t [34]).2.1 E O))
      have c0 := hc.c0
      have c1 := hc.c1
      have f1 := hc.fr 1
      have i0 : (0 : Int) ≤ (a : Int) := by omega
      have i1 : (a : Int) < (s.size : Int) := by omega
      have i2 : (a : Int) + 1 ≤ (s.size : Int) := by omega
      have i3 : (0 : Int) ≤ (a : Int) + 1 := by omega
      have i4 : (a : Int) ≤ (a : Int) + 1 := by omega
      have n1 : ((a : Int) + 1).toNat = a + 1 := by omega
      have w1' : IntKind.i64.wrap ((a : Int) + 1) = (a : Int) + 1 := IntWalk.i64_in _ (by omega)
      have g0 : decide ((a : Int) < (s.size : Int)) = true := decide_eq_true i1
      have e34 : ((s[a].toNat : Int) == 34) = true := by rw [hsa]; rfl
      have p34 : 34 ≤ s[a].toNat := by rw [hsa]; decide
      have p35 : s[a].toNat ≤ 34 := by rw [hsa]; decide
      clear hg1 hm hra hr2 hqS hsa ha hc
      go_quiet (fail)
      go_upto_region 3 with fail
      go_quiet (fail)
      have HST := Lib.hid fun (k : Nat) => Rd.step (w := w1.drewN k) (n := (a : Int) + 1) (b := a + 1) (by omega) (by omega) HT.out HC.out HM.out
      go_wp2_with (go_at_call 142; refine (HPC.out _ (HST.out _).1).mono ?_; rintro e w2 ⟨rfl, hg2, hr2⟩)
      go_ret
      exact ⟨by rw [HV2.out]; rfl, ((HG1.out.trans (grown_below (tdrewN _ _) _)).trans (HST.out _).2).trans hg2, by rw [HV2.out]; exact hr2⟩
    by_cases h39 : q = 39
    · subst h39
      have HV2 := Lib.hid (show valueF r = ((Lib.cut t [39]).1, (Lib.cut t [39]).2.1) from by rw [HV.out]; exact if_pos (by decide))
      go_enter Tryz.func182, Tryz.ntmps182
      go_upto_region 2 with (go_at_call 144; refine HU1.out.mono ?_; rintro e w1 ⟨rfl, hg1, hr1⟩)
      have HG1 := Lib.hid hg1
      obtain ⟨⟨a, ha, hra, hc⟩, hm⟩ := hr1
      obtain ⟨hlt, hsa, hr2⟩ := at_head hra
      have HC := Lib.hid hc
      have HM := Lib.hid hm
      have HT := Lib.hid hr2
      obtain ⟨qS, hqS⟩ : ∃ qS : ByteArray, (⟨#[39]⟩ : ByteArray) = qS := ⟨_, rfl⟩
      have x1 : s.extract a (a + 1) = qS := by rw [ext_one hra, hqS]
      have HPC := Lib.hid (fun (u : World) (h : Rd u X s t E O) => (hqS ▸ HPA.out t ⟨#[39]⟩ (by decide) u h : Calls Tryz.prog 142 #[.pointer (some ⟨X, 0, none⟩), .string qS] u fun e w' => e = .returned (.tuple #[.string ⟨(Lib.cut t [39]).1.toArray⟩, .bool (Lib.cut t [39]).2.2]) ∧ u.grownBy w' (some X) ∧ Rd w' X s (Lib.cut t [39]).2.1 E O))
      have c0 := hc.c0
      have c1 := hc.c1
      have f1 := hc.fr 1
      have i0 : (0 : Int) ≤ (a : Int) := by omega
      have i1 : (a : Int) < (s.size : Int) := by omega
      have i2 : (a : Int) + 1 ≤ (s.size : Int) := by omega
      have i3 : (0 : Int) ≤ (a : Int) + 1 := by omega
      have i4 : (a : Int) ≤ (a : Int) + 1 := by omega
      have n1 : ((a : Int) + 1).toNat = a + 1 := by omega
      have w1' : IntKind.i64.wrap ((a : Int) + 1) = (a : Int) + 1 := IntWalk.i64_in _ (by omega)
      have g0 : decide ((a : Int) < (s.size : Int)) = true := decide_eq_true i1
      have e34 : ((s[a].toNat : Int) == 34) = false := by rw [hsa]; rfl
      have e39 : ((s[a].toNat : Int) == 39) = true := by rw [hsa]; rfl
      have p36 : ¬ s[a].toNat = 34 := by rw [hsa]; decide
      have p34 : 39 ≤ s[a].toNat := by rw [hsa]; decide
      have p35 : s[a].toNat ≤ 39 := by rw [hsa]; decide
      clear hg1 hm hra hr2 hqS hsa ha hc
      go_quiet (fail)
      go_upto_region 3 with fail
      go_quiet (fail)
      have HST := Lib.hid fun (k : Nat) => Rd.step (w := w1.drewN k) (n := (a : Int) + 1) (b := a + 1) (by omega) (by omega) HT.out HC.out HM.out
      go_wp2_with (go_at_call 142; refine (HPC.out _ (HST.out _).1).mono ?_; rintro e w2 ⟨rfl, hg2, hr2⟩)
      go_ret
      exact ⟨by rw [HV2.out]; rfl, ((HG1.out.trans (grown_below (tdrewN _ _) _)).trans (HST.out _).2).trans hg2, by rw [HV2.out]; exact hr2⟩
    have HV2 := Lib.hid (show valueF r = ((q :: t).takeWhile valB, (q :: t).dropWhile valB) from by rw [HV.out]; exact if_neg (by rintro (h | h); exact h34 h; exact h39 h))
    go_enter Tryz.func182, Tryz.ntmps182
    go_upto_region 2 with (go_at_call 144; refine HU1.out.mono ?_; rintro e w1 ⟨rfl, hg1, hr1⟩)
    have HG1 := Lib.hid hg1
    have HR1 := Lib.hid hr1
    obtain ⟨⟨a, ha, hra, hc⟩, hm⟩ := hr1
    obtain ⟨hlt, hsa, hr2⟩ := at_head hra
    have c0 := hc.c0
    have c1 := hc.c1
    have i0 : (0 : Int) ≤ (a : Int) := by omega
    have i1 : (a : Int) < (s.size : Int) := by omega
    have g0 : decide ((a : Int) < (s.size : Int)) = true := decide_eq_true i1
    have e34 : ((s[a].toNat : Int) == 34) = false := by rw [hsa]; exact u8_ne (c := 34) (by decide) h34
    have e39 : ((s[a].toNat : Int) == 39) = false := by rw [hsa]; exact u8_ne (c := 39) (by decide) h39
    have p34 : ¬ s[a].toNat = 34 := by rw [hsa]; exact fun e => h34 (UInt8.toNat_inj.1 e)
    have p39 : ¬ s[a].toNat = 39 := by rw [hsa]; exact fun e => h39 (UInt8.toNat_inj.1 e)
    clear hg1 hm hra hr2 hsa ha hc h34 h39
    go_quiet (fail)
    go_wp2_with (go_at_call 144; refine (HU2.out (q :: t) _ (HR1.out.next (tdrewN _ _))).mono ?_; rintro e w2 ⟨rfl, hg2, hr2⟩)
    go_ret
    exact ⟨by rw [HV2.out]; rfl, (HG1.out.trans (grown_below (tdrewN _ _) _)).trans hg2, by rw [HV2.out]; exact hr2⟩
end Go.Proofs.YtegcedboeemedaaGreatDoor

/-
Tokens: the reader's attr.
-/
namespace Go.Proofs.YtegcedboeemedaaGreatDoor
open Go.RowKit Go.Cl
attribute [local go_sem ↓] Go.wp_at_zero Go.wp_at_succ
/-- A new attribute in its box: its name. -/
def BxA (w3 : World) (nm : ByteArray) (v : Value) (W : World) : Prop := ∃ B, v = .pointer (some ⟨B, 0, none⟩) ∧ w3.heap.size ≤ B ∧ Below w3.heap.size w3 W ∧ W.heap[B]? = some (.cells #[.string nm, .string ⟨#[]⟩] 141 (0, 0))
theorem ext_from {s : ByteArray} {a b : Nat} {x : List UInt8} {r : List UInt8} (hr : s.data.toList.drop a = x ++ r) (hb : b = a + x.length) : s.extract a b = ⟨x.toArray⟩ := by
  apply ByteArray.ext
  apply Array.toList_inj.1
  rw [ByteArray.data_extract, Array.toList_extract, List.extract_eq_take_drop, hr, hb, show a + x.length - a = x.length by omega, List.take_left']
  rfl
theorem grown_at {w W : World} {row : Option Nat} (h : w.grownBy W row) {Z i : Nat} (hZ : w.heap.size ≤ Z) (v : Value) : w.grownBy (W.setCell ⟨Z, i, none⟩ v) row := by
  obtain ⟨h1, h2, h3, h4, h5⟩ := h
  have hg := grown_set W Z i v
  exact ⟨hg.1.trans h1, hg.2.trans h2, hg.3.trans h3, Nat.le_trans h4 hg.size, fun k hk hne => (heap_setCell_other W ⟨Z, i, none⟩ k v (by show k ≠ Z; omega)).trans (h5 k hk hne)⟩
theorem Rd.mxlt {w : World} {X : Nat} {s : ByteArray} {r : List UInt8} {E : Int} {O : Value} (h : Rd w X s r E O) : 0 < w.heap.size := by
  obtain ⟨m, hm⟩ := h.mx
  exact World.block_lt_of_cell? w ⟨0, 0, none⟩ hm
theorem Rd.far {W : World} {X : Nat} {s : ByteArray} {r : List UInt8} {E : Int} {O : Value} (h : Rd W X s r E O) {Z i : Nat} (hX : X ≠ Z) (h0 : Z ≠ 0) (v : Value) : Rd (W.setCell ⟨Z, i, none⟩ v) X s r E O := by
  obtain ⟨⟨a, h1, h2, h3⟩, m, hm⟩ := h
  exact ⟨⟨a, h1, h2, (heap_setCell_other W ⟨Z, i, none⟩ X v hX).trans h3⟩, m, (World.cell?_of_block (a := ⟨0, 0, none⟩) (heap_setCell_other W ⟨Z, i, none⟩ 0 v (fun e => h0 e.symm))).trans hm⟩
theorem tcut_fst (r mark : List UInt8) : (Lib.cut r mark).1.length ≤ r.length := by
  rcases cut_shape r mark with ⟨i, hi, h⟩ | h
  · rw [h]; show (r.take i).length ≤ _; rw [List.length_take]; omega
  · rw [h]; exact Nat.le_refl _
theorem take_le (p : UInt8 → Bool) (r : List UInt8) : (r.takeWhile p).length ≤ r.length := by
  have := congrArg List.length (List.takeWhile_append_dropWhile (p := p) (l := r))
  rw [List.length_append] at this
  omega
theorem valueF_fst (r : List UInt8) : (valueF r).1.length ≤ r.length := by
  have h := dropW_le blankB r
  unfold valueF
  cases hd : r.dropWhile blankB with
  | nil => exact Nat.zero_le _
  | cons q t =>
    rw [hd, List.length_cons] at h
    dsimp only
    split
    · have := tcut_fst t [q]; dsimp only; omega
    · have := take_le valB (q :: t); rw [List.length_cons] at this; dsimp only; omega
set_option maxRecDepth 100000 in
set_option maxHeartbeats 4000000 in
theorem tkAttr_any (X : Nat) (s : ByteArray) (b : UInt8) (t : List UInt8) (E : Int) (O : Value) (w : World) (hs : s.size ≤ 1000000) (h : Rd w X s (b :: t) E O) :
    Calls Tryz.prog 148 #[.pointer (some ⟨X, 0, none⟩)] w fun e w' => e = .returned (.agg #[.string (attrF b t).1.1, .string (attrF b t).1.2]) ∧ w.grownBy w' (some X) ∧ Rd w' X s (attrF b t).2 E O := by
  have hG0 := h.mxlt
  obtain ⟨⟨a, ha, hra, hc⟩, hm⟩ := h
  obtain ⟨hlt, hsa, hr2⟩ := at_head hra
  obtain ⟨w0, hw0⟩ : ∃ w0, w0 = w.alloc (.cells #[.string ⟨#[]⟩, .string ⟨#[]⟩] 141) := ⟨_, rfl⟩
  have hb0 : Below w.heap.size w w0 := by rw [hw0]; exact tal (Below.refl _ _) _
  have hx0 : w0.heap[w.heap.size]? = some (.cells #[.string ⟨#[]⟩, .string ⟨#[]⟩] 141 (0, 0)) := by rw [hw0]; exact heap_alloc_new w _
  have hc0 := hc.next hb0
  have hm0 := mx_next hm hb0
  have HST := Lib.hid (Rd.step (n := (a : Int) + 1) (b := a + 1) (by omega) (by omega) hr2 hc0 hm0)
  have HU1 := Lib.hid (fun (u : World) (h : Rd u X s t E O) => until_rd 179 anB (enters_of Tryz.func179 (by kernel_rfl) rfl) anStop_any X s t E O u hs h)
  have HU2 := Lib.hid (fun (r' : List UInt8) (u : World) (h : Rd u X s r' E O) => until_rd 180 blankB (enters_of Tryz.func180 (by kernel_rfl) rfl) blankNot_any X s r' E O u hs h)
  have HVA := Lib.hid (fun (r' : List UInt8) (u : World) (h : Rd u X s r' E O) => tkValue_any X s r' E O u hs h)
  have HB0 := Lib.hid hb0
  have HX0 := Lib.hid hx0
  have HDR := Lib.hid hra
  have HLT : Hid (X < w.heap.size) := hc.lt
  have c0 := hc0.c0
  have c1 := hc0.c1
  have f1 := hc0.fr 1
  have i0 : (0 : Int) ≤ (a : Int) := by omega
  have i1 : (a : Int) < (s.size : Int) := by omega
  have HDL := Lib.hid (drop_len ha hra)
  clear hra hc hm hsa hr2 hb0 hx0 hc0 hm0 ha hlt
  go_enter Tryz.func148, Tryz.ntmps148
  go_upto_region 1 with fail
  rw [← hw0]
  clear hw0
  go_upto_region 4 with (go_at_call 144; refine (HU1.out _ HST.out.1).mono ?_; rintro e w3 ⟨rfl, hg3, hr3⟩)
  have HG3 := Lib.hid (((grown_below HB0.out (some X)).trans HST.out.2).trans hg3)
  have HR3 := Lib.hid hr3
  have HX3 := Lib.hid (show w3.heap[w.heap.size]? = some (.cells #[.string ⟨#[]⟩, .string ⟨#[]⟩] 141 (0, 0)) from by
    have hlt := HLT.out
    have h1 := ((HST.out.2).trans hg3).block w.heap.size (Array.getElem?_eq_some_iff.1 HX0.out).1 (by simp; omega)
    exact h1.trans HX0.out)
  obtain ⟨⟨a3, ha3, hra3, hc3⟩, hm3⟩ := hr3
  have hsp := List.takeWhile_append_dropWhile (p := anB) (l := t)
  have hln := congrArg List.length hsp
  rw [List.length_append] at hln
  have h3 := drop_len ha3 hra3
  have h0 := HDL.out
  rw [List.length_cons] at h0
  have hxt : s.extract a a3 = ⟨(b :: t.takeWhile anB).toArray⟩ := ext_from (r := t.dropWhile anB) (by rw [HDR.out, List.cons_append, hsp]) (by rw [List.length_cons]; omega)
  obtain ⟨nS, hnS⟩ : ∃ nS : ByteArray, (⟨(b :: t.takeWhile anB).toArray⟩ : ByteArray) = nS := ⟨_, rfl⟩
  rw [hnS] at hxt
  have HAN := Lib.hid (fun u : World => (show Calls Tryz.prog 111 #[.string nS] u fun e w' => e = .returned (.string (bs (attrL (b :: t.takeWhile anB)))) ∧ Below u.heap.size u w' from by
    have h := tkAttrName_any nS u
    rw [show nS.data.toList = b :: t.takeWhile anB from by rw [← hnS]] at h
    exact h))
  have HCC := Lib.hid hc3
  have i2 : (a : Int) ≤ (a3 : Int) := by omega
  have i3 : (a3 : Int) ≤ (s.size : Int) := by omega
  have i4 : (0 : Int) ≤ (a3 : Int) := by omega
  clear hg3 hra3 hc3 hm3 hsp hln h3 h0 hnS c0 c1 f1 HU1
  go_cut [4] (fun v wx => BxA w3 (bs (attrL (b :: t.takeWhile anB))) v wx)
  case first =>
    refine wp_region_G (S := (fun W : World => W.cell? ⟨X, 0, none⟩ = some (.string s) ∧ W.cell? ⟨X, 1, none⟩ = some (.int .i64 (a3 : Int)))) (T := [13]) (by kernel_rfl) ?_
    have HSW := Lib.hid (fun (u : World) (hu : Below w3.heap.size w3 u) => And.intro (cell_be HCC.out.c0 hu) (cell_be HCC.out.c1 hu))
    have hS : (fun W : World => W.cell? ⟨X, 0, none⟩ = some (.string s) ∧ W.cell? ⟨X, 1, none⟩ = some (.int .i64 (a3 : Int))) w3.drew := HSW.out _ (tdrew w3)
    refine wpAnyG_pure (i := 0) (v := ?_) rfl (by kernel_rfl) (by kernel_rfl) (by kernel_rfl) (fun _ _ _ h => h) rfl ?_ ?_
    rotate_left
    · intro w'
      first | (go_simp; done) | (go_simp; with_reducible rfl)
    refine wpAnyG_pure (i := 1) (v := ?_) rfl (by kernel_rfl) (by kernel_rfl) (by kernel_rfl) (fun _ _ _ h => h) rfl ?_ ?_
    rotate_left
    · intro w'
      first | (go_simp; done) | (go_simp; with_reducible rfl)
    refine wpAnyG_pure (i := 2) (v := ?_) rfl (by kernel_rfl) (by kernel_rfl) (by kernel_rfl) (fun _ _ _ h => h) rfl ?_ ?_
    rotate_left
    · intro w'
      first | (go_simp; done) | (go_simp; with_reducible rfl)
    refine wpAnyG_take (i := 3) (v := ?_) rfl (by kernel_rfl) (by kernel_rfl) (by kernel_rfl) (by kernel_rfl) (fun _ _ _ h => h) hS rfl ?_ ?_
    rotate_left
    · intro w' hSw
      (try dsimp only at hSw)
      first | (go_simp; done) | (go_simp; with_reducible rfl)
    refine wpAnyG_pure (i := 4) (v := ?_) rfl (by kernel_rfl) (by kernel_rfl) (by kernel_rfl) (fun _ _ _ h => h) rfl ?_ ?_
    rotate_left
    · intro w'
      first | (go_simp; done) | (go_simp; with_reducible rfl)
    refine wpAnyG_pure (i := 5) (v := ?_) rfl (by kernel_rfl) (by kernel_rfl) (by kernel_rfl) (fun _ _ _ h => h) rfl ?_ ?_
    rotate_left
    · intro w'
      first | (go_simp; done) | (go_simp; with_reducible rfl)
    refine wpAnyG_pure (i := 6) (v := ?_) rfl (by kernel_rfl) (by kernel_rfl) (by kernel_rfl) (fun _ _ _ h => h) rfl ?_ ?_
    rotate_left
    · intro w'
      first | (go_simp; done) | (go_simp; with_reducible rfl)
    refine wpAnyG_pure (i := 7) (v := ?_) rfl (by kernel_rfl) (by kernel_rfl) (by kernel_rfl) (fun _ _ _ h => h) rfl ?_ ?_
    rotate_left
    · intro w'
      first | (go_simp; done) | (go_simp; with_reducible rfl)
    refine wpAnyG_take (i := 8) (v := ?_) rfl (by kernel_rfl) (by kernel_rfl) (by kernel_rfl) (by kernel_rfl) (fun _ _ _ h => h) hS rfl ?_ ?_
    rotate_left
    · intro w' hSw
      (try dsimp only at hSw)
      first | (go_simp; done) | (go_simp; with_reducible rfl)
    refine wpAnyG_pure (i := 9) (v := ?_) rfl (by kernel_rfl) (by kernel_rfl) (by kernel_rfl) (fun _ _ _ h => h) rfl ?_ ?_
    rotate_left
    · intro w'
      first | (go_simp; done) | (go_simp; with_reducible rfl)
    refine wpAnyG_two (i := 10) (j := 12) (by kernel_rfl) rfl rfl rfl rfl (fun K hK => ?_) (fun K hK => ?_)
    · go_simp
      go_at_call 111
      refine (HAN.out _).mono ?_
      rintro e' V1 ⟨rfl, hv1⟩
      have HV1 := Lib.hid ((tdrew w3).trans hv1)
      clear hv1
      go_wp2_with fail
      refine hK.out _ _ (fun _ _ => HSW.out _ HV1.out) ?_
      clear hK K hS
      have hS : (fun W : World => W.cell? ⟨X, 0, none⟩ = some (.string s) ∧ W.cell? ⟨X, 1, none⟩ = some (.int .i64 (a3 : Int))) V1 := HSW.out _ HV1.out
      refine wpAnyG_pure (i := 11) (v := ?_) rfl (by kernel_rfl) (by kernel_rfl) (by kernel_rfl) (fun _ _ _ h => h) rfl ?_ ?_
      rotate_left
      · intro w'
        first | (go_simp; done) | (go_simp; with_reducible rfl)
      refine wpAnyG_one (i := 12) (by kernel_rfl) rfl rfl (fun K hK => ?_)
      go_simp
      refine hK.out _ _ (fun _ _ => HSW.out _ (tal HV1.out _)) ?_
      clear hK K hS
      refine wpAnyG_one (i := 13) (by kernel_rfl) rfl rfl (fun K hK => ?_)
      go_simp
      refine hK.out _ _ (fun h => absurd (by decide) h) ?_
      clear hK K
      refine wpAnyG_done (by kernel_rfl) ?_ _
      go_simp
      first | go_meet | (go_wp2_with fail; go_meet)
      exact ⟨_, rfl, HV1.out.size, tal HV1.out _, heap_alloc_new V1 _⟩
    · go_simp
      have HVA0 := Lib.hid (tal (tdrew w3) (.cells #[.string ⟨#[]⟩, .string ⟨#[]⟩] 141))
      refine hK.out _ _ (fun _ _ => HSW.out _ HVA0.out) ?_
      clear hK K hS
      have HBX := Lib.hid (show (w3.drew.alloc (.cells #[.string ⟨#[]⟩, .string ⟨#[]⟩] 141)).heap[w3.heap.size]? = some (.cells #[.string ⟨#[]⟩, .string ⟨#[]⟩] 141 (0, 0)) from heap_alloc_new w3.drew _)
      refine wpAnyG_one (i := 10) (by kernel_rfl) rfl rfl (fun K hK => ?_)
      go_simp
      have hS : True := trivial
      go_at_call 111
      refine (HAN.out _).mono ?_
      rintro e' V1 ⟨rfl, hv1⟩
      have HV1 := Lib.hid (tst HVA0.out hv1)
      have HBV := Lib.hid ((hv1.block _ (Array.getElem?_eq_some_iff.1 HBX.out).1).trans HBX.out)
      clear hv1
      go_wp2_with fail
      refine hK.out _ _ (fun _ _ => HSW.out _ HV1.out) ?_
      clear hK K hS
      have hS : (fun W : World => W.cell? ⟨X, 0, none⟩ = some (.string s) ∧ W.cell? ⟨X, 1, none⟩ = some (.int .i64 (a3 : Int))) V1 := HSW.out _ HV1.out
      refine wpAnyG_pure (i := 11) (v := ?_) rfl (by kernel_rfl) (by kernel_rfl) (by kernel_rfl) (fun _ _ _ h => h) rfl ?_ ?_
      rotate_left
      · intro w'
        first | (go_simp; done) | (go_simp; with_reducible rfl)
      have cb0 : V1.cell? ⟨w3.heap.size, 0, none⟩ = some (.string ⟨#[]⟩) := cell_blk (i := 0) HBV.out rfl
      have cb1 : V1.cell? ⟨w3.heap.size, 1, none⟩ = some (.string ⟨#[]⟩) := cell_blk (i := 1) HBV.out rfl
      have fb0 := free_blk (i := 0) HBV.out
      have fb1 := free_blk (i := 1) HBV.out
      refine wpAnyG_one (i := 13) (by kernel_rfl) rfl rfl (fun K hK => ?_)
      go_simp
      refine hK.out _ _ (fun h => absurd (by decide) h) ?_
      clear hK K
      refine wpAnyG_done (by kernel_rfl) ?_ _
      go_simp
      first | go_meet | (go_wp2_with fail; go_meet)
      exact ⟨_, rfl, Nat.le_refl _, (HV1.out.setCell (p := ⟨w3.heap.size, 0, none⟩) (Nat.le_refl _) _).setCell (p := ⟨w3.heap.size, 1, none⟩) (Nat.le_refl _) _, set_blk (set_blk HBV.out _) _⟩
  case rest =>
    obtain ⟨B, rfl, hB, hbc, hbx⟩ := hcut
    have HRC := Lib.hid (HR3.out.next hbc)
    have HGC := Lib.hid (HG3.out.trans (grown_below hbc (some X)))
    have HBB := Lib.hid hB
    have HBX := Lib.hid hbx
    have HZ := Lib.hid (show wc.heap[w.heap.size]? = some (.cells #[.string ⟨#[]⟩, .string ⟨#[]⟩] 141 (0, 0)) from (hbc.block _ (Array.getElem?_eq_some_iff.1 HX3.out).1).trans HX3.out)
    have HXX := Lib.hid (show X < w3.heap.size ∧ w.heap.size < w3.heap.size from ⟨HCC.out.lt, (Array.getElem?_eq_some_iff.1 HX3.out).1⟩)
    clear hB hbc hbx hxt HAN HCC i0 i1 i2 i3 i4
    go_upto_region 6 with (go_at_call 144; refine (HU2.out _ _ HRC.out).mono ?_; rintro e w4 ⟨rfl, hg4, hr4⟩)
    have hz4 := hg4.size
    have HB4 := Lib.hid (show w4.heap[B]? = some (.cells #[.string (bs (attrL (b :: t.takeWhile anB))), .string ⟨#[]⟩] 141 (0, 0)) from (hg4.block B (Array.getElem?_eq_some_iff.1 HBX.out).1 (by have := HXX.out; have := HBB.out; simp; omega)).trans HBX.out)
    have HZ4 := Lib.hid (show w4.heap[w.heap.size]? = some (.cells #[.string ⟨#[]⟩, .string ⟨#[]⟩] 141 (0, 0)) from (hg4.block _ (Array.getElem?_eq_some_iff.1 HZ.out).1 (by have := HLT.out; simp; omega)).trans HZ.out)
    have HG4 := Lib.hid (HGC.out.trans hg4)
    have HR4 := Lib.hid (show Rd w4 X s (attrEnd t) E O from hr4)
    have HAF := Lib.hid (show attrF b t = if (attrEnd t).head? = some 61 then ((bs (attrL (b :: t.takeWhile anB)), bs (entV (valueF (attrEnd t).tail).1)), (valueF (attrEnd t).tail).2) else ((bs (attrL (b :: t.takeWhile anB)), ⟨#[]⟩), attrEnd t) from rfl)
    clear hr4 hg4 hz4
    generalize bs (attrL (b :: t.takeWhile anB)) = nm at *
    cases he : attrEnd t with
    | nil =>
      rw [he] at HR4 HAF
      have HA2 := Lib.hid (show attrF b t = ((nm, ⟨#[]⟩), []) from HAF.out)
      have hc4 := HR4.out.nil
      have c0 := hc4.c0
      have c1 := hc4.c1
      have b0 := cell_blk (i := 0) HB4.out rfl
      have b1 := cell_blk (i := 1) HB4.out rfl
      have z0 := cell_blk (i := 0) HZ4.out rfl
      have z1 := cell_blk (i := 1) HZ4.out rfl
      have fz0 := free_blk (i := 0) HZ4.out
      have fz1 := free_blk (i := 1) HZ4.out
      have g0 : decide ((s.size : Int) < (s.size : Int)) = false := by simp
      clear hc4 he HAF
      go_quiet (fail)
      go_wp2_with fail
      have hF := set_blk (i := 1) (set_blk (i := 0) (w := w4.drewN nq) HZ4.out (.string nm)) (.string ⟨#[]⟩)
      have cF0 := cell_blk (i := 0) hF rfl
      have cF1 := cell_blk (i := 1) hF rfl
      have hX0 := HLT.out
      refine bodyPost_ret (v := .agg #[.string nm, .string ⟨#[]⟩]) ?_ rfl ⟨by rw [HA2.out], grown_at (grown_at (HG4.out.trans (grown_below (tdrewN w4 nq) _)) (Nat.le_refl _) _) (Nat.le_refl _) _, by rw [HA2.out]; exact ((HR4.out.next (tdrewN w4 nq)).far (by omega) (by omega) _).far (by omega) (by omega) _⟩
      clear hF
      simp [results, Tryz.results148, go_sem, cF0, cF1]
    | cons q r' =>
      rw [he] at HR4 HAF
      obtain ⟨⟨a4, ha4, hra4, hc4⟩, hm4⟩ := HR4.out
      obtain ⟨hlt4, hsa4, hr5⟩ := at_head hra4
      have c0 := hc4.c0
      have c1 := hc4.c1
      have j0 : (0 : Int) ≤ (a4 : Int) := by omega
      have j1 : (a4 : Int) < (s.size : Int) := by omega
      have g0 : decide ((a4 : Int) < (s.size : Int)) = true := decide_eq_true j1
      by_cases h61 : q = 61
      · subst h61
        have HA2 := Lib.hid (show attrF b t = ((nm, bs (entV (valueF r').1)), (valueF r').2) from HAF.out)
        have e61 : ((s[a4].toNat : Int) == 61) = true := by rw [hsa4]; rfl
        have p61 : 61 ≤ s[a4].toNat := by rw [hsa4]; decide
        have p62 : s[a4].toNat ≤ 61 := by rw [hsa4]; decide
        have f1 := hc4.fr 1
        have HC4 := Lib.hid hc4
        have HM4 := Lib.hid hm4
        have HRL : Hid (r'.length ≤ 1000000) := by have h := drop_len ha4 hra4; rw [List.length_cons] at h; show _ ≤ _; omega
        have HST4 := Lib.hid fun (k : Nat) => Rd.step (w := w4.drewN k) (n := (a4 : Int) + 1) (b := a4 + 1) (by omega) (by omega) hr5 hc4 hm4
        have HEV := Lib.hid (fun u : World => value_any ⟨(valueF r').1.toArray⟩ u (by have h1 := valueF_fst r'; have h2 := HRL.out; show (valueF r').1.length ≤ _; omega))
        clear hc4 hm4 hra4 hr5 hsa4 ha4 he HAF
        go_quiet (fail)
        go_wp2_with (first
          | (go_at_call 182; refine (HVA.out _ _ (HST4.out _).1).mono ?_; rintro e w5 ⟨rfl, hg5, hr5⟩)
          | (go_at_call 181; refine (HEV.out _).mono ?_; rintro e w6 ⟨rfl, hb6⟩; have hg46 := (((grown_below (tdrewN w4 _) (some X)).trans (HST4.out _).2).trans hg5).trans (grown_below hb6 (some X)); have hB6 := (hg46.block B (Array.getElem?_eq_some_iff.1 HB4.out).1 (by have := HXX.out; have := HBB.out; simp; omega)).trans HB4.out; have hZ6 := (hg46.block _ (Array.getElem?_eq_some_iff.1 HZ4.out).1 (by have := HLT.out; simp; omega)).trans HZ4.out; have fb1 := free_blk (i := 1) hB6; have b0 := cell_blk (i := 0) hB6 rfl; have b1 := cell_blk (i := 1) hB6 rfl; have z0 := cell_blk (i := 0) hZ6 rfl; have z1 := cell_blk (i := 1) hZ6 rfl; have fz0 := free_blk (i := 0) hZ6; have fz1 := free_blk (i := 1) hZ6; have HB6 := Lib.hid hB6; have HZ6 := Lib.hid hZ6; have HG6 := Lib.hid (HG4.out.trans hg46); have HR6 := Lib.hid (hr5.next hb6); have hneBZ : B ≠ w.heap.size := (by have := HXX.out; have := HBB.out; omega); clear hB6 hZ6 hg46 hb6 hr5 hg5))
        obtain ⟨v2, hv2⟩ : ∃ v2 : ByteArray, (⟨(readL ⟨(valueF r').1.toArray⟩ true).toArray⟩ : ByteArray) = v2 := ⟨_, rfl⟩
        have hev : bs (entV (valueF r').1) = v2 := hv2
        rw [hv2]
        have hZ7 := (heap_setCell_other w6 ⟨B, 1, none⟩ w.heap.size (.string v2) (fun e => hneBZ e.symm)).trans HZ6.out
        have hF := set_blk (i := 1) (set_blk (i := 0) hZ7 (.string nm)) (.string v2)
        have cF0 := cell_blk (i := 0) hF rfl
        have cF1 := cell_blk (i := 1) hF rfl
        have hX0 := HLT.out
        have hXX := HXX.out
        have hBB := HBB.out
        refine bodyPost_ret (v := .agg #[.string nm, .string v2]) ?_ rfl ⟨by rw [HA2.out, hev], grown_at (grown_at (grown_at HG6.out (by omega) _) (Nat.le_refl _) _) (Nat.le_refl _) _, by rw [HA2.out]; exact ((HR6.out.far (by omega) (by omega) _).far (by omega) (by omega) _).far (by omega) (by omega) _⟩
        clear hF hZ7
        simp [results, Tryz.results148, go_sem, cF0, cF1]
      · have HA2 := Lib.hid (show attrF b t = ((nm, ⟨#[]⟩), q :: r') from by rw [HAF.out, if_neg (by simpa using h61)])
        have e61 : ((s[a4].toNat : Int) == 61) = false := by rw [hsa4]; exact u8_ne (c := 61) (by decide) h61
        have p61 : ¬ s[a4].toNat = 61 := by rw [hsa4]; exact fun e => h61 (UInt8.toNat_inj.1 e)
        have b0 := cell_blk (i := 0) HB4.out rfl
        have b1 := cell_blk (i := 1) HB4.out rfl
        have z0 := cell_blk (i := 0) HZ4.out rfl
        have z1 := cell_blk (i := 1) HZ4.out rfl
        have fz0 := free_blk (i := 0) HZ4.out
        have fz1 := free_blk (i := 1) HZ4.out
        clear hc4 hm4 hra4 hr5 hsa4 ha4 he HAF h61
        go_quiet (fail)
        go_wp2_with fail
        have hF := set_blk (i := 1) (set_blk (i := 0) (w := w4.drewN nq) HZ4.out (.string nm)) (.string ⟨#[]⟩)
        have cF0 := cell_blk (i := 0) hF rfl
        have cF1 := cell_blk (i := 1) hF rfl
        have hX0 := HLT.out
        refine bodyPost_ret (v := .agg #[.string nm, .string ⟨#[]⟩]) ?_ rfl ⟨by rw [HA2.out], grown_at (grown_at (HG4.out.trans (grown_below (tdrewN w4 nq) _)) (Nat.le_refl _) _) (Nat.le_refl _) _, by rw [HA2.out]; exact ((HR4.out.next (tdrewN w4 nq)).far (by omega) (by omega) _).far (by omega) (by omega) _⟩
        clear hF
        simp [results, Tryz.results148, go_sem, cF0, cF1]
end Go.Proofs.YtegcedboeemedaaGreatDoor

/-
Tokens: is an attribute's name there already?
-/
namespace Go.Proofs.YtegcedboeemedaaGreatDoor
open Go.RowKit Go.Cl
attribute [local go_sem ↓] Go.wp_at_zero Go.wp_at_succ
theorem tag3_any (x y : ByteArray) (nm : ByteArray) (g : Nat) (w : World) (hc : w.cell? ⟨g, 0, none⟩ = some (.string nm)) :
    Calls Tryz.prog 150 #[.agg #[.string x, .string y], .pointer (some ⟨g, 0, none⟩)] w fun e w' => e = .returned (.bool (x.toList == nm.toList)) ∧ Below w.heap.size w w' := by
  have hlt := World.block_lt_of_cell? w ⟨g, 0, none⟩ hc
  have c1 : (w.alloc (.cells #[.string x, .string y] 141)).cell? ⟨g, 0, none⟩ = some (.string nm) := cell_al hc _
  go_enter Tryz.func150, Tryz.ntmps150
  go_wp2_with fail
  go_ret
  exact ⟨rfl, tal (Below.refl _ _) _⟩
theorem hasT_idx (g : Nat) (nm : ByteArray) (A : Option Addr) (n c : Nat) (l : List DAttr) (w : World) (B : Nat) (hl : Sl tDA w (lt B) A n c l) (hB : B ≤ w.heap.size) (hc : w.cell? ⟨g, 0, none⟩ = some (.string nm)) :
    Calls Tryz.prog 161 #[.slice A n c, .func (.func 150) #[] #[.pointer (some ⟨g, 0, none⟩)]] w fun e w' => ∃ r : Int, e = .returned (.int .i64 r) ∧ Below w.heap.size w w' ∧ decide (0 ≤ r) = l.any (fun b => b.1.toList == nm.toList) := by
  have hn1 := hl.small
  have HL := Lib.hid hl.hn
  have HC := Lib.hid hc
  clear hc
  go_enter Tryz.func161, Tryz.ntmps161
  go_wp2_with fail
  go_loopw [8] (fun i wr => ∃ k : Nat, k ≤ n ∧ i = .int .i64 (k : Int) ∧ Below w.heap.size w wr ∧ Hid ((l.take k).any (fun b => b.1.toList == nm.toList) = false)) (fun i _ => n - (intOf i).toNat)
  case atStart => exact ⟨0, Nat.zero_le _, rfl, Below.refl _ _, Lib.hid (by simp)⟩
  case round =>
    obtain ⟨k, hk, rfl, hb, HA⟩ := hrel
    by_cases hlt : k < n
    · obtain ⟨x, hx⟩ : ∃ x, l[k]? = some x := get_some (by have := HL.out; omega)
      obtain ⟨b, o, rfl, hD, c1, c2, z1, z2⟩ := da_cells (hl.below hb hB) hx
      have HX := Lib.hid hx
      have HCALL := Lib.hid (tag3_any x.1 x.2 nm g wr (cell_be HC.out hb))
      have HTS := Lib.hid (take_snoc hx)
      clear hx
      cases hpx : (x.1.toList == nm.toList) with
      | true =>
        have HP := Lib.hid hpx
        rw [hpx] at HCALL
        clear hpx
        go_wp2_with fail
        refine HCALL.out.mono ?_
        rintro e w1 ⟨rfl, hb1⟩
        go_wp2_with fail
        go_ret
        exact ⟨k, rfl, hb.trans (hb1.mono hb.size), by
          have h1 : l.any (fun b => b.1.toList == nm.toList) = true := List.any_eq_true.2 ⟨x, List.mem_of_getElem? HX.out, HP.out⟩
          rw [h1]; simp⟩
      | false =>
        have HP := Lib.hid hpx
        rw [hpx] at HCALL
        clear hpx
        go_wp2_with fail
        refine HCALL.out.mono ?_
        rintro e w1 ⟨rfl, hb1⟩
        go_wp2_with fail
        go_roundw
        case rel => exact ⟨k + 1, by omega, by go_num, hb.trans (hb1.mono hb.size), Lib.hid (by rw [HTS.out, List.any_append, HA.out]; simp [HP.out])⟩
        case measure => simp [intOf]; omega
    · go_wp2_with fail
      go_ret
      exact ⟨-1, rfl, hb, by
        have h1 : l.take k = l := List.take_of_length_le (by have := HL.out; omega)
        have h2 := HA.out
        rw [h1] at h2
        rw [h2]; rfl⟩
theorem hasT_any (g : Nat) (nm : ByteArray) (A : Option Addr) (n c : Nat) (l : List DAttr) (w : World) (B : Nat) (hl : Sl tDA w (lt B) A n c l) (hB : B ≤ w.heap.size) (hc : w.cell? ⟨g, 0, none⟩ = some (.string nm)) :
    Calls Tryz.prog 149 #[.slice A n c, .func (.func 150) #[] #[.pointer (some ⟨g, 0, none⟩)]] w fun e w' => e = .returned (.bool (l.any (fun b => b.1.toList == nm.toList))) ∧ Below w.heap.size w w' := by
  have HC := Lib.hid (hasT_idx g nm A n c l w B hl hB hc)
  clear hc
  go_enter Tryz.func149, Tryz.ntmps149
  go_wp2_with fail
  refine HC.out.mono ?_
  rintro e w1 ⟨r, rfl, hb, hr⟩
  have HR := Lib.hid hr
  clear hr
  go_wp2_with fail
  go_ret
  exact ⟨retB HR.out, hb⟩
end Go.Proofs.YtegcedboeemedaaGreatDoor

/-
Tokens: the reader's tag.
-/
namespace Go.Proofs.YtegcedboeemedaaGreatDoor
open Go.RowKit Go.Cl
attribute [local go_sem ↓] Go.wp_at_zero Go.wp_at_succ
/-- A token's cells. -/
abbrev tokC (kd : Int) (nm : ByteArray) (v : Value) (tx : ByteArray) (self : Bool) (f t : Int) : Array Value := #[.int .i64 kd, .string nm, v, .string tx, .bool self, .int .i64 f, .int .i64 t]
/-- Between two rounds of tag. -/
structure TgAt (w wr : World) (X : Nat) (s : ByteArray) (kd : Int) (nm : ByteArray) (E : Int) (O : Value) (rk : List UInt8) (acc : List DAttr) (v : Value) : Prop where
  rd : Rd wr X s rk E O
  gr : w.grownBy wr (some X)
  b0 : wr.heap[w.heap.size]? = some (.cells (tokC kd nm v ⟨#[]⟩ false 0 0) 76 (0, 0))
  b1 : wr.heap[w.heap.size + 1]? = some (.cells (tokC 0 ⟨#[]⟩ (.slice none 0 0) ⟨#[]⟩ false 0 0) 76 (0, 0))
  own : OwnF tDA wr (w.heap.size + 2) 141 v acc.length acc
  few : acc.length + rk.length ≤ s.size
  xlt : X < w.heap.size
  sz : w.heap.size + 2 ≤ wr.heap.size
  g0 : 0 < w.heap.size
section
variable {w wr W W' : World} {X : Nat} {s : ByteArray} {kd : Int} {nm : ByteArray} {E : Int} {O : Value} {rk r' : List UInt8} {acc : List DAttr} {v : Value}
theorem own_far2 {α : Type} {T : Ty α} {base b : Nat} {e : TypeId} {n : Nat} {xs : List α} (h : OwnF T W base e v n xs) (hb : b < base) : v.ownBlock = none ∨ v.ownBlock ≠ some b := by
  cases hv : v.ownBlock with
  | none => exact .inl rfl
  | some g =>
    right
    intro e'
    have := (Cl.Own.lt h g hv).1
    injection e' with e'
    omega
theorem TgAt.go (h : TgAt w wr X s kd nm E O rk acc v) (hg : wr.grownBy W' (some X)) (hr : Rd W' X s r' E O) (hl : r'.length ≤ rk.length) : TgAt w W' X s kd nm E O r' acc v := by
  have hx := h.xlt
  have hz := h.sz
  have hg0 := h.g0
  exact ⟨hr, h.gr.trans hg, (hg.block _ (by omega) (by simp; omega)).trans h.b0, (hg.block _ (by omega) (by simp; omega)).trans h.b1, Cl.Own.kept h.own hg (own_far2 h.own (by omega)) fun _ h => h.elim, by have := h.few; omega, hx, Nat.le_trans hz hg.size, h.g0⟩
theorem TgAt.next (h : TgAt w wr X s kd nm E O rk acc v) (hb : Below wr.heap.size wr W') : TgAt w W' X s kd nm E O rk acc v := h.go (grown_below hb _) (h.rd.next hb) (Nat.le_refl _)
theorem TgAt.put (h : TgAt w wr X s kd nm E O rk acc v) {v' : Value} {a : DAttr} (hg : wr.grownBy W' v.ownBlock) (ho : OwnF tDA W' (w.heap.size + 2) 141 v' (acc.length + 1) (acc ++ [a])) (hf : acc.length + 1 + rk.length ≤ s.size) :
    TgAt w (W'.setCell ⟨w.heap.size, 2, none⟩ v') X s kd nm E O rk (acc ++ [a]) v' := by
  have hx := h.xlt
  have hz := h.sz
  have hg0 := h.g0
  have hlo : ∀ g, v.ownBlock = some g → w.heap.size + 2 ≤ g := fun g hv => (Cl.Own.lt h.own g hv).1
  have hblk : ∀ k, k < w.heap.size + 2 → W'.heap[k]? = wr.heap[k]? := fun k hk => hg.block k (by omega) fun e => by have := hlo k e.symm; omega
  have hg2 := grown_set W' w.heap.size 2 v'
  obtain ⟨⟨a0, r1, r2, r3⟩, m, hm⟩ := h.rd
  have hrd : Rd W' X s rk E O := ⟨⟨a0, r1, r2, (hblk X (by omega)).trans r3⟩, m, (World.cell?_of_block (a := ⟨0, 0, none⟩) (hblk 0 (by omega))).trans hm⟩
  have hgr : w.grownBy W' (some X) := by
    obtain ⟨g1, g2, g3, g4, g5⟩ := h.gr
    exact ⟨hg.1.trans g1, hg.2.trans g2, hg.3.trans g3, Nat.le_trans g4 hg.size, fun k hk hne => (hblk k (by omega)).trans (g5 k hk hne)⟩
  exact ⟨hrd.far (by omega) (by omega) _, grown_at hgr (Nat.le_refl _) _, set_blk ((hblk _ (by omega)).trans h.b0) _, (heap_setCell_other W' ⟨w.heap.size, 2, none⟩ _ v' (by show w.heap.size + 1 ≠ w.heap.size; omega)).trans ((hblk _ (by omega)).trans h.b1), by rw [List.length_append]; exact Cl.Own.kept ho hg2 (own_far2 ho (by omega)) fun _ h => h.elim, by rw [List.length_append]; exact hf, hx, Nat.le_trans (Nat.le_trans hz hg.size) hg2.size, h.g0⟩
theorem TgAt.name (h : TgAt w wr X s kd nm E O rk acc v) (nm' : ByteArray) : TgAt w (wr.setCell ⟨w.heap.size, 1, none⟩ (.string nm')) X s kd nm' E O rk acc v := by
  have hx := h.xlt
  have hz := h.sz
  have hg0 := h.g0
  have hg2 := grown_set wr w.heap.size 1 (.string nm')
  exact ⟨h.rd.far (by omega) (by omega) _, grown_at h.gr (Nat.le_refl _) _, set_blk h.b0 _, (heap_setCell_other wr ⟨w.heap.size, 1, none⟩ _ _ (by show w.heap.size + 1 ≠ w.heap.size; omega)).trans h.b1, Cl.Own.kept h.own hg2 (own_far2 h.own (by omega)) fun _ h => h.elim, h.few, hx, Nat.le_trans hz hg2.size, h.g0⟩
end
theorem Rd.left {w : World} {X : Nat} {s : ByteArray} {r : List UInt8} {E : Int} {O : Value} (h : Rd w X s r E O) : s.size - atOf w X = r.length := by
  obtain ⟨a, ha, hr, hc⟩ := h.at_
  have := drop_len ha hr
  rw [hc.at_]
  omega
theorem flatTDA : Flat tDA := flatPair flatStr flatStr
theorem elemTDA : ElemOf Tryz.prog 44 141 tDA.size 32 := elemDA
theorem attrL_len (l : List UInt8) : (attrL l).length ≤ 40 := by
  have h := nameL_len l
  unfold attrL
  cases hn : nameL l with
  | nil => exact Nat.zero_le _
  | cons c t =>
    rw [hn, List.length_cons] at h
    dsimp only
    split <;> (rw [List.length_cons]; exact h)
theorem attrF_small (b : UInt8) (t : List UInt8) : (attrF b t).1.1.size ≤ 40 ∧ (attrF b t).1.2.size ≤ 4 * t.length := by
  have h0 := attrL_len (b :: t.takeWhile anB)
  unfold attrF
  split
  · refine ⟨h0, ?_⟩
    have h1 := readL_len (bs (valueF (attrEnd t).tail).1) true
    have h2 := valueF_fst (attrEnd t).tail
    have h3 := dropW_le blankB (t.dropWhile anB)
    have h4 := dropW_le anB t
    rw [List.length_tail] at h2
    unfold attrEnd at h2
    have h5 : (bs (valueF (attrEnd t).tail).1).size = (valueF (attrEnd t).tail).1.length := rfl
    unfold attrEnd at h1 h5 ⊢
    show (ByteArray.mk (readL (bs (valueF ((t.dropWhile anB).dropWhile blankB).tail).1) true).toArray).size ≤ _
    omega
  · exact ⟨h0, Nat.zero_le _⟩
theorem suf47 (l : List UInt8) : Lib.hasSuffix l [47] = (l.getLast? == some 47) := by
  rw [Bool.eq_iff_iff]
  unfold Lib.hasSuffix
  rw [List.isSuffixOf_iff_suffix, beq_iff_eq, List.getLast?_eq_some_iff]
  exact ⟨fun ⟨t, h⟩ => ⟨t, h.symm⟩, fun ⟨t, h⟩ => ⟨t, h.symm⟩⟩
/-- A token is stored in a box. -/
abbrev put7 (W : World) (Z : Nat) (c0 c1 c2 c3 c4 c5 c6 : Value) : World := ((((((W.setCell ⟨Z, 0, none⟩ c0).setCell ⟨Z, 1, none⟩ c1).setCell ⟨Z, 2, none⟩ c2).setCell ⟨Z, 3, none⟩ c3).setCell ⟨Z, 4, none⟩ c4).setCell ⟨Z, 5, none⟩ c5).setCell ⟨Z, 6, none⟩ c6
section
variable {w W : World} {Z : Nat} {c0 c1 c2 c3 c4 c5 c6 x0 x1 x2 x3 x4 x5 x6 : Value}
theorem put7_blk {T : TypeId} (h : W.heap[Z]? = some (.cells #[x0, x1, x2, x3, x4, x5, x6] T (0, 0))) : (put7 W Z c0 c1 c2 c3 c4 c5 c6).heap[Z]? = some (.cells #[c0, c1, c2, c3, c4, c5, c6] T (0, 0)) := by
  have h0 : (W.setCell ⟨Z, 0, none⟩ c0).heap[Z]? = some (.cells #[c0, x1, x2, x3, x4, x5, x6] T (0, 0)) := set_blk (i := 0) h c0
  have h1 : ((W.setCell ⟨Z, 0, none⟩ c0).setCell ⟨Z, 1, none⟩ c1).heap[Z]? = some (.cells #[c0, c1, x2, x3, x4, x5, x6] T (0, 0)) := set_blk (i := 1) h0 c1
  have h2 : (((W.setCell ⟨Z, 0, none⟩ c0).setCell ⟨Z, 1, none⟩ c1).setCell ⟨Z, 2, none⟩ c2).heap[Z]? = some (.cells #[c0, c1, c2, x3, x4, x5, x6] T (0, 0)) := set_blk (i := 2) h1 c2
  have h3 : ((((W.setCell ⟨Z, 0, none⟩ c0).setCell ⟨Z, 1, none⟩ c1).setCell ⟨Z, 2, none⟩ c2).setCell ⟨Z, 3, none⟩ c3).heap[Z]? = some (.cells #[c0, c1, c2, c3, x4, x5, x6] T (0, 0)) := set_blk (i := 3) h2 c3
  have h4 : (((((W.setCell ⟨Z, 0, none⟩ c0).setCell ⟨Z, 1, none⟩ c1).setCell ⟨Z, 2, none⟩ c2).setCell ⟨Z, 3, none⟩ c3).setCell ⟨Z, 4, none⟩ c4).heap[Z]? = some (.cells #[c0, c1, c2, c3, c4, x5, x6] T (0, 0)) := set_blk (i := 4) h3 c4
  have h5 : ((((((W.setCell ⟨Z, 0, none⟩ c0).setCell ⟨Z, 1, none⟩ c1).setCell ⟨Z, 2, none⟩ c2).setCell ⟨Z, 3, none⟩ c3).setCell ⟨Z, 4, none⟩ c4).setCell ⟨Z, 5, none⟩ c5).heap[Z]? = some (.cells #[c0, c1, c2, c3, c4, c5, x6] T (0, 0)) := set_blk (i := 5) h4 c5
  have h6 : (((((((W.setCell ⟨Z, 0, none⟩ c0).setCell ⟨Z, 1, none⟩ c1).setCell ⟨Z, 2, none⟩ c2).setCell ⟨Z, 3, none⟩ c3).setCell ⟨Z, 4, none⟩ c4).setCell ⟨Z, 5, none⟩ c5).setCell ⟨Z, 6, none⟩ c6).heap[Z]? = some (.cells #[c0, c1, c2, c3, c4, c5, c6] T (0, 0)) := set_blk (i := 6) h5 c6
  exact h6
theorem put7_grown {row : Option Nat} (h : w.grownBy W row) (hZ : w.heap.size ≤ Z) : w.grownBy (put7 W Z c0 c1 c2 c3 c4 c5 c6) row :=
  grown_at (grown_at (grown_at (grown_at (grown_at (grown_at (grown_at h hZ _) hZ _) hZ _) hZ _) hZ _) hZ _) hZ _
theorem put7_in : W.grownBy (put7 W Z c0 c1 c2 c3 c4 c5 c6) (some Z) :=
  ((((((grown_set W Z 0 c0).trans (grown_set _ Z 1 c1)).trans (grown_set _ Z 2 c2)).trans (grown_set _ Z 3 c3)).trans (grown_set _ Z 4 c4)).trans (grown_set _ Z 5 c5)).trans (grown_set _ Z 6 c6)
theorem put7_rd {X : Nat} {s : ByteArray} {r : List UInt8} {E : Int} {O : Value} (h : Rd W X s r E O) (hX : X ≠ Z) (h0 : Z ≠ 0) : Rd (put7 W Z c0 c1 c2 c3 c4 c5 c6) X s r E O :=
  ((((((h.far hX h0 _).far hX h0 _).far hX h0 _).far hX h0 _).far hX h0 _).far hX h0 _).far hX h0 _
theorem put7_own {α : Type} {T : Ty α} {base : Nat} {e : TypeId} {v : Value} {n : Nat} {xs : List α} (h : OwnF T W base e v n xs) (hZ : Z < base) : OwnF T (put7 W Z c0 c1 c2 c3 c4 c5 c6) base e v n xs :=
  Cl.Own.kept h put7_in (own_far2 h hZ) fun _ h => h.elim
end
/-- What tag tells. -/
def TagPost (X : Nat) (s : ByteArray) (r : List UInt8) (kd : Int) (E : Int) (O : Value) (w : World) (e : Ending) (w' : World) : Prop :=
  w.grownBy w' (some X) ∧ match tagF [] (r.dropWhile tagB) with
    | none => (∃ nm A n c, e = .returned (.tuple #[.agg (tokC kd nm (.slice A n c) ⟨#[]⟩ false 0 0), .bool false])) ∧ Rd w' X s [] E O
    | some (acc, self, r2) => ∃ v, e = .returned (.tuple #[.agg (tokC kd (bs (nameL (r.takeWhile tagB))) v ⟨#[]⟩ self 0 0), .bool true]) ∧ OwnF tDA w' w.heap.size 141 v acc.length acc ∧ Rd w' X s r2 E O
set_option maxRecDepth 100000 in
set_option maxHeartbeats 4000000 in
theorem tkTag_any (X : Nat) (s : ByteArray) (r : List UInt8) (kd : Int) (E : Int) (O : Value) (w : World) (hs : s.size ≤ 1000000) (h : Rd w X s r E O) :
    Calls Tryz.prog 107 #[.pointer (some ⟨X, 0, none⟩), .agg (tokC kd ⟨#[]⟩ (.slice none 0 0) ⟨#[]⟩ false 0 0)] w (TagPost X s r kd E O w) := by
  have hG0 := h.mxlt
  obtain ⟨w0, hw0⟩ : ∃ w0, w0 = w.alloc (.cells (tokC kd ⟨#[]⟩ (.slice none 0 0) ⟨#[]⟩ false 0 0) 76) := ⟨_, rfl⟩
  obtain ⟨w1, hw1⟩ : ∃ w1, w1 = w0.alloc (.cells (tokC 0 ⟨#[]⟩ (.slice none 0 0) ⟨#[]⟩ false 0 0) 76) := ⟨_, rfl⟩
  have z0 : w0.heap.size = w.heap.size + 1 := by rw [hw0]; exact World.size_alloc w _
  have z1 : w1.heap.size = w.heap.size + 2 := by rw [hw1, World.size_alloc, z0]
  have hb1 : Below w.heap.size w w1 := by rw [hw1, hw0]; exact tal (tal (Below.refl _ _) _) _
  have hx0 : w1.heap[w.heap.size]? = some (.cells (tokC kd ⟨#[]⟩ (.slice none 0 0) ⟨#[]⟩ false 0 0) 76 (0, 0)) := by rw [hw1, Lib.alloc_old _ _ _ (by omega), hw0]; exact heap_alloc_new w _
  have hx1 : w1.heap[w.heap.size + 1]? = some (.cells (tokC 0 ⟨#[]⟩ (.slice none 0 0) ⟨#[]⟩ false 0 0) 76 (0, 0)) := by rw [hw1, ← z0]; exact heap_alloc_new w0 _
  have hdl : r.length ≤ s.size := by obtain ⟨a, ha, hr, _⟩ := h.at_; have := drop_len ha hr; omega
  have hX : X < w.heap.size := by obtain ⟨a, ha, hr, hc⟩ := h.at_; exact hc.lt
  have HA0 := Lib.hid (show TgAt w w1 X s kd ⟨#[]⟩ E O r [] (.slice none 0 0) from ⟨h.next hb1, grown_below hb1 _, hx0, hx1, OwnF.nil _ _ _, by simpa using hdl, hX, by omega, hG0⟩)
  have HU1 := Lib.hid (until_rd 145 tagB (enters_of Tryz.func145 (by kernel_rfl) rfl) tagStop_any X s r E O w1 hs HA0.out.rd)
  have HU2 := Lib.hid (fun (r' : List UInt8) (u : World) (h : Rd u X s r' E O) => until_rd 146 skipB (enters_of Tryz.func146 (by kernel_rfl) rfl) skipNot_any X s r' E O u hs h)
  obtain ⟨nm, hnm⟩ : ∃ nm, nm = bs (nameL (r.takeWhile tagB)) := ⟨_, rfl⟩
  have HNA := Lib.hid (fun (u : World) => (hnm ▸ tkName_any ⟨(r.takeWhile tagB).toArray⟩ u : Calls Tryz.prog 77 #[.string ⟨(r.takeWhile tagB).toArray⟩] u fun e w' => e = .returned (.string nm) ∧ Below u.heap.size u w'))
  have HNM := Lib.hid hnm
  clear hnm
  have HZ := Lib.hid (show w0.heap.size = w.heap.size + 1 ∧ w1.heap.size = w.heap.size + 2 from ⟨z0, z1⟩)
  have HTX : Hid (X < w.heap.size) := hX
  clear z0 z1 hb1 hx0 hx1 hdl h hX
  go_enter Tryz.func107, Tryz.ntmps107
  go_upto_region 1 with fail
  rw [← hw0, ← hw1]
  clear hw0 hw1
  go_upto_region 2 with (first
    | (go_at_call 144; refine HU1.out.mono ?_; rintro e w2 ⟨rfl, hg2, hr2⟩)
    | (go_at_call 77; refine (HNA.out _).mono ?_; rintro e w3 ⟨rfl, hb3⟩; have hA3 := (HA0.out.go hg2 hr2 (dropW_le _ _)).next hb3; have fb1 := free_blk (i := 1) hA3.b0; have cb1 := cell_blk (i := 1) hA3.b0 rfl; have HA3 := Lib.hid hA3; clear hA3 hg2 hr2 hb3))
  have HA4 := Lib.hid (HA3.out.name nm)
  clear cb1 fb1
  go_loopw [] (fun wr => ∃ rk acc v, Hid (TgAt w wr X s kd nm E O rk acc v) ∧ Hid (tagF [] (r.dropWhile tagB) = tagF acc rk)) (fun wr => s.size - atOf wr X)
  case atStart => exact ⟨_, _, _, HA4, Lib.hid rfl⟩
  case round =>
    obtain ⟨rk, acc, v, HA, HT⟩ := hrel
    obtain ⟨A, cp, rfl⟩ := Cl.Own.form HA.out.own
    have HLF := Lib.hid HA.out.rd.left
    have hstep := tagF_step acc rk
    have HUS := Lib.hid (HU2.out rk wr HA.out.rd)
    cases hd : rk.dropWhile skipB with
    | nil =>
      rw [hd] at hstep HUS
      have HN := Lib.hid (show tagF [] (r.dropWhile tagB) = none from by rw [HT.out, hstep])
      clear hstep hd
      go_upto_region 3 with (go_at_call 144; refine HUS.out.mono ?_; rintro e w5 ⟨rfl, hg5, hr5⟩)
      have HA5 := Lib.hid (HA.out.go hg5 hr5 (Nat.zero_le _))
      have hc := hr5.nil
      have c0 := hc.c0
      have c1 := hc.c1
      clear hc hg5 hr5
      go_quiet (fail)
      have b0 := cell_blk (i := 0) HA5.out.b0 rfl
      have b1 := cell_blk (i := 1) HA5.out.b0 rfl
      have b2 := cell_blk (i := 2) HA5.out.b0 rfl
      have b3 := cell_blk (i := 3) HA5.out.b0 rfl
      have b4 := cell_blk (i := 4) HA5.out.b0 rfl
      have b5 := cell_blk (i := 5) HA5.out.b0 rfl
      have b6 := cell_blk (i := 6) HA5.out.b0 rfl
      have d0 := cell_blk (i := 0) HA5.out.b1 rfl
      have d1 := cell_blk (i := 1) HA5.out.b1 rfl
      have d2 := cell_blk (i := 2) HA5.out.b1 rfl
      have d3 := cell_blk (i := 3) HA5.out.b1 rfl
      have d4 := cell_blk (i := 4) HA5.out.b1 rfl
      have d5 := cell_blk (i := 5) HA5.out.b1 rfl
      have d6 := cell_blk (i := 6) HA5.out.b1 rfl
      have fd0 := free_blk (i := 0) HA5.out.b1
      have fd1 := free_blk (i := 1) HA5.out.b1
      have fd2 := free_blk (i := 2) HA5.out.b1
      have fd3 := free_blk (i := 3) HA5.out.b1
      have fd4 := free_blk (i := 4) HA5.out.b1
      have fd5 := free_blk (i := 5) HA5.out.b1
      have fd6 := free_blk (i := 6) HA5.out.b1
      go_wp2_with fail
      have hA6 := HA5.out.next (tdrewN w5 nq)
      have hF := put7_blk (c0 := .int .i64 kd) (c1 := .string nm) (c2 := .slice A acc.length cp) (c3 := .string ⟨#[]⟩) (c4 := .bool false) (c5 := .int .i64 0) (c6 := .int .i64 0) hA6.b1
      have cF0 := cell_blk (i := 0) hF rfl
      have cF1 := cell_blk (i := 1) hF rfl
      have cF2 := cell_blk (i := 2) hF rfl
      have cF3 := cell_blk (i := 3) hF rfl
      have cF4 := cell_blk (i := 4) hF rfl
      have cF5 := cell_blk (i := 5) hF rfl
      have cF6 := cell_blk (i := 6) hF rfl
      have hX0 := HTX.out
      refine bodyPost_ret (v := .tuple #[.agg (tokC kd nm (.slice A acc.length cp) ⟨#[]⟩ false 0 0), .bool false]) ?_ rfl ⟨put7_grown hA6.gr (by omega), by rw [HN.out]; exact ⟨⟨_, _, _, _, rfl⟩, put7_rd hA6.rd (by omega) (by omega)⟩⟩
      clear hF hA6
      simp [results, Tryz.results107, go_sem, cF0, cF1, cF2, cF3, cF4, cF5, cF6]
    | cons q t =>
      rw [hd] at hstep HUS
      have hle := dropW_le skipB rk
      rw [hd] at hle
      have HLE := Lib.hid hle
      have HSP := Lib.hid hstep
      have HAT := Lib.hid (fun (u : World) (h : Rd u X s (q :: t) E O) => tkAttr_any X s q t E O u hs h)
      have HSF := Lib.hid (fun (u : World) => Tryz.strings_HasSuffix ⟨(rk.takeWhile skipB).toArray⟩ ⟨#[47]⟩ u (by have h1 := take_le skipB rk; have h2 := HA.out.few; show (rk.takeWhile skipB).length ≤ _; omega))
      have hsf : Lib.hasSuffix (⟨(rk.takeWhile skipB).toArray⟩ : ByteArray).data.toList (⟨#[47]⟩ : ByteArray).data.toList = ((rk.takeWhile skipB).getLast? == some 47) := suf47 _
      rw [hsf] at HSF
      clear hstep hd hsf
      go_upto_region 3 with (go_at_call 144; refine HUS.out.mono ?_; rintro e w5 ⟨rfl, hg5, hr5⟩)
      have HA5 := Lib.hid (HA.out.go hg5 hr5 hle)
      obtain ⟨⟨a5, ha5, hra5, hc5⟩, hm5⟩ := hr5
      obtain ⟨hlt5, hsa5, hr6⟩ := at_head hra5
      have c0 := hc5.c0
      have c1 := hc5.c1
      have f1 := hc5.fr 1
      have j0 : (0 : Int) ≤ (a5 : Int) := by omega
      have j1 : (a5 : Int) < (s.size : Int) := by omega
      have g1 : ((a5 : Int) == (s.size : Int)) = false := beq_eq_false_iff_ne.2 (by omega)
      have g2 : ¬ (a5 : Int) = (s.size : Int) := by omega
      have g3 : ¬ a5 = s.size := by omega
      have HST6 := Lib.hid fun (k : Nat) => Rd.step (w := w5.drewN k) (n := (a5 : Int) + 1) (b := a5 + 1) (by omega) (by omega) hr6 hc5 hm5
      have HSA := Lib.hid hsa5
      clear hg5 hle ha5 hra5 hc5 hm5 hr6 hsa5
      go_quiet (fail)
      go_upto_region 5 with fail
      by_cases h62 : q = 62
      · subst h62
        have HS2 := Lib.hid (show tagF [] (r.dropWhile tagB) = some (acc, (rk.takeWhile skipB).getLast? == some 47, t) from by rw [HT.out, HSP.out]; rfl)
        have e62 : ((s[a5].toNat : Int) == 62) = true := by rw [HSA.out]; rfl
        have p62 : 62 ≤ s[a5].toNat := by rw [HSA.out]; decide
        have p63 : s[a5].toNat ≤ 62 := by rw [HSA.out]; decide
        generalize ((rk.takeWhile skipB).getLast? == some 47) = self at *
        go_quiet (fail)
        go_upto_region 7 with fail
        go_wp2_with (go_at_call 147; refine (HSF.out _).mono ?_; rintro e w6 ⟨rfl, hw6⟩; have hA6 : TgAt w w6 X s kd nm E O t acc (.slice A acc.length cp) := (by rw [hw6]; exact (HA5.out.next (tdrewN _ _)).go (HST6.out _).2 (HST6.out _).1 (by simp)); clear hw6; have HA6 := Lib.hid hA6; clear hA6 c0 c1 f1; have b0 := cell_blk (i := 0) HA6.out.b0 rfl; have b1 := cell_blk (i := 1) HA6.out.b0 rfl; have b2 := cell_blk (i := 2) HA6.out.b0 rfl; have b3 := cell_blk (i := 3) HA6.out.b0 rfl; have b4 := cell_blk (i := 4) HA6.out.b0 rfl; have b5 := cell_blk (i := 5) HA6.out.b0 rfl; have b6 := cell_blk (i := 6) HA6.out.b0 rfl; have d0 := cell_blk (i := 0) HA6.out.b1 rfl; have d1 := cell_blk (i := 1) HA6.out.b1 rfl; have d2 := cell_blk (i := 2) HA6.out.b1 rfl; have d3 := cell_blk (i := 3) HA6.out.b1 rfl; have d4 := cell_blk (i := 4) HA6.out.b1 rfl; have d5 := cell_blk (i := 5) HA6.out.b1 rfl; have d6 := cell_blk (i := 6) HA6.out.b1 rfl; have fd0 := free_blk (i := 0) HA6.out.b1; have fd1 := free_blk (i := 1) HA6.out.b1; have fd2 := free_blk (i := 2) HA6.out.b1; have fd3 := free_blk (i := 3) HA6.out.b1; have fd4 := free_blk (i := 4) HA6.out.b1; have fd5 := free_blk (i := 5) HA6.out.b1; have fd6 := free_blk (i := 6) HA6.out.b1; have fb4 := free_blk (i := 4) HA6.out.b0)
        have hX0 := HTX.out
        have hg4 := grown_set w6 w.heap.size 4 (.bool self)
        have hF := put7_blk (c0 := .int .i64 kd) (c1 := .string nm) (c2 := .slice A acc.length cp) (c3 := .string ⟨#[]⟩) (c4 := .bool self) (c5 := .int .i64 0) (c6 := .int .i64 0) ((heap_setCell_other w6 ⟨w.heap.size, 4, none⟩ (w.heap.size + 1) (.bool self) (by show w.heap.size + 1 ≠ w.heap.size; omega)).trans HA6.out.b1)
        have cF0 := cell_blk (i := 0) hF rfl
        have cF1 := cell_blk (i := 1) hF rfl
        have cF2 := cell_blk (i := 2) hF rfl
        have cF3 := cell_blk (i := 3) hF rfl
        have cF4 := cell_blk (i := 4) hF rfl
        have cF5 := cell_blk (i := 5) hF rfl
        have cF6 := cell_blk (i := 6) hF rfl
        refine bodyPost_ret (v := .tuple #[.agg (tokC kd nm (.slice A acc.length cp) ⟨#[]⟩ self 0 0), .bool true]) ?_ rfl ⟨put7_grown (grown_at HA6.out.gr (Nat.le_refl _) _) (by omega), by rw [HS2.out]; exact ⟨_, by rw [HNM.out], Cl.Own.down (put7_own (Cl.Own.kept HA6.out.own hg4 (own_far2 HA6.out.own (by omega)) fun _ h => h.elim) (by omega)) (by omega), put7_rd (HA6.out.rd.far (by omega) (by omega) _) (by omega) (by omega)⟩⟩
        clear hF hg4
        simp [results, Tryz.results107, go_sem, cF0, cF1, cF2, cF3, cF4, cF5, cF6]
      · have HS2 := Lib.hid (show tagF [] (r.dropWhile tagB) = tagF (addA acc (attrF q t).1) (attrF q t).2 from by rw [HT.out, HSP.out]; exact if_neg h62)
        have e62 : ((s[a5].toNat : Int) == 62) = false := by rw [HSA.out]; exact u8_ne (c := 62) (by decide) h62
        have p62 : ¬ s[a5].toNat = 62 := by rw [HSA.out]; exact fun e => h62 (UInt8.toNat_inj.1 e)
        have HAL := Lib.hid (attr_le q t)
        have hsm := attrF_small q t
        obtain ⟨⟨aN, aV⟩, aR, haR⟩ : ∃ (x : DAttr) (y : List UInt8), attrF q t = (x, y) := ⟨_, _, rfl⟩
        rw [haR] at HS2 HAT HAL hsm
        have HSM := Lib.hid (show aN.size ≤ 1152921504606846976 ∧ aV.size ≤ 1152921504606846976 from by have h1 := HA5.out.few; rw [List.length_cons] at h1; obtain ⟨h2, h3⟩ := hsm; dsimp only at h2 h3; omega)
        clear haR h62 hsm
        go_quiet (fail)
        go_upto_region 10 with (go_at_call 148; refine (HAT.out _ (HA5.out.rd.next (tdrewN _ _))).mono ?_; rintro e w6 ⟨rfl, hg6, hr6⟩; have hA6 : TgAt w w6 X s kd nm E O aR acc (.slice A acc.length cp) := (HA5.out.next (tdrewN _ _)).go hg6 hr6 (by have := HAL.out; dsimp only at this; rw [List.length_cons]; omega); have HA6 := Lib.hid hA6; clear hg6 hr6 hA6)
        obtain ⟨w7, hw7⟩ : ∃ w7, w7 = w6.alloc (.cells #[.string aN, .string aV] 141) := ⟨_, rfl⟩
        rw [← hw7]
        have hb7 : Below w6.heap.size w6 w7 := by rw [hw7]; exact tal (Below.refl _ _) _
        have HB7 := Lib.hid (show w7.heap[w6.heap.size]? = some (.cells #[.string aN, .string aV] 141 (0, 0)) from by rw [hw7]; exact heap_alloc_new w6 _)
        have HA7 := Lib.hid (HA6.out.next hb7)
        clear hw7 hb7 c0 c1 f1
        have hfew : acc.length ≤ 1000000 := by have := HA7.out.few; omega
        obtain ⟨A', c', e', hsl⟩ := OwnF.sl (T := tDA) HA7.out.own (by decide) (by show acc.length * 32 ≤ _; omega)
        injection e' with e1 e2 e3
        subst e1
        subst e3
        have HCF := Lib.hid (hasT_any w6.heap.size aN A acc.length cp acc w7 w7.heap.size hsl (Nat.le_refl _) (cell_blk (i := 0) HB7.out rfl))
        have b2 := cell_blk (i := 2) HA7.out.b0 rfl
        clear hsl e2
        cases hany : acc.any (fun b => b.1.toList == aN.toList) with
        | true =>
          rw [hany] at HCF
          have HS3 := Lib.hid (show tagF [] (r.dropWhile tagB) = tagF acc aR from by rw [HS2.out]; unfold addA; rw [if_pos hany])
          clear hany
          go_wp2_with (go_at_call 149; refine HCF.out.mono ?_; rintro e w8 ⟨rfl, hb8⟩; have HA8 := Lib.hid (HA7.out.next hb8); clear hb8)
          refine ⟨⟨aR, acc, _, HA8, HS3⟩, ?_⟩
          show s.size - atOf _ X < s.size - atOf wr X
          rw [HA8.out.rd.left, HLF.out]
          have h1 := HAL.out
          have h2 := HLE.out
          rw [List.length_cons] at h2
          show aR.length < rk.length
          have h3 : aR.length ≤ t.length := h1
          omega
        | false =>
          rw [hany] at HCF
          have HS3 := Lib.hid (show tagF [] (r.dropWhile tagB) = tagF (acc ++ [(aN, aV)]) aR from by rw [HS2.out]; unfold addA; rw [if_neg (by rw [hany]; simp)])
          clear hany
          have hTE : ∀ (u : World), Below w7.heap.size w7 u → u.cell? ⟨w6.heap.size, 0, none⟩ = some (.string aN) ∧ u.cell? ⟨w6.heap.size, 1, none⟩ = some (.string aV) := fun u hu => ⟨cell_be (cell_blk (i := 0) HB7.out rfl) hu, cell_be (cell_blk (i := 1) HB7.out rfl) hu⟩
          have HTE := Lib.hid hTE
          clear hTE
          go_wp2_with (first
            | (go_at_call 149; refine HCF.out.mono ?_; rintro e w8 ⟨rfl, hb8⟩; have HA8 := Lib.hid (HA7.out.next hb8); have HT8 := Lib.hid (HTE.out _ hb8); obtain ⟨a0, a1⟩ := HTE.out _ hb8; have b2 := cell_blk (i := 2) HA8.out.b0 rfl; clear hb8)
            | (at_builtin; go_loud (refine wpList_apf _ flatTDA rfl (.tmp 54) (.tmp 56) 44 rfl elemTDA (v := .slice A acc.length cp) rfl (HA8.out.next (tal (Below.refl _ _) _)).own rfl (Sl.one_new flatTDA w8 141 (x := (aN, aV)) (cs := [.string aN, .string aV]) ⟨[_], [_], rfl, ⟨rfl, HSM.out.1⟩, rfl, HSM.out.2⟩ (by decide)) (by omega) (by omega) (HA8.out.next (tal (Below.refl _ _) _)).sz ?_); intro v9 w9 ho9 hg9 hb9 _; have HA9 := Lib.hid (HA8.out.next (tal (Below.refl _ _) (.cells #[.string aN, .string aV] 141))); have hB0 := (hb9.block w.heap.size (by omega)).trans HA9.out.b0; have fb2 := free_blk (i := 2) hB0; have cb2 := cell_blk (i := 2) hB0 rfl; have HO9 := Lib.hid ho9; have HG9 := Lib.hid hg9; obtain ⟨A9, c9, rfl⟩ := Cl.Own.form ho9; clear ho9 hg9 hb9 hB0))
          have h1 := HAL.out
          have h2 := HLE.out
          rw [List.length_cons] at h2
          have h3 : aR.length ≤ t.length := h1
          have HA10 := Lib.hid (HA9.out.put (a := (aN, aV)) HG9.out HO9.out (by have := HA.out.few; omega))
          refine ⟨⟨aR, acc ++ [(aN, aV)], _, HA10, HS3⟩, ?_⟩
          rw [HA10.out.rd.left, HLF.out]
          omega
end Go.Proofs.YtegcedboeemedaaGreatDoor

/-
Tokens: the reader's comment and markup.
-/
namespace Go.Proofs.YtegcedboeemedaaGreatDoor
open Go.RowKit Go.Cl
attribute [local go_sem ↓] Go.wp_at_zero Go.wp_at_succ
set_option maxRecDepth 100000 in
set_option maxHeartbeats 4000000 in
theorem tkComment_any (X : Nat) (s : ByteArray) (r : List UInt8) (mark : ByteArray) (E : Int) (O : Value) (w : World) (hs : s.size ≤ 1000000) (hmk : mark.size ≤ 1000) (h : Rd w X s r E O) :
    Calls Tryz.prog 106 #[.pointer (some ⟨X, 0, none⟩), .string mark] w fun e w' => e = .returned (.tuple #[.agg (tokC 4 ⟨#[]⟩ (.slice none 0 0) (bs (Lib.cut r mark.data.toList).1) false 0 0), .bool (Lib.cut r mark.data.toList).2.2]) ∧ w.grownBy w' (some X) ∧ Rd w' X s (Lib.cut r mark.data.toList).2.1 E O := by
  have hG0 := h.mxlt
  have hX : X < w.heap.size := by obtain ⟨a, ha, hr, hc⟩ := h.at_; exact hc.lt
  have HTX : Hid (X < w.heap.size) := hX
  obtain ⟨w1, hw1⟩ : ∃ w1, w1 = w.alloc (.cells (tokC 4 ⟨#[]⟩ (.slice none 0 0) ⟨#[]⟩ false 0 0) 76) := ⟨_, rfl⟩
  have hb1 : Below w.heap.size w w1 := by rw [hw1]; exact tal (Below.refl _ _) _
  have HX1 := Lib.hid (show w1.heap[w.heap.size]? = some (.cells (tokC 4 ⟨#[]⟩ (.slice none 0 0) ⟨#[]⟩ false 0 0) 76 (0, 0)) from by rw [hw1]; exact heap_alloc_new w _)
  have HB1 := Lib.hid hb1
  have HPA := Lib.hid (past_any X s r mark E O w1 hs hmk (h.next hb1))
  generalize Lib.cut r mark.data.toList = ct at *
  obtain ⟨c1, c2, c3⟩ := ct
  clear hb1 h hX
  go_enter Tryz.func106, Tryz.ntmps106
  go_upto_region 2 with fail
  rw [← hw1]
  clear hw1
  go_wp2_with (go_at_call 142; refine HPA.out.mono ?_; rintro e w2 ⟨rfl, hg2, hr2⟩; have hB2 := (hg2.block w.heap.size (Array.getElem?_eq_some_iff.1 HX1.out).1 (by have := HTX.out; simp; omega)).trans HX1.out; have HB2 := Lib.hid hB2; have HG2 := Lib.hid ((grown_below HB1.out (some X)).trans hg2); have HR2 := Lib.hid hr2; clear hB2 hg2 hr2; have b0 := cell_blk (i := 0) HB2.out rfl; have b1 := cell_blk (i := 1) HB2.out rfl; have b2 := cell_blk (i := 2) HB2.out rfl; have b3 := cell_blk (i := 3) HB2.out rfl; have b4 := cell_blk (i := 4) HB2.out rfl; have b5 := cell_blk (i := 5) HB2.out rfl; have b6 := cell_blk (i := 6) HB2.out rfl; have f0 := free_blk (i := 0) HB2.out; have f1 := free_blk (i := 1) HB2.out; have f2 := free_blk (i := 2) HB2.out; have f3 := free_blk (i := 3) HB2.out; have f4 := free_blk (i := 4) HB2.out; have f5 := free_blk (i := 5) HB2.out; have f6 := free_blk (i := 6) HB2.out)
  have hX0 := HTX.out
  have hF := put7_blk (c0 := .int .i64 4) (c1 := .string ⟨#[]⟩) (c2 := .slice none 0 0) (c3 := .string ⟨c1.toArray⟩) (c4 := .bool false) (c5 := .int .i64 0) (c6 := .int .i64 0) (set_blk (i := 3) HB2.out (.string ⟨c1.toArray⟩))
  have cF0 := cell_blk (i := 0) hF rfl
  have cF1 := cell_blk (i := 1) hF rfl
  have cF2 := cell_blk (i := 2) hF rfl
  have cF3 := cell_blk (i := 3) hF rfl
  have cF4 := cell_blk (i := 4) hF rfl
  have cF5 := cell_blk (i := 5) hF rfl
  have cF6 := cell_blk (i := 6) hF rfl
  refine bodyPost_ret (v := .tuple #[.agg (tokC 4 ⟨#[]⟩ (.slice none 0 0) (bs c1) false 0 0), .bool c3]) ?_ rfl ⟨rfl, put7_grown (grown_at HG2.out (Nat.le_refl _) _) (Nat.le_refl _), put7_rd (HR2.out.far (by omega) (by omega) _) (by omega) (by omega)⟩
  clear hF
  simp [results, Tryz.results106, go_sem, cF0, cF1, cF2, cF3, cF4, cF5, cF6]
  try rfl
end Go.Proofs.YtegcedboeemedaaGreatDoor

/-
Tokens: the reader's markup.
-/
namespace Go.Proofs.YtegcedboeemedaaGreatDoor
open Go.RowKit Go.Cl
attribute [local go_sem ↓] Go.wp_at_zero Go.wp_at_succ
theorem tkMarkup_any (X : Nat) (s : ByteArray) (a0 a : Nat) (c : UInt8) (r : List UInt8) (E : Int) (O : Value) (w : World) (hs : s.size ≤ 1000000) (h : Rc w X s a0 E O) (hr : s.data.toList.drop a = c :: r) :
    Calls Tryz.prog 65 #[.pointer (some ⟨X, 0, none⟩), .int .i64 (a : Int)] w fun e w' => e = .returned (.int .u8 ((markF (c :: r)).toNat : Int)) ∧ w' = w := by
  obtain ⟨hlt, hsa, hr1⟩ := at_head hr
  have c0 := h.c0
  have i0 : (0 : Int) ≤ (a : Int) := by omega
  have i1 : (a : Int) < (s.size : Int) := by omega
  have w1 : IntKind.i64.wrap ((a : Int) + 1) = (a : Int) + 1 := IntWalk.i64_in _ (by omega)
  have w2 : IntKind.i64.wrap ((a : Int) + 2) = (a : Int) + 2 := IntWalk.i64_in _ (by omega)
  have n1 : ((a : Int) + 1).toNat = a + 1 := by omega
  have HSA := Lib.hid hsa
  by_cases h60 : c = 60
  · subst h60
    have e60 : ((s[a].toNat : Int) == 60) = true := by rw [hsa]; rfl
    have n60n : ((s[a].toNat : Int) != 60) = false := by rw [hsa]; rfl
    have p60 : 60 ≤ s[a].toNat := by rw [hsa]; decide
    have p602 : s[a].toNat ≤ 60 := by rw [hsa]; decide
    cases r with
    | nil =>
      have HV := Lib.hid (show markF [60] = 0 from rfl)
      have hz : s.size = a + 1 := by have := drop_len (Nat.le_of_lt hlt) hr; simpa using this.symm
      have g1 : ((a : Int) + 1 == (s.size : Int)) = true := by rw [hz]; simp
      have g2 : (s.size : Int) = (a : Int) + 1 := by omega
      clear hr hr1 hsa h hz
      go_enter Tryz.func65, Tryz.ntmps65
      go_wp2_with fail
      go_ret
      exact ⟨by first | (rw [HV.out]; rfl) | rfl | (rw [HV.out]; exact congrArg (fun x : UInt8 => Ending.returned (.int .u8 (x.toNat : Int))) HSB.out), rfl⟩
    | cons b t =>
      obtain ⟨hlt1, hsb, hr2⟩ := at_head hr1
      have i2 : (a : Int) + 1 < (s.size : Int) := by omega
      have i3 : (0 : Int) ≤ (a : Int) + 1 := by omega
      have g1 : ((a : Int) + 1 == (s.size : Int)) = false := beq_eq_false_iff_ne.2 (by omega)
      have g2 : ¬ (a : Int) + 1 = (s.size : Int) := by omega
      have hmk := mark_cons 60 b t
      have HSB := Lib.hid hsb
      rw [if_neg (by decide)] at hmk
      have HLT := Lib.hid (fun u : World => letter_any s[a + 1] u)
      have hz : a + 1 + 1 + t.length = s.size := by have := drop_len (Nat.le_of_lt hlt1) hr1; rw [List.length_cons] at this; omega
      cases hl : letterB b with
      | true =>
        rw [hsb, hl, ← hsb] at HLT
        have HV := Lib.hid (show markF (60 :: b :: t) = 97 from by rw [hmk, if_pos hl])
        clear hr hr1 hr2 hsa hsb h hz hmk hl
        go_enter Tryz.func65, Tryz.ntmps65
        go_wp2_with (go_at_call 104; refine (HLT.out _).mono ?_; rintro e w3 ⟨rfl, rfl⟩)
        go_ret
        exact ⟨by first | (rw [HV.out]; rfl) | rfl | (rw [HV.out]; exact congrArg (fun x : UInt8 => Ending.returned (.int .u8 (x.toNat : Int))) HSB.out), rfl⟩
      | false =>
        rw [hsb, hl, ← hsb] at HLT
        rw [if_neg (by rw [hl]; decide)] at hmk
        by_cases h33 : b = 33
        · subst h33
          have HV := Lib.hid (show markF (60 :: 33 :: t) = 33 from by rw [hmk]; rfl)
          have e33 : ((s[a + 1].toNat : Int) == 33) = true := by rw [hsb]; rfl
          have n33n : ((s[a + 1].toNat : Int) != 33) = false := by rw [hsb]; rfl
          have p33 : 33 ≤ s[a + 1].toNat := by rw [hsb]; decide
          have p332 : s[a + 1].toNat ≤ 33 := by rw [hsb]; decide
          clear hr hr1 hr2 hsa hsb h hz hmk hl
          go_enter Tryz.func65, Tryz.ntmps65
          go_wp2_with (go_at_call 104; refine (HLT.out _).mono ?_; rintro e w3 ⟨rfl, rfl⟩)
          go_ret
          exact ⟨by first | (rw [HV.out]; rfl) | rfl | (rw [HV.out]; exact congrArg (fun x : UInt8 => Ending.returned (.int .u8 (x.toNat : Int))) HSB.out), rfl⟩
        by_cases h63 : b = 63
        · subst h63
          have HV := Lib.hid (show markF (60 :: 63 :: t) = 63 from by rw [hmk]; rfl)
          have e33 : ((s[a + 1].toNat : Int) == 33) = false := by rw [(And.intro hsb (show (63 : UInt8) ≠ 33 by decide)).1]; exact u8_ne (c := 33) (by decide) (And.intro hsb (show (63 : UInt8) ≠ 33 by decide)).2
          have n33n : ((s[a + 1].toNat : Int) != 33) = true := by simp only [bne, e33]; rfl
          have p33 : ¬ s[a + 1].toNat = 33 := by rw [(And.intro hsb (show (63 : UInt8) ≠ 33 by decide)).1]; exact fun e => (And.intro hsb (show (63 : UInt8) ≠ 33 by decide)).2 (UInt8.toNat_inj.1 e)
          have e63 : ((s[a + 1].toNat : Int) == 63) = true := by rw [hsb]; rfl
          have n63n : ((s[a + 1].toNat : Int) != 63) = false := by rw [hsb]; rfl
          have p63 : 63 ≤ s[a + 1].toNat := by rw [hsb]; decide
          have p632 : s[a + 1].toNat ≤ 63 := by rw [hsb]; decide
          clear hr hr1 hr2 hsa hsb h hz hmk hl
          go_enter Tryz.func65, Tryz.ntmps65
          go_wp2_with (go_at_call 104; refine (HLT.out _).mono ?_; rintro e w3 ⟨rfl, rfl⟩)
          go_ret
          exact ⟨by first | (rw [HV.out]; rfl) | rfl | (rw [HV.out]; exact congrArg (fun x : UInt8 => Ending.returned (.int .u8 (x.toNat : Int))) HSB.out), rfl⟩
        rw [if_neg (not_or.2 ⟨h33, h63⟩)] at hmk
        have e33 : ((s[a + 1].toNat : Int) == 33) = false := by rw [(And.intro hsb h33).1]; exact u8_ne (c := 33) (by decide) (And.intro hsb h33).2
        have n33n : ((s[a + 1].toNat : Int) != 33) = true := by simp only [bne, e33]; rfl
        have p33 : ¬ s[a + 1].toNat = 33 := by rw [(And.intro hsb h33).1]; exact fun e => (And.intro hsb h33).2 (UInt8.toNat_inj.1 e)
        have e63 : ((s[a + 1].toNat : Int) == 63) = false := by rw [(And.intro hsb h63).1]; exact u8_ne (c := 63) (by decide) (And.intro hsb h63).2
        have n63n : ((s[a + 1].toNat : Int) != 63) = true := by simp only [bne, e63]; rfl
        have p63 : ¬ s[a + 1].toNat = 63 := by rw [(And.intro hsb h63).1]; exact fun e => (And.intro hsb h63).2 (UInt8.toNat_inj.1 e)
        by_cases h47 : b = 47
        · subst h47
          have e47 : ((s[a + 1].toNat : Int) == 47) = true := by rw [hsb]; rfl
          have n47n : ((s[a + 1].toNat : Int) != 47) = false := by rw [hsb]; rfl
          have p47 : 47 ≤ s[a + 1].toNat := by rw [hsb]; decide
          have p472 : s[a + 1].toNat ≤ 47 := by rw [hsb]; decide
          cases t with
          | nil =>
            have HV := Lib.hid (show markF [60, 47] = 0 from rfl)
            have g3 : ¬ (a : Int) + 2 < (s.size : Int) := by simp at hz; omega
            clear hr hr1 hr2 hsa hsb h hz hmk hl
            go_enter Tryz.func65, Tryz.ntmps65
            go_wp2_with (go_at_call 104; refine (HLT.out _).mono ?_; rintro e w3 ⟨rfl, rfl⟩)
            go_ret
            exact ⟨by first | (rw [HV.out]; rfl) | rfl | (rw [HV.out]; exact congrArg (fun x : UInt8 => Ending.returned (.int .u8 (x.toNat : Int))) HSB.out), rfl⟩
          | cons d t2 =>
            have HV := Lib.hid (show markF (60 :: 47 :: d :: t2) = 47 from rfl)
            have g3 : (a : Int) + 2 < (s.size : Int) := by rw [List.length_cons] at hz; omega
            clear hr hr1 hr2 hsa hsb h hz hmk hl
            go_enter Tryz.func65, Tryz.ntmps65
            go_wp2_with (go_at_call 104; refine (HLT.out _).mono ?_; rintro e w3 ⟨rfl, rfl⟩)
            go_ret
            exact ⟨by first | (rw [HV.out]; rfl) | rfl | (rw [HV.out]; exact congrArg (fun x : UInt8 => Ending.returned (.int .u8 (x.toNat : Int))) HSB.out), rfl⟩
        have HV := Lib.hid (show markF (60 :: b :: t) = 0 from by rw [hmk, if_neg (fun h => h47 h.1)])
        have e47 : ((s[a + 1].toNat : Int) == 47) = false := by rw [(And.intro hsb h47).1]; exact u8_ne (c := 47) (by decide) (And.intro hsb h47).2
        have n47n : ((s[a + 1].toNat : Int) != 47) = true := by simp only [bne, e47]; rfl
        have p47 : ¬ s[a + 1].toNat = 47 := by rw [(And.intro hsb h47).1]; exact fun e => (And.intro hsb h47).2 (UInt8.toNat_inj.1 e)
        clear hr hr1 hr2 hsa hsb h hz hmk hl h33 h63 h47
        go_enter Tryz.func65, Tryz.ntmps65
        go_wp2_with (go_at_call 104; refine (HLT.out _).mono ?_; rintro e w3 ⟨rfl, rfl⟩)
        go_ret
        exact ⟨by first | (rw [HV.out]; rfl) | rfl | (rw [HV.out]; exact congrArg (fun x : UInt8 => Ending.returned (.int .u8 (x.toNat : Int))) HSB.out), rfl⟩
  · have HV := Lib.hid (show markF (c :: r) = 0 from by cases r with | nil => rfl | cons b t => rw [mark_cons, if_pos h60])
    have e60 : ((s[a].toNat : Int) == 60) = false := by rw [(And.intro hsa h60).1]; exact u8_ne (c := 60) (by decide) (And.intro hsa h60).2
    have n60n : ((s[a].toNat : Int) != 60) = true := by simp only [bne, e60]; rfl
    have p60 : ¬ s[a].toNat = 60 := by rw [(And.intro hsa h60).1]; exact fun e => (And.intro hsa h60).2 (UInt8.toNat_inj.1 e)
    clear hr hr1 hsa h h60
    go_enter Tryz.func65, Tryz.ntmps65
    go_wp2_with fail
    go_ret
    exact ⟨by first | (rw [HV.out]; rfl) | rfl | (rw [HV.out]; exact congrArg (fun x : UInt8 => Ending.returned (.int .u8 (x.toNat : Int))) HSB.out), rfl⟩
end Go.Proofs.YtegcedboeemedaaGreatDoor

/-
Tokens in memory; the reader's put.
-/
namespace Go.Proofs.YtegcedboeemedaaGreatDoor
open Go.RowKit Go.Cl
attribute [local go_sem ↓] Go.wp_at_zero Go.wp_at_succ
/-- A token and its places. -/
abbrev TkP := Tk × Int × Int
def tTok : Ty TkP := tMap (tPair (tInt .i64) (tPair tStr (tPair (tSlice tDA) (tPair tStr (tPair tBool (tPair (tInt .i64) (tInt .i64))))))) (fun x => (x.1.kind, x.1.name, x.1.attrs, x.1.text, x.1.self, x.2.1, x.2.2)) 88
theorem elemTok : ElemOf Tryz.prog 23 76 tTok.size 88 := mkElem Tryz.underlying23 (by kernel_rfl) (z := .agg #[.int .i64 0, .string ⟨#[]⟩, .slice none 0 0, .string ⟨#[]⟩, .bool false, .int .i64 0, .int .i64 0]) rfl (by decide)
def tokCells (x : TkP) (A : Option Addr) (n c : Nat) : List Value := [.int .i64 x.1.kind, .string x.1.name, .slice A n c, .string x.1.text, .bool x.1.self, .int .i64 x.2.1, .int .i64 x.2.2]
structure TokAt (w : World) (D : Nat → Prop) (x : TkP) (A : Option Addr) (n c : Nat) : Prop where
  attrs : Sl tDA w D A n c x.1.attrs
  kind : (Lit.int .i64 x.1.kind).wf = true
  name : x.1.name.size ≤ 1152921504606846976
  text : x.1.text.size ≤ 1152921504606846976
  from_ : (Lit.int .i64 x.2.1).wf = true
  to_ : (Lit.int .i64 x.2.2).wf = true
theorem tok_rep {w : World} {D : Nat → Prop} {x : TkP} {A : Option Addr} {n c : Nat} (h : TokAt w D x A n c) : tTok.rep w D x (tokCells x A n c) :=
  ⟨[_], _, rfl, ⟨rfl, h.kind⟩, [_], _, rfl, ⟨rfl, h.name⟩, [_], _, rfl, ⟨A, n, c, rfl, h.attrs⟩, [_], _, rfl, ⟨rfl, h.text⟩, [_], _, rfl, rfl, [_], _, rfl, ⟨rfl, h.from_⟩, rfl, h.to_⟩
theorem tok_cells {w : World} {D : Nat → Prop} {x : TkP} {cs : List Value} (h : tTok.rep w D x cs) : ∃ A n c, cs = tokCells x A n c ∧ TokAt w D x A n c := by
  obtain ⟨c1, c2, rfl, ⟨rfl, h1⟩, c3, c4, rfl, ⟨rfl, h2⟩, c5, c6, rfl, ⟨A, n, c, rfl, h3⟩, c7, c8, rfl, ⟨rfl, h4⟩, c9, c10, rfl, rfl, c11, c12, rfl, ⟨rfl, h5⟩, rfl, h6⟩ := h
  exact ⟨A, n, c, rfl, h3, h1, h2, h4, h5, h6⟩
/-- What the tokens lead to. -/
abbrev fresh (X : Nat) (w : World) (v : Value) (b : Nat) : Prop := X < b ∧ b < w.heap.size ∧ some b ≠ v.ownBlock
/-- The reader with its tokens: all that lay ahead of it lies as it lay. -/
structure Ra (w0 w : World) (X : Nat) (s : ByteArray) (r : List UInt8) (E : Int) (v : Value) (n : Nat) (toks : List TkP) : Prop where
  rd : Rd w X s r E v
  low : Below X w0 w
  own : Own tTok w (X + 1) 76 (fresh X w v) v n toks
  few : n = toks.length
  g0 : 0 < X
section
variable {w0 w w' : World} {X : Nat} {s : ByteArray} {r r' : List UInt8} {E E' : Int} {v : Value} {n : Nat} {toks : List TkP}
theorem Ra.ne (h : Ra w0 w X s r E v n toks) : v.ownBlock = none ∨ v.ownBlock ≠ some X := by
  cases hv : v.ownBlock with
  | none => exact .inl rfl
  | some g =>
    right
    intro e
    have := (Cl.Own.lt h.own g hv).1
    injection e with e
    omega
theorem Ra.xlt (h : Ra w0 w X s r E v n toks) : X < w.heap.size := by obtain ⟨a, ha, hr, hc⟩ := h.rd.at_; exact hc.lt
theorem Ra.go (h : Ra w0 w X s r E v n toks) (hg : w.grownBy w' (some X)) (hr : Rd w' X s r' E' v) : Ra w0 w' X s r' E' v n toks :=
  ⟨hr, h.low.grown hg (Nat.le_of_lt h.xlt) (fun k e => by cases e; exact Nat.le_refl _), Cl.Own.more (Cl.Own.kept h.own hg h.ne fun b hb => ⟨hb.2.1, fun e => by injection e with e; have := hb.1; omega⟩) fun b hb => ⟨hb.1, Nat.lt_of_lt_of_le hb.2.1 hg.size, hb.2.2⟩, h.few, h.g0⟩
theorem Ra.next (h : Ra w0 w X s r E v n toks) (hb : Below w.heap.size w w') : Ra w0 w' X s r E v n toks := h.go (grown_below hb _) (h.rd.next hb)
end
set_option maxRecDepth 100000 in
set_option maxHeartbeats 4000000 in
theorem tkPut_keep (w0 w : World) (X : Nat) (s : ByteArray) (r : List UInt8) (E : Int) (v : Value) (n : Nat) (toks : List TkP) (x : Tk) (A : Option Addr) (m c : Nat) (f : Int) (hs : s.size ≤ 1000000) (h : Ra w0 w X s r E v n toks)
    (hx : Sl tDA w (fresh X w v) A m c x.attrs) (hk : (Lit.int .i64 x.kind).wf = true) (hn : x.name.size ≤ 1152921504606846976) (ht : x.text.size ≤ 1152921504606846976) (hf : (Lit.int .i64 f).wf = true) (hl : n ≤ 1000000) :
    Calls Tryz.prog 67 #[.pointer (some ⟨X, 0, none⟩), .agg (tokC x.kind x.name (.slice A m c) x.text x.self 0 0), .int .i64 f] w fun e w' => e = .returned (.tuple #[]) ∧ ∃ v', Ra w0 w' X s r E v' (n + 1) (toks ++ [(x, f, ((s.size - r.length : Nat) : Int))]) ∧ ∀ k, k < w.heap.size → k ≠ X → v.ownBlock ≠ some k → w'.heap[k]? = w.heap[k]? := by
  obtain ⟨⟨a, ha, hr, hc⟩, hm⟩ := h.rd
  have haz := drop_len ha hr
  obtain ⟨w1, hw1⟩ : ∃ w1, w1 = w.alloc (.cells (tokC x.kind x.name (.slice A m c) x.text x.self 0 0) 76) := ⟨_, rfl⟩
  have hb1 : Below w.heap.size w w1 := by rw [hw1]; exact tal (Below.refl _ _) _
  have HX1 := Lib.hid (show w1.heap[w.heap.size]? = some (.cells (tokC x.kind x.name (.slice A m c) x.text x.self 0 0) 76 (0, 0)) from by rw [hw1]; exact heap_alloc_new w _)
  have HA1 := Lib.hid (h.next hb1)
  have HC1 := Lib.hid (hc.next hb1)
  have HB1 := Lib.hid hb1
  have HSZ := Lib.hid (show w1.heap.size = w.heap.size + 1 from by rw [hw1]; exact World.size_alloc w _)
  have HSL := Lib.hid hx
  have hXT : X < w.heap.size := h.xlt
  have HXT := Lib.hid hXT
  have f5 := free_blk (i := 5) HX1.out
  have f6 := free_blk (i := 6) HX1.out
  have t5 := cell_blk (i := 5) HX1.out rfl
  have t6 := cell_blk (i := 6) HX1.out rfl
  have HH := Lib.hid h
  have HEA := Lib.hid (show a = s.size - r.length by omega)
  have HK6 := Lib.hid (show (w1.setCell ⟨w.heap.size, 5, none⟩ (.int .i64 f)).drew.cell? ⟨X, 1, none⟩ = some (.int .i64 (a : Int)) from (World.cell?_of_block (a := ⟨X, 1, none⟩) (heap_setCell_other w1 ⟨w.heap.size, 5, none⟩ X _ (by show X ≠ w.heap.size; omega))).trans HC1.out.c1)
  have HK8 := Lib.hid (show ((w1.setCell ⟨w.heap.size, 5, none⟩ (.int .i64 f)).setCell ⟨w.heap.size, 6, none⟩ (.int .i64 (a : Int))).drew.cell? ⟨X, 1, none⟩ = some (.int .i64 (a : Int)) from (World.cell?_of_block (a := ⟨X, 1, none⟩) (heap_setCell_other _ ⟨w.heap.size, 6, none⟩ X _ (by show X ≠ w.heap.size; omega))).trans HK6.out)
  obtain ⟨w2, hw2⟩ : ∃ w2, w2 = (w1.setCell ⟨w.heap.size, 5, none⟩ (.int .i64 f)).setCell ⟨w.heap.size, 6, none⟩ (.int .i64 (a : Int)) := ⟨_, rfl⟩
  have hb2 : Below w.heap.size w w2 := by rw [hw2]; exact (hb1.setCell (p := ⟨w.heap.size, 5, none⟩) (Nat.le_refl _) _).setCell (p := ⟨w.heap.size, 6, none⟩) (Nat.le_refl _) _
  have HX2 := Lib.hid (show w2.heap[w.heap.size]? = some (.cells (tokC x.kind x.name (.slice A m c) x.text x.self f (a : Int)) 76 (0, 0)) from by rw [hw2]; exact set_blk (set_blk HX1.out _) _)
  have HB2 := Lib.hid hb2
  have HC2 := Lib.hid (hc.next hb2)
  have HMX := Lib.hid hm
  have HFA := Lib.hid (show (Lit.int .i64 (a : Int)).wf = true from WalkArith.wf_i64 (by omega))
  have HWF := Lib.hid (show (Lit.int .i64 x.kind).wf = true ∧ (Lit.int .i64 f).wf = true from ⟨hk, hf⟩)
  have HAS := Lib.hid (show a ≤ s.size ∧ s.data.toList.drop a = r from ⟨ha, hr⟩)
  clear hc hm hr ha haz hb1 h hx hb2 hk hf
  go_enter Tryz.func67, Tryz.ntmps67
  go_upto_region 1 with fail
  rw [← hw1]
  clear hw1
  refine wp_region_G (S := (fun W : World => W.cell? ⟨X, 1, none⟩ = some (.int .i64 (a : Int)))) (T := []) (by kernel_rfl) ?_
  have hS : (fun W : World => W.cell? ⟨X, 1, none⟩ = some (.int .i64 (a : Int))) w1.drew := HC1.out.c1
  refine wpAnyG_pure (i := 0) (v := ?_) rfl (by kernel_rfl) (by kernel_rfl) (by kernel_rfl) (fun _ _ _ h => h) rfl ?_ ?_
  rotate_left
  · intro w'
    first | (go_simp; done) | (go_simp; with_reducible rfl)
  refine wpAnyG_pure (i := 1) (v := ?_) rfl (by kernel_rfl) (by kernel_rfl) (by kernel_rfl) (fun _ _ _ h => h) rfl ?_ ?_
  rotate_left
  · intro w'
    first | (go_simp; done) | (go_simp; with_reducible rfl)
  refine wpAnyG_pure (i := 2) (v := ?_) rfl (by kernel_rfl) (by kernel_rfl) (by kernel_rfl) (fun _ _ _ h => h) rfl ?_ ?_
  rotate_left
  · intro w'
    first | (go_simp; done) | (go_simp; with_reducible rfl)
  refine wpAnyG_pure (i := 3) (v := ?_) rfl (by kernel_rfl) (by kernel_rfl) (by kernel_rfl) (fun _ _ _ h => h) rfl ?_ ?_
  rotate_left
  · intro w'
    first | (go_simp; done) | (go_simp; with_reducible rfl)
  refine wpAnyG_take (i := 4) (v := ?_) rfl (by kernel_rfl) (by kernel_rfl) (by kernel_rfl) (by kernel_rfl) (fun _ _ _ h => h) hS rfl ?_ ?_
  rotate_left
  · intro w' hSw
    (try dsimp only at hSw)
    first | (go_simp; done) | (go_simp; with_reducible rfl)
  refine wpAnyG_pure (i := 5) (v := ?_) rfl (by kernel_rfl) (by kernel_rfl) (by kernel_rfl) (fun _ _ _ h => h) rfl ?_ ?_
  rotate_left
  · intro w'
    first | (go_simp; done) | (go_simp; with_reducible rfl)
  refine wpAnyG_one (i := 6) (by kernel_rfl) rfl rfl (fun K hK => ?_)
  go_simp
  refine hK.out _ _ (fun _ _ => ?_) ?_
  · exact HK6.out
  clear hK K
  refine wpAnyG_pure (i := 7) (v := ?_) rfl (by kernel_rfl) (by kernel_rfl) (by kernel_rfl) (fun _ _ _ h => h) rfl ?_ ?_
  rotate_left
  · intro w'
    first | (go_simp; done) | (go_simp; with_reducible rfl)
  refine wpAnyG_one (i := 8) (by kernel_rfl) rfl rfl (fun K hK => ?_)
  go_simp
  refine hK.out _ _ (fun _ _ => ?_) ?_
  · exact HK8.out
  clear hK K
  refine wpAnyG_done (by kernel_rfl) ?_ _
  go_simp
  go_upto_region 2 with fail
  rw [← hw2]
  clear hw2 f5 f6 t5 t6
  have HS2 := Lib.hid (fun (u : World) (hu : Below w2.heap.size w2 u) => show (fun W : World => W.cell? ⟨X, 3, none⟩ = some v ∧ W.cell? ⟨w.heap.size, 0, none⟩ = some (.int .i64 x.kind) ∧ W.cell? ⟨w.heap.size, 1, none⟩ = some (.string x.name) ∧ W.cell? ⟨w.heap.size, 2, none⟩ = some (.slice A m c) ∧ W.cell? ⟨w.heap.size, 3, none⟩ = some (.string x.text) ∧ W.cell? ⟨w.heap.size, 4, none⟩ = some (.bool x.self) ∧ W.cell? ⟨w.heap.size, 5, none⟩ = some (.int .i64 f) ∧ W.cell? ⟨w.heap.size, 6, none⟩ = some (.int .i64 (a : Int))) u from ⟨cell_be HC2.out.c3 hu, cell_be (cell_blk (i := 0) HX2.out rfl) hu, cell_be (cell_blk (i := 1) HX2.out rfl) hu, cell_be (cell_blk (i := 2) HX2.out rfl) hu, cell_be (cell_blk (i := 3) HX2.out rfl) hu, cell_be (cell_blk (i := 4) HX2.out rfl) hu, cell_be (cell_blk (i := 5) HX2.out rfl) hu, cell_be (cell_blk (i := 6) HX2.out rfl) hu⟩)
  refine wp_region_G (S := (fun W : World => W.cell? ⟨X, 3, none⟩ = some v ∧ W.cell? ⟨w.heap.size, 0, none⟩ = some (.int .i64 x.kind) ∧ W.cell? ⟨w.heap.size, 1, none⟩ = some (.string x.name) ∧ W.cell? ⟨w.heap.size, 2, none⟩ = some (.slice A m c) ∧ W.cell? ⟨w.heap.size, 3, none⟩ = some (.string x.text) ∧ W.cell? ⟨w.heap.size, 4, none⟩ = some (.bool x.self) ∧ W.cell? ⟨w.heap.size, 5, none⟩ = some (.int .i64 f) ∧ W.cell? ⟨w.heap.size, 6, none⟩ = some (.int .i64 (a : Int)))) (T := [10]) (by kernel_rfl) ?_
  have hS : (fun W : World => W.cell? ⟨X, 3, none⟩ = some v ∧ W.cell? ⟨w.heap.size, 0, none⟩ = some (.int .i64 x.kind) ∧ W.cell? ⟨w.heap.size, 1, none⟩ = some (.string x.name) ∧ W.cell? ⟨w.heap.size, 2, none⟩ = some (.slice A m c) ∧ W.cell? ⟨w.heap.size, 3, none⟩ = some (.string x.text) ∧ W.cell? ⟨w.heap.size, 4, none⟩ = some (.bool x.self) ∧ W.cell? ⟨w.heap.size, 5, none⟩ = some (.int .i64 f) ∧ W.cell? ⟨w.heap.size, 6, none⟩ = some (.int .i64 (a : Int))) w2.drew := HS2.out _ (tdrew w2)
  refine wpAnyG_pure (i := 0) (v := ?_) rfl (by kernel_rfl) (by kernel_rfl) (by kernel_rfl) (fun _ _ _ h => h) rfl ?_ ?_
  rotate_left
  · intro w'
    first | (go_simp; done) | (go_simp; with_reducible rfl)
  refine wpAnyG_pure (i := 1) (v := ?_) rfl (by kernel_rfl) (by kernel_rfl) (by kernel_rfl) (fun _ _ _ h => h) rfl ?_ ?_
  rotate_left
  · intro w'
    first | (go_simp; done) | (go_simp; with_reducible rfl)
  refine wpAnyG_pure (i := 2) (v := ?_) rfl (by kernel_rfl) (by kernel_rfl) (by kernel_rfl) (fun _ _ _ h => h) rfl ?_ ?_
  rotate_left
  · intro w'
    first | (go_simp; done) | (go_simp; with_reducible rfl)
  refine wpAnyG_pure (i := 3) (v := ?_) rfl (by kernel_rfl) (by kernel_rfl) (by kernel_rfl) (fun _ _ _ h => h) rfl ?_ ?_
  rotate_left
  · intro w'
    first | (go_simp; done) | (go_simp; with_reducible rfl)
  refine wpAnyG_take (i := 4) (v := ?_) rfl (by kernel_rfl) (by kernel_rfl) (by kernel_rfl) (by kernel_rfl) (fun _ _ _ h => h) hS rfl ?_ ?_
  rotate_left
  · intro w' hSw
    (try dsimp only at hSw)
    first | (go_simp; done) | (go_simp; with_reducible rfl)
  refine wpAnyG_take (i := 5) (v := ?_) rfl (by kernel_rfl) (by kernel_rfl) (by kernel_rfl) (by kernel_rfl) (fun _ _ _ h => h) hS rfl ?_ ?_
  rotate_left
  · intro w' hSw
    (try dsimp only at hSw)
    first | (go_simp; done) | (go_simp; with_reducible rfl)
  obtain ⟨w3, hw3⟩ : ∃ w3, w3 = (w2.alloc (.cells #[.int .i64 x.kind, .string x.name, .slice A m c, .string x.text, .bool x.self, .int .i64 f, .int .i64 (a : Int)] 76)).drew.drew := ⟨_, rfl⟩
  have hb3 : Below w2.heap.size w2 w3 := by rw [hw3]; exact tst (tst (tal (Below.refl _ _) _) (tdrew _)) (tdrew _)
  have HB3 := Lib.hid hb3
  have HW3 := Lib.hid hw3
  have hcn : ∀ j u, (tokCells (x, f, (a : Int)) A m c)[j]? = some u → w3.cell? ⟨w2.heap.size, 0 + j, none⟩ = some u := by rw [hw3]; exact cell_new w2 (tokCells (x, f, (a : Int)) A m c) _
  refine wpAnyG_one (i := 6) (by kernel_rfl) rfl rfl (fun K hK => ?_)
  go_simp
  rw [← hw3]
  refine hK.out _ _ (fun _ _ => HS2.out _ hb3) ?_
  clear hK K hS
  have HNE := Lib.hid HH.out.ne
  have hb03 : Below w.heap.size w w3 := tst HB2.out hb3
  have hO3 : Own tTok w3 (X + 1) 76 (fresh X w v) v n toks := Cl.Own.kept HH.out.own (grown_below hb03 (some X)) HH.out.ne fun b hb => ⟨hb.2.1, fun e => by injection e with e; have := hb.1; omega⟩
  have hrp : tTok.rep w3 (fresh X w v) (x, f, (a : Int)) (tokCells (x, f, (a : Int)) A m c) := tok_rep ⟨HSL.out.keep (fun p hp => hb03.cell hp.2.1), HWF.out.1, hn, ht, HWF.out.2, HFA.out⟩
  have hX3 : X + 1 ≤ w3.heap.size := by have := hb03.size; omega
  obtain ⟨v9, w4, hrun, ho4, hg4, hb4, hown4⟩ := run_ap1 (P := Tryz.prog) w3 (t := 23) (ty := 23) (c := 1) elemTok hO3 (fun b hb => ⟨Nat.lt_of_lt_of_le hb.2.1 hb03.size, hb.2.2⟩) hrp hcn (by omega) (by omega) hX3
  have hown : ∀ k, k < w.heap.size + 1 → X ≤ k → (k = X ∨ k = w.heap.size) → w4.heap[k]? = w3.heap[k]? := fun k hk _ hkk => hg4.block k (by have := hb3.size; have := (Array.getElem?_eq_some_iff.1 HX2.out).1; omega) (fun e => by
    obtain ⟨h1, h2⟩ := Cl.Own.lt HH.out.own k e.symm
    rcases hkk with rfl | rfl <;> omega)
  have hX4 := hown X (by omega) (Nat.le_refl _) (.inl rfl)
  have hT4 := hown w.heap.size (by omega) (by omega) (.inr rfl)
  have hc3 := HC2.out.next hb3
  have hc4 : Rc w4 X s a E v := hX4.trans hc3
  have f3 := hc4.fr 3
  have c3 := hc4.c3
  obtain ⟨A9, c9, rfl⟩ := Cl.Own.form ho4
  have hg5 := grown_set w4 X 3 (.slice A9 (n + 1) c9)
  have hmx4 : ∃ m : Int, w4.cell? ⟨0, 0, none⟩ = some (.int .i64 m) := by
    obtain ⟨m0, hm0⟩ := mx_next HMX.out hb03
    exact ⟨m0, (hb4.cell (p := ⟨0, 0, none⟩) (by show 0 < X + 1; have := HH.out.g0; omega)).trans hm0⟩
  have HR5 := Lib.hid (show Ra w0 (w4.setCell ⟨X, 3, none⟩ (.slice A9 (n + 1) c9)) X s r E (.slice A9 (n + 1) c9) (n + 1) (toks ++ [(x, f, (a : Int))]) from
    ⟨⟨⟨a, HAS.out.1, HAS.out.2, set_blk hc4 _⟩, mx_grown hmx4 (hc4.ne0 hmx4) hg5⟩,
      (HH.out.low.trans ((hb03.mono (Nat.le_of_lt HXT.out)).trans (hb4.mono (Nat.le_succ X)))).setCell (p := ⟨X, 3, none⟩) (Nat.le_refl _) _,
      Cl.Own.more (Cl.Own.kept ho4 hg5 (by
        cases hv : (Value.slice A9 (n + 1) c9).ownBlock with
        | none => exact .inl rfl
        | some g => right; intro e; have := (Cl.Own.lt ho4 g hv).1; injection e with e; omega) fun b hb => ⟨Nat.lt_of_lt_of_le hb.2.1 (Nat.le_trans hb03.size hg4.size), fun e => by injection e with e; have := hb.1; omega⟩)
        fun b hb => ⟨hb.1, Nat.lt_of_lt_of_le hb.2.1 (Nat.le_trans (Nat.le_trans hb03.size hg4.size) hg5.size), by
          rcases hown4 with h | h
          · rw [h]; exact hb.2.2
          · rw [h]; intro e; injection e with e; have := hb.2.1; have := hb03.size; omega⟩,
      by rw [List.length_append]; have := HH.out.few; show n + 1 = _ + 1; omega, HH.out.g0⟩)
  have HK9 := Lib.hid (show ∀ k, k < w.heap.size → k ≠ X → v.ownBlock ≠ some k → (w4.setCell ⟨X, 3, none⟩ (.slice A9 (n + 1) c9)).heap[k]? = w.heap[k]? from fun k hk hkX hkv =>
    (heap_setCell_other w4 ⟨X, 3, none⟩ k _ (by show k ≠ X; exact hkX)).trans ((hg4.block k (Nat.lt_of_lt_of_le hk hb03.size) (fun e => hkv e.symm)).trans (hb03.block k hk)))
  have hs4 : (fun W : World => W.cell? ⟨X, 3, none⟩ = some v ∧ W.cell? ⟨w.heap.size, 0, none⟩ = some (.int .i64 x.kind) ∧ W.cell? ⟨w.heap.size, 1, none⟩ = some (.string x.name) ∧ W.cell? ⟨w.heap.size, 2, none⟩ = some (.slice A m c) ∧ W.cell? ⟨w.heap.size, 3, none⟩ = some (.string x.text) ∧ W.cell? ⟨w.heap.size, 4, none⟩ = some (.bool x.self) ∧ W.cell? ⟨w.heap.size, 5, none⟩ = some (.int .i64 f) ∧ W.cell? ⟨w.heap.size, 6, none⟩ = some (.int .i64 (a : Int))) w4 := ⟨c3, (World.cell?_of_block (a := ⟨w.heap.size, 0, none⟩) hT4).trans (HS2.out _ hb3).2.1, (World.cell?_of_block (a := ⟨w.heap.size, 1, none⟩) hT4).trans (HS2.out _ hb3).2.2.1, (World.cell?_of_block (a := ⟨w.heap.size, 2, none⟩) hT4).trans (HS2.out _ hb3).2.2.2.1, (World.cell?_of_block (a := ⟨w.heap.size, 3, none⟩) hT4).trans (HS2.out _ hb3).2.2.2.2.1, (World.cell?_of_block (a := ⟨w.heap.size, 4, none⟩) hT4).trans (HS2.out _ hb3).2.2.2.2.2.1, (World.cell?_of_block (a := ⟨w.heap.size, 5, none⟩) hT4).trans (HS2.out _ hb3).2.2.2.2.2.2.1, (World.cell?_of_block (a := ⟨w.heap.size, 6, none⟩) hT4).trans (HS2.out _ hb3).2.2.2.2.2.2.2⟩
  refine wpAnyG_one (i := 7) (by kernel_rfl) rfl rfl (fun K hK => ?_)
  refine wp_append_runI (.tmp 17) (.tmp 19) 23 rfl v (.slice (some ⟨w2.heap.size, 0, none⟩) 1 1) rfl rfl hrun ?_
  refine hK.out _ _ (fun _ _ => hs4) ?_
  clear hK K hrun
  have hS := hs4
  clear hs4 hO3 hrp hcn hb03 hown hX4 hT4 hc3 hg5 hmx4 ho4 hg4 hb4 hown4 hc4
  refine wpAnyG_pure (i := 8) (v := ?_) rfl (by kernel_rfl) (by kernel_rfl) (by kernel_rfl) (fun _ _ _ h => h) rfl ?_ ?_
  rotate_left
  · intro w'
    first | (go_simp; done) | (go_simp; with_reducible rfl)
  refine wpAnyG_pure (i := 9) (v := ?_) rfl (by kernel_rfl) (by kernel_rfl) (by kernel_rfl) (fun _ _ _ h => h) rfl ?_ ?_
  rotate_left
  · intro w'
    first | (go_simp; done) | (go_simp; with_reducible rfl)
  refine wpAnyG_one (i := 10) (by kernel_rfl) rfl rfl (fun K hK => ?_)
  go_simp
  refine hK.out _ _ (fun h => absurd (by decide) h) ?_
  clear hK K hS
  refine wpAnyG_done (by kernel_rfl) ?_ _
  go_simp
  go_wp2_with fail
  go_end0
  exact ⟨rfl, ⟨_, by rw [← HEA.out]; exact HR5.out⟩, HK9.out⟩
theorem tkPut_any (w0 w : World) (X : Nat) (s : ByteArray) (r : List UInt8) (E : Int) (v : Value) (n : Nat) (toks : List TkP) (x : Tk) (A : Option Addr) (m c : Nat) (f : Int) (hs : s.size ≤ 1000000) (h : Ra w0 w X s r E v n toks)
    (hx : Sl tDA w (fresh X w v) A m c x.attrs) (hk : (Lit.int .i64 x.kind).wf = true) (hn : x.name.size ≤ 1152921504606846976) (ht : x.text.size ≤ 1152921504606846976) (hf : (Lit.int .i64 f).wf = true) (hl : n ≤ 1000000) :
    Calls Tryz.prog 67 #[.pointer (some ⟨X, 0, none⟩), .agg (tokC x.kind x.name (.slice A m c) x.text x.self 0 0), .int .i64 f] w fun e w' => e = .returned (.tuple #[]) ∧ ∃ v', Ra w0 w' X s r E v' (n + 1) (toks ++ [(x, f, ((s.size - r.length : Nat) : Int))]) :=
  (tkPut_keep w0 w X s r E v n toks x A m c f hs h hx hk hn ht hf hl).mono fun _ _ h => ⟨h.1, h.2.elim fun v' h => ⟨v', h.1⟩⟩
end Go.Proofs.YtegcedboeemedaaGreatDoor

/-
Tokens: the reader's text.
-/
namespace Go.Proofs.YtegcedboeemedaaGreatDoor
open Go.RowKit Go.Cl
attribute [local go_sem ↓] Go.wp_at_zero Go.wp_at_succ
/-- A token's places, counted from the text's begin. -/
def plOf (s : ByteArray) (x : Pl) : TkP := (x.1, ((s.size - x.2.1 : Nat) : Int), ((s.size - x.2.2 : Nat) : Int))
theorem textF_cons (b : UInt8) (t : List UInt8) : textF (b :: t) = if markF (b :: t) = 0 then (b :: (textF t).1, (textF t).2) else ([], b :: t) := rfl
set_option maxRecDepth 100000 in
set_option maxHeartbeats 4000000 in
theorem tkText_any (w0 w : World) (X : Nat) (s : ByteArray) (r : List UInt8) (E : Int) (v : Value) (n : Nat) (toks : List TkP) (hs : s.size ≤ 1000000) (h : Ra w0 w X s r E v n toks) (hl : n + r.length ≤ 1000000) :
    Calls Tryz.prog 64 #[.pointer (some ⟨X, 0, none⟩)] w fun e w' => e = .returned (.tuple #[]) ∧ ∃ v' n', Ra w0 w' X s (textF r).2 E v' n' (toks ++ (putT (textF r).1 (bs (entT (textF r).1)) r.length (textF r).2.length).map (plOf s)) := by
  obtain ⟨⟨a, ha, hr, hc⟩, hm⟩ := h.rd
  have haz := drop_len ha hr
  have HAZ := Lib.hid haz
  have HH := Lib.hid h
  have HL := Lib.hid hl
  have HDA := Lib.hid hr
  have c1 := hc.c1
  clear hm hc hr ha haz h hl
  go_enter Tryz.func64, Tryz.ntmps64
  go_upto_region 1 with fail
  clear c1
  go_loopw [] (fun wr => ∃ rj x, Hid (r = x ++ rj) ∧ Hid (textF r = (x ++ (textF rj).1, (textF rj).2)) ∧ Hid (Ra w0 wr X s rj E v n toks)) (fun wr => s.size - atOf wr X)
  case atStart => exact ⟨r, [], Lib.hid rfl, Lib.hid rfl, HH⟩
  case round =>
    obtain ⟨rj, x, HJ, HT, HA⟩ := hrel
    obtain ⟨⟨aj, haj, hrj, hcj⟩, hmj⟩ := HA.out.rd
    have hzj := drop_len haj hrj
    have hlen := congrArg List.length HJ.out
    rw [List.length_append] at hlen
    have HAJ := Lib.hid (show aj = a + x.length by have := HAZ.out; omega)
    have HLF := Lib.hid HA.out.rd.left
    have i0 : (0 : Int) ≤ (aj : Int) := by omega
    have i1 : (aj : Int) ≤ (s.size : Int) := by omega
    have k0 : (0 : Int) ≤ (a : Int) := by omega
    have k1 : (a : Int) ≤ (aj : Int) := by have := HAJ.out; omega
    have c0 := hcj.c0
    have c1 := hcj.c1
    have f1 := hcj.fr 1
    have HCJ := Lib.hid hcj
    have HZJ := Lib.hid hzj
    have HDJ := Lib.hid hrj
    cases rj with
    | nil =>
      have g0 : ¬ (aj : Int) < (s.size : Int) := by simp at hzj; omega
      have g1 : decide ((aj : Int) < (s.size : Int)) = false := decide_eq_false g0
      clear hrj hcj hmj hzj hlen haj
      have HR := Lib.hid (show textF r = (x, ([] : List UInt8)) from by rw [HT.out, show textF [] = ([], []) from rfl]; simp)
      clear HT
      by_cases hx : x = []
      · have HX := Lib.hid hx
        have g5 : (aj : Int) = (a : Int) := by have := HAJ.out; rw [hx] at this; simp at this; omega
        have g6 : ¬ (a : Int) < (aj : Int) := by omega
        have g7 : decide ((a : Int) < (aj : Int)) = false := decide_eq_false g6
        have HG := Lib.hid g5
        clear hx g5
        go_upto_region 1 with fail; go_quiet (fail)
        go_wp2_with fail
        go_end0
        exact ⟨rfl, v, n, by rw [HR.out, HX.out]; show Ra w0 _ X s ([] : List UInt8) E v n (toks ++ []); rw [List.append_nil]; exact HA.out.next (tdrewN _ _)⟩
      · have HX := Lib.hid hx
        have HXL := Lib.hid (List.length_pos_iff.2 hx)
        have g6 : (a : Int) < (aj : Int) := by have := HAJ.out; have := HXL.out; omega
        have g7 : decide ((a : Int) < (aj : Int)) = true := decide_eq_true g6
        clear hx
        go_upto_region 1 with fail; go_quiet (fail)
        go_upto_region 4 with fail
        obtain ⟨xS, hxS⟩ : ∃ xS : ByteArray, (⟨x.toArray⟩ : ByteArray) = xS := ⟨_, rfl⟩
        have hxt : s.extract a aj = xS := by rw [← hxS]; exact ext_from (r := ([] : List UInt8)) (by rw [HDA.out, HJ.out]) HAJ.out
        have HTX := Lib.hid (fun (u : World) => (show Calls Tryz.prog 103 #[.string xS] u fun e w' => e = .returned (.string (bs (entT x))) ∧ Below u.heap.size u w' from by rw [← hxS]; exact text_any ⟨x.toArray⟩ u (by have := HZJ.out; have := HAJ.out; show x.length ≤ _; omega)))
        have HSM := Lib.hid (show (bs (entT x)).size ≤ 1152921504606846976 from Nat.le_trans (readL_len (bs x) false) (by have := HZJ.out; have := HAJ.out; show 4 * x.length ≤ _; omega))
        have HNN := Lib.hid (show n ≤ 1000000 from by have := HL.out; omega)
        clear hxS
        obtain ⟨wq, hwq⟩ : ∃ wq, wq = wr.drewN nq := ⟨_, rfl⟩
        rw [← hwq]
        have HAQ := Lib.hid (show Ra w0 wq X s ([] : List UInt8) E v n toks from by rw [hwq]; exact HA.out.next (tdrewN _ _))
        have HCQ := Lib.hid (show Rc wq X s aj E v from by rw [hwq]; exact HCJ.out)
        clear hwq
        refine wp_region_G (S := (fun W : World => W.cell? ⟨X, 0, none⟩ = some (.string s) ∧ W.cell? ⟨X, 1, none⟩ = some (.int .i64 (aj : Int)))) (T := []) (by kernel_rfl) ?_
        have hS : (fun W : World => W.cell? ⟨X, 0, none⟩ = some (.string s) ∧ W.cell? ⟨X, 1, none⟩ = some (.int .i64 (aj : Int))) wq.drew := ⟨HCQ.out.c0, HCQ.out.c1⟩
        refine wpAnyG_pure (i := 0) (v := ?_) rfl (by kernel_rfl) (by kernel_rfl) (by kernel_rfl) (fun _ _ _ h => h) rfl ?_ ?_
        rotate_left
        · intro w'
          first | (go_simp; done) | (go_simp; with_reducible rfl)
        refine wpAnyG_pure (i := 1) (v := ?_) rfl (by kernel_rfl) (by kernel_rfl) (by kernel_rfl) (fun _ _ _ h => h) rfl ?_ ?_
        rotate_left
        · intro w'
          first | (go_simp; done) | (go_simp; with_reducible rfl)
        refine wpAnyG_pure (i := 2) (v := ?_) rfl (by kernel_rfl) (by kernel_rfl) (by kernel_rfl) (fun _ _ _ h => h) rfl ?_ ?_
        rotate_left
        · intro w'
          first | (go_simp; done) | (go_simp; with_reducible rfl)
        refine wpAnyG_pure (i := 3) (v := ?_) rfl (by kernel_rfl) (by kernel_rfl) (by kernel_rfl) (fun _ _ _ h => h) rfl ?_ ?_
        rotate_left
        · intro w'
          first | (go_simp; done) | (go_simp; with_reducible rfl)
        refine wpAnyG_take (i := 4) (v := ?_) rfl (by kernel_rfl) (by kernel_rfl) (by kernel_rfl) (by kernel_rfl) (fun _ _ _ h => h) hS rfl ?_ ?_
        rotate_left
        · intro w' hSw
          (try dsimp only at hSw)
          first | (go_simp; done) | (go_simp; with_reducible rfl)
        refine wpAnyG_pure (i := 5) (v := ?_) rfl (by kernel_rfl) (by kernel_rfl) (by kernel_rfl) (fun _ _ _ h => h) rfl ?_ ?_
        rotate_left
        · intro w'
          first | (go_simp; done) | (go_simp; with_reducible rfl)
        refine wpAnyG_pure (i := 6) (v := ?_) rfl (by kernel_rfl) (by kernel_rfl) (by kernel_rfl) (fun _ _ _ h => h) rfl ?_ ?_
        rotate_left
        · intro w'
          first | (go_simp; done) | (go_simp; with_reducible rfl)
        refine wpAnyG_pure (i := 7) (v := ?_) rfl (by kernel_rfl) (by kernel_rfl) (by kernel_rfl) (fun _ _ _ h => h) rfl ?_ ?_
        rotate_left
        · intro w'
          first | (go_simp; done) | (go_simp; with_reducible rfl)
        refine wpAnyG_pure (i := 8) (v := ?_) rfl (by kernel_rfl) (by kernel_rfl) (by kernel_rfl) (fun _ _ _ h => h) rfl ?_ ?_
        rotate_left
        · intro w'
          first | (go_simp; done) | (go_simp; with_reducible rfl)
        refine wpAnyG_take (i := 9) (v := ?_) rfl (by kernel_rfl) (by kernel_rfl) (by kernel_rfl) (by kernel_rfl) (fun _ _ _ h => h) hS rfl ?_ ?_
        rotate_left
        · intro w' hSw
          (try dsimp only at hSw)
          first | (go_simp; done) | (go_simp; with_reducible rfl)
        refine wpAnyG_pure (i := 10) (v := ?_) rfl (by kernel_rfl) (by kernel_rfl) (by kernel_rfl) (fun _ _ _ h => h) rfl ?_ ?_
        rotate_left
        · intro w'
          first | (go_simp; done) | (go_simp; with_reducible rfl)
        refine wpAnyG_pure (i := 13) (v := ?_) rfl (by kernel_rfl) (by kernel_rfl) (by kernel_rfl) (fun _ _ _ h => h) rfl ?_ ?_
        rotate_left
        · intro w'
          first | (go_simp; done) | (go_simp; with_reducible rfl)
        refine wpAnyG_one (i := 11) (by kernel_rfl) rfl rfl (fun K hK => ?_)
        go_simp
        go_at_call 103
        refine (HTX.out _).mono ?_
        rintro e' V1 ⟨rfl, hv1⟩
        have HV1 := Lib.hid ((tdrew wq).trans hv1)
        clear hv1
        go_wp2_with fail
        refine hK.out _ _ (fun _ _ => ⟨cell_be HCQ.out.c0 HV1.out, cell_be HCQ.out.c1 HV1.out⟩) ?_
        clear hK K hS
        refine wpAnyG_pure (i := 12) (v := ?_) rfl (by kernel_rfl) (by kernel_rfl) (by kernel_rfl) (fun _ _ _ h => h) rfl ?_ ?_
        rotate_left
        · intro w'
          first | (go_simp; done) | (go_simp; with_reducible rfl)
        have HPU := Lib.hid (tkPut_any w0 V1 X s ([] : List UInt8) E v n toks (tkT (bs (entT x))) none 0 0 (a : Int) hs (HAQ.out.next HV1.out) Sl.nil rfl (Nat.zero_le _) HSM.out (WalkArith.wf_i64 (by have := HZJ.out; have := HAJ.out; omega)) HNN.out)
        refine wpAnyG_one (i := 14) (by kernel_rfl) rfl rfl (fun K hK => ?_)
        go_simp
        go_at_call 67
        refine HPU.out.mono ?_
        rintro e' V2 ⟨rfl, v', hv2⟩
        have HV2 := Lib.hid hv2
        clear hv2
        go_wp2_with fail
        refine hK.out _ _ (fun _ _ => ?_) ?_
        · obtain ⟨⟨a9, h91, h92, h93⟩, _⟩ := HV2.out.rd; have h94 := drop_len h91 h92; obtain rfl : a9 = aj := (by have := HZJ.out; omega); exact ⟨h93.c0, h93.c1⟩
        clear hK K
        refine wpAnyG_done (by kernel_rfl) ?_ _
        go_simp
        go_wp2_with fail
        go_end0
        exact ⟨rfl, v', n + 1, by
              rw [HR.out]
              have h1 : putT x (bs (entT x)) r.length ([] : List UInt8).length = [(tkT (bs (entT x)), r.length, ([] : List UInt8).length)] := if_neg HX.out
              have h2 : ((s.size - r.length : Nat) : Int) = (a : Int) := by have := HAZ.out; omega
              show Ra w0 V2 X s ([] : List UInt8) E v' (n + 1) (toks ++ (putT x (bs (entT x)) r.length ([] : List UInt8).length).map (plOf s))
              rw [h1]
              show Ra w0 V2 X s ([] : List UInt8) E v' (n + 1) (toks ++ [(tkT (bs (entT x)), ((s.size - r.length : Nat) : Int), ((s.size - ([] : List UInt8).length : Nat) : Int))])
              rw [h2]
              exact HV2.out⟩
    | cons c t =>
      have g0 : (aj : Int) < (s.size : Int) := by rw [List.length_cons] at hzj; omega
      have g1 : decide ((aj : Int) < (s.size : Int)) = true := decide_eq_true g0
      have HMK := Lib.hid (fun (u : World) (hu : Rc u X s aj E v) => tkMarkup_any X s aj aj c t E v u hs hu hrj)
      have HMQ := Lib.hid (fun (k : Nat) => HMK.out (wr.drewN k) HCJ.out)
      have hr2 := (at_head hrj).2.2
      have HR2 := Lib.hid hr2
      have HMJ := Lib.hid hmj
      have w1 : IntKind.i64.wrap ((aj : Int) + 1) = (aj : Int) + 1 := IntWalk.i64_in _ (by omega)
      have hst := textF_cons c t
      clear hrj hcj hmj hlen haj hr2
      by_cases hm0 : markF (c :: t) = 0
      · rw [if_pos hm0] at hst
        have HST := Lib.hid hst
        rw [hm0] at HMQ
        clear hst hm0 hzj
        go_upto_region 1 with fail
        go_quiet ((go_at_call 65; exact Calls.quiet_of_same (HMQ.out _)))
        go_wp2_with fail
        have hst2 := Rd.step (w := wr.drewN nq) (n := (aj : Int) + 1) (b := aj + 1) (by omega) (by omega) HR2.out HCJ.out HMJ.out
        have hra := (HA.out.next (tdrewN wr nq)).go hst2.2 hst2.1
        refine ⟨⟨t, x ++ [c], Lib.hid (by rw [HJ.out, List.append_assoc]; rfl), Lib.hid (by rw [HT.out, HST.out]; simp), Lib.hid hra⟩, ?_⟩
        rw [hra.rd.left, HLF.out, List.length_cons]
        omega
      · rw [if_neg hm0] at hst
        have hne : (((markF (c :: t)).toNat : Int) == 0) = false := u8_ne (c := 0) (by decide) hm0
        have hne2 : ¬ (markF (c :: t)).toNat = 0 := fun e => hm0 (UInt8.toNat_inj.1 e)
        have HST := Lib.hid hst
        clear hst hm0 hzj
        generalize markF (c :: t) = mk at *
        have HR := Lib.hid (show textF r = (x, (c :: t)) from by rw [HT.out, HST.out]; simp)
        clear HT
        by_cases hx : x = []
        · have HX := Lib.hid hx
          have g5 : (aj : Int) = (a : Int) := by have := HAJ.out; rw [hx] at this; simp at this; omega
          have g6 : ¬ (a : Int) < (aj : Int) := by omega
          have g7 : decide ((a : Int) < (aj : Int)) = false := decide_eq_false g6
          have HG := Lib.hid g5
          clear hx g5
          go_upto_region 1 with fail; go_quiet ((go_at_call 65; exact Calls.quiet_of_same (HMQ.out _)))
          go_wp2_with fail
          go_end0
          exact ⟨rfl, v, n, by rw [HR.out, HX.out]; show Ra w0 _ X s (c :: t) E v n (toks ++ []); rw [List.append_nil]; exact HA.out.next (tdrewN _ _)⟩
        · have HX := Lib.hid hx
          have HXL := Lib.hid (List.length_pos_iff.2 hx)
          have g6 : (a : Int) < (aj : Int) := by have := HAJ.out; have := HXL.out; omega
          have g7 : decide ((a : Int) < (aj : Int)) = true := decide_eq_true g6
          clear hx
          go_upto_region 1 with fail; go_quiet ((go_at_call 65; exact Calls.quiet_of_same (HMQ.out _)))
          go_upto_region 4 with fail
          obtain ⟨xS, hxS⟩ : ∃ xS : ByteArray, (⟨x.toArray⟩ : ByteArray) = xS := ⟨_, rfl⟩
          have hxt : s.extract a aj = xS := by rw [← hxS]; exact ext_from (r := (c :: t)) (by rw [HDA.out, HJ.out]) HAJ.out
          have HTX := Lib.hid (fun (u : World) => (show Calls Tryz.prog 103 #[.string xS] u fun e w' => e = .returned (.string (bs (entT x))) ∧ Below u.heap.size u w' from by rw [← hxS]; exact text_any ⟨x.toArray⟩ u (by have := HZJ.out; have := HAJ.out; show x.length ≤ _; omega)))
          have HSM := Lib.hid (show (bs (entT x)).size ≤ 1152921504606846976 from Nat.le_trans (readL_len (bs x) false) (by have := HZJ.out; have := HAJ.out; show 4 * x.length ≤ _; omega))
          have HNN := Lib.hid (show n ≤ 1000000 from by have := HL.out; omega)
          clear hxS
          obtain ⟨wq, hwq⟩ : ∃ wq, wq = wr.drewN nq := ⟨_, rfl⟩
          rw [← hwq]
          have HAQ := Lib.hid (show Ra w0 wq X s (c :: t) E v n toks from by rw [hwq]; exact HA.out.next (tdrewN _ _))
          have HCQ := Lib.hid (show Rc wq X s aj E v from by rw [hwq]; exact HCJ.out)
          clear hwq
          refine wp_region_G (S := (fun W : World => W.cell? ⟨X, 0, none⟩ = some (.string s) ∧ W.cell? ⟨X, 1, none⟩ = some (.int .i64 (aj : Int)))) (T := []) (by kernel_rfl) ?_
          have hS : (fun W : World => W.cell? ⟨X, 0, none⟩ = some (.string s) ∧ W.cell? ⟨X, 1, none⟩ = some (.int .i64 (aj : Int))) wq.drew := ⟨HCQ.out.c0, HCQ.out.c1⟩
          refine wpAnyG_pure (i := 0) (v := ?_) rfl (by kernel_rfl) (by kernel_rfl) (by kernel_rfl) (fun _ _ _ h => h) rfl ?_ ?_
          rotate_left
          · intro w'
            first | (go_simp; done) | (go_simp; with_reducible rfl)
          refine wpAnyG_pure (i := 1) (v := ?_) rfl (by kernel_rfl) (by kernel_rfl) (by kernel_rfl) (fun _ _ _ h => h) rfl ?_ ?_
          rotate_left
          · intro w'
            first | (go_simp; done) | (go_simp; with_reducible rfl)
          refine wpAnyG_pure (i := 2) (v := ?_) rfl (by kernel_rfl) (by kernel_rfl) (by kernel_rfl) (fun _ _ _ h => h) rfl ?_ ?_
          rotate_left
          · intro w'
            first | (go_simp; done) | (go_simp; with_reducible rfl)
          refine wpAnyG_pure (i := 3) (v := ?_) rfl (by kernel_rfl) (by kernel_rfl) (by kernel_rfl) (fun _ _ _ h => h) rfl ?_ ?_
          rotate_left
          · intro w'
            first | (go_simp; done) | (go_simp; with_reducible rfl)
          refine wpAnyG_take (i := 4) (v := ?_) rfl (by kernel_rfl) (by kernel_rfl) (by kernel_rfl) (by kernel_rfl) (fun _ _ _ h => h) hS rfl ?_ ?_
          rotate_left
          · intro w' hSw
            (try dsimp only at hSw)
            first | (go_simp; done) | (go_simp; with_reducible rfl)
          refine wpAnyG_pure (i := 5) (v := ?_) rfl (by kernel_rfl) (by kernel_rfl) (by kernel_rfl) (fun _ _ _ h => h) rfl ?_ ?_
          rotate_left
          · intro w'
            first | (go_simp; done) | (go_simp; with_reducible rfl)
          refine wpAnyG_pure (i := 6) (v := ?_) rfl (by kernel_rfl) (by kernel_rfl) (by kernel_rfl) (fun _ _ _ h => h) rfl ?_ ?_
          rotate_left
          · intro w'
            first | (go_simp; done) | (go_simp; with_reducible rfl)
          refine wpAnyG_pure (i := 7) (v := ?_) rfl (by kernel_rfl) (by kernel_rfl) (by kernel_rfl) (fun _ _ _ h => h) rfl ?_ ?_
          rotate_left
          · intro w'
            first | (go_simp; done) | (go_simp; with_reducible rfl)
          refine wpAnyG_pure (i := 8) (v := ?_) rfl (by kernel_rfl) (by kernel_rfl) (by kernel_rfl) (fun _ _ _ h => h) rfl ?_ ?_
          rotate_left
          · intro w'
            first | (go_simp; done) | (go_simp; with_reducible rfl)
          refine wpAnyG_take (i := 9) (v := ?_) rfl (by kernel_rfl) (by kernel_rfl) (by kernel_rfl) (by kernel_rfl) (fun _ _ _ h => h) hS rfl ?_ ?_
          rotate_left
          · intro w' hSw
            (try dsimp only at hSw)
            first | (go_simp; done) | (go_simp; with_reducible rfl)
          refine wpAnyG_pure (i := 10) (v := ?_) rfl (by kernel_rfl) (by kernel_rfl) (by kernel_rfl) (fun _ _ _ h => h) rfl ?_ ?_
          rotate_left
          · intro w'
            first | (go_simp; done) | (go_simp; with_reducible rfl)
          refine wpAnyG_pure (i := 13) (v := ?_) rfl (by kernel_rfl) (by kernel_rfl) (by kernel_rfl) (fun _ _ _ h => h) rfl ?_ ?_
          rotate_left
          · intro w'
            first | (go_simp; done) | (go_simp; with_reducible rfl)
          refine wpAnyG_one (i := 11) (by kernel_rfl) rfl rfl (fun K hK => ?_)
          go_simp
          go_at_call 103
          refine (HTX.out _).mono ?_
          rintro e' V1 ⟨rfl, hv1⟩
          have HV1 := Lib.hid ((tdrew wq).trans hv1)
          clear hv1
          go_wp2_with fail
          refine hK.out _ _ (fun _ _ => ⟨cell_be HCQ.out.c0 HV1.out, cell_be HCQ.out.c1 HV1.out⟩) ?_
          clear hK K hS
          refine wpAnyG_pure (i := 12) (v := ?_) rfl (by kernel_rfl) (by kernel_rfl) (by kernel_rfl) (fun _ _ _ h => h) rfl ?_ ?_
          rotate_left
          · intro w'
            first | (go_simp; done) | (go_simp; with_reducible rfl)
          have HPU := Lib.hid (tkPut_any w0 V1 X s (c :: t) E v n toks (tkT (bs (entT x))) none 0 0 (a : Int) hs (HAQ.out.next HV1.out) Sl.nil rfl (Nat.zero_le _) HSM.out (WalkArith.wf_i64 (by have := HZJ.out; have := HAJ.out; omega)) HNN.out)
          refine wpAnyG_one (i := 14) (by kernel_rfl) rfl rfl (fun K hK => ?_)
          go_simp
          go_at_call 67
          refine HPU.out.mono ?_
          rintro e' V2 ⟨rfl, v', hv2⟩
          have HV2 := Lib.hid hv2
          clear hv2
          go_wp2_with fail
          refine hK.out _ _ (fun _ _ => ?_) ?_
          · obtain ⟨⟨a9, h91, h92, h93⟩, _⟩ := HV2.out.rd; have h94 := drop_len h91 h92; obtain rfl : a9 = aj := (by have := HZJ.out; omega); exact ⟨h93.c0, h93.c1⟩
          clear hK K
          refine wpAnyG_done (by kernel_rfl) ?_ _
          go_simp
          go_wp2_with fail
          go_end0
          exact ⟨rfl, v', n + 1, by
                rw [HR.out]
                have h1 : putT x (bs (entT x)) r.length (c :: t).length = [(tkT (bs (entT x)), r.length, (c :: t).length)] := if_neg HX.out
                have h2 : ((s.size - r.length : Nat) : Int) = (a : Int) := by have := HAZ.out; omega
                show Ra w0 V2 X s (c :: t) E v' (n + 1) (toks ++ (putT x (bs (entT x)) r.length (c :: t).length).map (plOf s))
                rw [h1]
                show Ra w0 V2 X s (c :: t) E v' (n + 1) (toks ++ [(tkT (bs (entT x)), ((s.size - r.length : Nat) : Int), ((s.size - (c :: t).length : Nat) : Int))])
                rw [h2]
                exact HV2.out⟩
end Go.Proofs.YtegcedboeemedaaGreatDoor

/-
Tokens: the reader's closes.
-/
namespace Go.Proofs.YtegcedboeemedaaGreatDoor
open Go.RowKit Go.Cl
attribute [local go_sem ↓] Go.wp_at_zero Go.wp_at_succ
/-- EqualFold against a text of ASCII that is no shorter: in each world that agrees below a block. -/
def FoldOk (w0 : World) (X : Nat) : Prop := ∀ u : World, Below X w0 u → ∀ s t : ByteArray, s.size ≤ t.size → t.size ≤ 1000000 → (∀ b ∈ t.data.toList, b.toNat < 128) →
  Calls Tryz.prog 113 #[.string s, .string t] u fun e w' => e = .returned (.bool (Lib.equalFold s.data.toList t.data.toList)) ∧ Below u.heap.size u w'
theorem ext_list (s : ByteArray) (a b : Nat) : (s.extract a b).data.toList = (s.data.toList.drop a).take (b - a) := by
  rw [ByteArray.data_extract, Array.toList_extract, List.extract_eq_take_drop]
set_option maxRecDepth 100000 in
set_option maxHeartbeats 4000000 in
theorem tkCloses_any (X : Nat) (s : ByteArray) (a0 a : Nat) (r : List UInt8) (nm : ByteArray) (E : Int) (O : Value) (w : World) (hs : s.size ≤ 1000000) (hc : Rc w X s a0 E O) (ha : a ≤ s.size) (hr : s.data.toList.drop a = r) (hn : nm.size ≤ 1000)
    (hF : ∀ x : ByteArray, x.size = nm.size → Calls Tryz.prog 113 #[.string x, .string nm] w fun e w' => e = .returned (.bool (Lib.equalFold x.data.toList nm.data.toList)) ∧ Below w.heap.size w w') :
    Calls Tryz.prog 78 #[.pointer (some ⟨X, 0, none⟩), .int .i64 (a : Int), .string nm] w fun e w' => e = .returned (.bool (closesF nm.data.toList r)) ∧ Below w.heap.size w w' := by
  have hdl := drop_len ha hr
  have hnl : nm.data.toList.length = nm.size := by simp
  have c0 := hc.c0
  have HC := Lib.hid hc
  have i0 : (0 : Int) ≤ (a : Int) := by omega
  have i1 : (a : Int) ≤ (s.size : Int) := by omega
  have w1 : IntKind.i64.wrap ((a : Int) + 2) = (a : Int) + 2 := IntWalk.i64_in _ (by omega)
  have w2 : IntKind.i64.wrap ((a : Int) + 2 + (nm.size : Int)) = (a : Int) + 2 + (nm.size : Int) := IntWalk.i64_in _ (by omega)
  have hcl : closesF nm.data.toList r = (decide (2 + nm.data.toList.length < r.length) && (r.take 2 == [60, 47]) && Lib.equalFold ((r.drop 2).take nm.data.toList.length) nm.data.toList && (match r[2 + nm.data.toList.length]? with | some b => blankB b || b == 47 || b == 62 | none => false)) := rfl
  by_cases h1 : 2 + nm.size < r.length
  · have g1 : (a : Int) + 2 + (nm.size : Int) < (s.size : Int) := by omega
    have g1' : decide ((a : Int) + 2 + (nm.size : Int) < (s.size : Int)) = true := decide_eq_true g1
    have j1 : (a : Int) + 2 ≤ (s.size : Int) := by omega
    have j2 : (a : Int) ≤ (a : Int) + 2 := by omega
    have j3 : (0 : Int) ≤ (a : Int) + 2 := by omega
    have j4 : (a : Int) + 2 ≤ (a : Int) + 2 + (nm.size : Int) := by omega
    have j5 : (a : Int) + 2 + (nm.size : Int) ≤ (s.size : Int) := by omega
    have j6 : (0 : Int) ≤ (a : Int) + 2 + (nm.size : Int) := by omega
    have n1 : ((a : Int) + 2).toNat = a + 2 := by omega
    have n2 : ((a : Int) + 2 + (nm.size : Int)).toNat = a + 2 + nm.size := by omega
    obtain ⟨pS, hpS⟩ : ∃ pS, s.extract a (a + 2) = pS := ⟨_, rfl⟩
    have hp : pS.toList = r.take 2 := by rw [← hpS, ByteArray.toList_eq, ext_list, hr, show a + 2 - a = 2 by omega]
    by_cases h2 : r.take 2 = [60, 47]
    · have t1 : (pS.toList == [60, 47]) = true := by rw [hp, h2]; rfl
      obtain ⟨fS, hfS⟩ : ∃ fS, s.extract (a + 2) (a + 2 + nm.size) = fS := ⟨_, rfl⟩
      have hf : fS.data.toList = (r.drop 2).take nm.data.toList.length := by rw [← hfS, ext_list, ← List.drop_drop, hr, hnl, show a + 2 + nm.size - (a + 2) = nm.size by omega]
      have hfz : fS.size = nm.size := by
        have : fS.size = fS.data.toList.length := by simp
        rw [this, hf, List.length_take, List.length_drop]
        omega
      have HEF := Lib.hid (hF fS hfz)
      rw [hf] at HEF
      have hlt : a + 2 + nm.size < s.size := by omega
      have hg : r[2 + nm.data.toList.length]? = some s[a + 2 + nm.size] := by
        rw [← hr, List.getElem?_drop, hnl, show a + (2 + nm.size) = a + 2 + nm.size by omega, Array.getElem?_toList]
        exact Array.getElem?_eq_getElem _
      rw [hg] at hcl
      dsimp only at hcl
      cases hef : Lib.equalFold ((r.drop 2).take nm.data.toList.length) nm.data.toList with
      | false =>
        have HV := Lib.hid (show closesF nm.data.toList r = false from by rw [hcl, hef]; simp)
        rw [hef] at HEF
        clear hef hg hf hfz hp h2 h1 hcl hF hdl hnl hr ha hn hc
        go_enter Tryz.func78, Tryz.ntmps78
        go_wp2_with ((go_at_call 113; refine HEF.out.mono ?_; rintro e w9 ⟨rfl, hb9⟩; have HB9 := Lib.hid hb9; have c0 := cell_be HC.out.c0 hb9; clear hb9))
        go_ret
        exact ⟨by first | (rw [HV.out]; rfl) | (simp only [HV.out]; rfl), HB9.out⟩
      | true =>
        rw [hef] at HEF
        have hcl2 : closesF nm.data.toList r = (blankB s[a + 2 + nm.size] || s[a + 2 + nm.size] == 47 || s[a + 2 + nm.size] == 62) := by rw [hcl, hef, h2, hnl, decide_eq_true h1]; simp
        have HBL := Lib.hid (fun u : World => blank_any s[a + 2 + nm.size] u)
        have HCL := Lib.hid hcl2
        clear hef hg hf hfz hp h2 h1 hcl hF hdl hnl hr ha hn hc hcl2
        cases hb : blankB s[a + 2 + nm.size] with
        | true =>
          have HV := Lib.hid (show closesF nm.data.toList r = true from by rw [HCL.out, hb]; rfl)
          rw [hb] at HBL
          clear hb
          go_enter Tryz.func78, Tryz.ntmps78
          go_wp2_with (first | (go_at_call 113; refine HEF.out.mono ?_; rintro e w9 ⟨rfl, hb9⟩; have HB9 := Lib.hid hb9; have c0 := cell_be HC.out.c0 hb9; clear hb9) | (go_at_call 114; refine (HBL.out _).mono ?_; rintro e w8 ⟨rfl, rfl⟩))
          go_ret
          exact ⟨by first | (rw [HV.out]; rfl) | (simp only [HV.out]; rfl), HB9.out⟩
        | false =>
          rw [hb] at HBL
          by_cases h47 : s[a + 2 + nm.size] = 47
          · have HV := Lib.hid (show closesF nm.data.toList r = true from by rw [HCL.out, hb, h47]; rfl)
            have e47 : ((s[a + 2 + nm.size].toNat : Int) == 47) = true := by rw [h47]; rfl
            have p247 : 47 ≤ s[a + 2 + nm.size].toNat := by rw [h47]; decide
            have p347 : s[a + 2 + nm.size].toNat ≤ 47 := by rw [h47]; decide
            clear hb h47
            go_enter Tryz.func78, Tryz.ntmps78
            go_wp2_with (first | (go_at_call 113; refine HEF.out.mono ?_; rintro e w9 ⟨rfl, hb9⟩; have HB9 := Lib.hid hb9; have c0 := cell_be HC.out.c0 hb9; clear hb9) | (go_at_call 114; refine (HBL.out _).mono ?_; rintro e w8 ⟨rfl, rfl⟩))
            go_ret
            exact ⟨by first | (rw [HV.out]; rfl) | (simp only [HV.out]; rfl), HB9.out⟩
          by_cases h62 : s[a + 2 + nm.size] = 62
          · have HV := Lib.hid (show closesF nm.data.toList r = true from by rw [HCL.out, hb, h62]; rfl)
            have e47 : ((s[a + 2 + nm.size].toNat : Int) == 47) = false := by rw [h62]; rfl
            have p47 : ¬ s[a + 2 + nm.size].toNat = 47 := by rw [h62]; decide
            clear h47
            have e62 : ((s[a + 2 + nm.size].toNat : Int) == 62) = true := by rw [h62]; rfl
            have p262 : 62 ≤ s[a + 2 + nm.size].toNat := by rw [h62]; decide
            have p362 : s[a + 2 + nm.size].toNat ≤ 62 := by rw [h62]; decide
            clear hb h62
            go_enter Tryz.func78, Tryz.ntmps78
            go_wp2_with (first | (go_at_call 113; refine HEF.out.mono ?_; rintro e w9 ⟨rfl, hb9⟩; have HB9 := Lib.hid hb9; have c0 := cell_be HC.out.c0 hb9; clear hb9) | (go_at_call 114; refine (HBL.out _).mono ?_; rintro e w8 ⟨rfl, rfl⟩))
            go_ret
            exact ⟨by first | (rw [HV.out]; rfl) | (simp only [HV.out]; rfl), HB9.out⟩
          have e47 : ((s[a + 2 + nm.size].toNat : Int) == 47) = false := u8_ne (c := 47) (by decide) h47
          have p47 : ¬ s[a + 2 + nm.size].toNat = 47 := fun e => h47 (UInt8.toNat_inj.1 e)
          have e62 : ((s[a + 2 + nm.size].toNat : Int) == 62) = false := u8_ne (c := 62) (by decide) h62
          have p62 : ¬ s[a + 2 + nm.size].toNat = 62 := fun e => h62 (UInt8.toNat_inj.1 e)
          have HV := Lib.hid (show closesF nm.data.toList r = false from by rw [HCL.out, hb, beq_eq_false_iff_ne.2 h47, beq_eq_false_iff_ne.2 h62]; rfl)
          clear hb h47 h62
          go_enter Tryz.func78, Tryz.ntmps78
          go_wp2_with (first | (go_at_call 113; refine HEF.out.mono ?_; rintro e w9 ⟨rfl, hb9⟩; have HB9 := Lib.hid hb9; have c0 := cell_be HC.out.c0 hb9; clear hb9) | (go_at_call 114; refine (HBL.out _).mono ?_; rintro e w8 ⟨rfl, rfl⟩))
          go_ret
          exact ⟨by first | (rw [HV.out]; rfl) | (simp only [HV.out]; rfl), HB9.out⟩
    · have t1 : (pS.toList == [60, 47]) = false := by rw [hp]; exact beq_eq_false_iff_ne.2 h2
      have HV := Lib.hid (show closesF nm.data.toList r = false from by rw [hcl, beq_eq_false_iff_ne.2 h2]; simp)
      clear hp h2 h1 hcl hF hdl hnl hr ha hn hc
      go_enter Tryz.func78, Tryz.ntmps78
      go_wp2_with fail
      go_ret
      exact ⟨by first | (rw [HV.out]; rfl) | (simp only [HV.out]; rfl), Below.refl _ _⟩
  · have g1 : ¬ (a : Int) + 2 + (nm.size : Int) < (s.size : Int) := by omega
    have g1' : decide ((a : Int) + 2 + (nm.size : Int) < (s.size : Int)) = false := decide_eq_false g1
    have HV := Lib.hid (show closesF nm.data.toList r = false from by rw [hcl, decide_eq_false (by omega)]; rfl)
    clear h1 hcl hF hdl hnl hr ha hn hc
    go_enter Tryz.func78, Tryz.ntmps78
    go_wp2_with fail
    go_ret
    exact ⟨by first | (rw [HV.out]; rfl) | (simp only [HV.out]; rfl), Below.refl _ _⟩
end Go.Proofs.YtegcedboeemedaaGreatDoor

/-
Tokens: the reader's raw.
-/
namespace Go.Proofs.YtegcedboeemedaaGreatDoor
open Go.RowKit Go.Cl
attribute [local go_sem ↓] Go.wp_at_zero Go.wp_at_succ
/-- What a raw text tells. -/
def rawTx (nm x : List UInt8) : List UInt8 := if rawN nm = 2 then entT x else x
theorem rawF_cons (nm : List UInt8) (b : UInt8) (t : List UInt8) : rawF nm (b :: t) = if closesF nm (b :: t) then ([], b :: t) else (b :: (rawF nm t).1, (rawF nm t).2) := rfl
set_option maxRecDepth 100000 in
set_option maxHeartbeats 8000000 in
theorem tkRaw_any (w0 w : World) (X : Nat) (s : ByteArray) (r : List UInt8) (nm : ByteArray) (E : Int) (v : Value) (n : Nat) (toks : List TkP) (hs : s.size ≤ 1000000) (h : Ra w0 w X s r E v n toks) (hl : n + r.length ≤ 1000000) (hF : FoldOk w0 X) (hn : nm.size ≤ 1000) (hna : ∀ b ∈ nm.data.toList, b.toNat < 128) :
    Calls Tryz.prog 69 #[.pointer (some ⟨X, 0, none⟩), .string nm] w fun e w' => e = .returned (.tuple #[]) ∧ ∃ v' n', Ra w0 w' X s (rawF nm.data.toList r).2 E v' n' (toks ++ (putT (rawF nm.data.toList r).1 (bs (rawTx nm.data.toList (rawF nm.data.toList r).1)) r.length (rawF nm.data.toList r).2.length).map (plOf s)) := by
  obtain ⟨⟨a, ha, hr, hc⟩, hm⟩ := h.rd
  have haz := drop_len ha hr
  have HAZ := Lib.hid haz
  have HH := Lib.hid h
  have HL := Lib.hid hl
  have HDA := Lib.hid hr
  have HFO := Lib.hid hF
  have HNA := Lib.hid hna
  have HRW := Lib.hid (fun u : World => raw_any nm u)
  have c1 := hc.c1
  clear hm hc hr ha haz h hl hF hna
  go_enter Tryz.func69, Tryz.ntmps69
  go_upto_region 1 with fail
  clear c1
  go_loopw [] (fun wr => ∃ rj x, Hid (r = x ++ rj) ∧ Hid (rawF nm.data.toList r = (x ++ (rawF nm.data.toList rj).1, (rawF nm.data.toList rj).2)) ∧ Hid (Ra w0 wr X s rj E v n toks)) (fun wr => s.size - atOf wr X)
  case atStart => exact ⟨r, [], Lib.hid rfl, Lib.hid rfl, HH⟩
  case round =>
    obtain ⟨rj, x, HJ, HT, HA⟩ := hrel
    obtain ⟨⟨aj, haj, hrj, hcj⟩, hmj⟩ := HA.out.rd
    have hzj := drop_len haj hrj
    have hlen := congrArg List.length HJ.out
    rw [List.length_append] at hlen
    have HAJ := Lib.hid (show aj = a + x.length by have := HAZ.out; omega)
    have HLF := Lib.hid HA.out.rd.left
    have i0 : (0 : Int) ≤ (aj : Int) := by omega
    have i1 : (aj : Int) ≤ (s.size : Int) := by omega
    have k0 : (0 : Int) ≤ (a : Int) := by omega
    have k1 : (a : Int) ≤ (aj : Int) := by have := HAJ.out; omega
    have HCJ := Lib.hid hcj
    have HMJ := Lib.hid hmj
    have HZJ := Lib.hid hzj
    cases rj with
    | nil =>
      have g0 : ¬ (aj : Int) < (s.size : Int) := by simp at hzj; omega
      have g1 : decide ((aj : Int) < (s.size : Int)) = false := decide_eq_false g0
      clear hrj hcj hmj hzj hlen haj
      go_upto_region 1 with fail
      refine wp_region_G (S := (fun W : World => W.cell? ⟨X, 0, none⟩ = some (.string s) ∧ W.cell? ⟨X, 1, none⟩ = some (.int .i64 (aj : Int)))) (T := []) (by kernel_rfl) ?_
      have hS : (fun W : World => W.cell? ⟨X, 0, none⟩ = some (.string s) ∧ W.cell? ⟨X, 1, none⟩ = some (.int .i64 (aj : Int))) wr.drew := ⟨HCJ.out.c0, HCJ.out.c1⟩
      refine wpAnyG_pureW (i := 0) (v := ?_) rfl (by kernel_rfl) (by kernel_rfl) (by kernel_rfl) (fun _ _ _ h => h) (by kernel_rfl) ?_ ?_
      rotate_left
      · intro w'
        first | (go_simp; done) | (go_simp; with_reducible rfl)
      refine wpAnyG_pureW (i := 1) (v := ?_) rfl (by kernel_rfl) (by kernel_rfl) (by kernel_rfl) (fun _ _ _ h => h) (by kernel_rfl) ?_ ?_
      rotate_left
      · intro w'
        first | (go_simp; done) | (go_simp; with_reducible rfl)
      refine wpAnyG_pureW (i := 2) (v := ?_) rfl (by kernel_rfl) (by kernel_rfl) (by kernel_rfl) (fun _ _ _ h => h) (by kernel_rfl) ?_ ?_
      rotate_left
      · intro w'
        first | (go_simp; done) | (go_simp; with_reducible rfl)
      refine wpAnyG_takeW (i := 3) (v := ?_) rfl (by kernel_rfl) (by kernel_rfl) (by kernel_rfl) (by kernel_rfl) (fun _ _ _ h => h) hS (by kernel_rfl) ?_ ?_
      rotate_left
      · intro w' hSw
        (try dsimp only at hSw)
        first | (go_simp; done) | (go_simp; with_reducible rfl)
      refine wpAnyG_pureW (i := 4) (v := ?_) rfl (by kernel_rfl) (by kernel_rfl) (by kernel_rfl) (fun _ _ _ h => h) (by kernel_rfl) ?_ ?_
      rotate_left
      · intro w'
        first | (go_simp; done) | (go_simp; with_reducible rfl)
      refine wpAnyG_pureW (i := 5) (v := ?_) rfl (by kernel_rfl) (by kernel_rfl) (by kernel_rfl) (fun _ _ _ h => h) (by kernel_rfl) ?_ ?_
      rotate_left
      · intro w'
        first | (go_simp; done) | (go_simp; with_reducible rfl)
      refine wpAnyG_pureW (i := 6) (v := ?_) rfl (by kernel_rfl) (by kernel_rfl) (by kernel_rfl) (fun _ _ _ h => h) (by kernel_rfl) ?_ ?_
      rotate_left
      · intro w'
        first | (go_simp; done) | (go_simp; with_reducible rfl)
      refine wpAnyG_takeW (i := 7) (v := ?_) rfl (by kernel_rfl) (by kernel_rfl) (by kernel_rfl) (by kernel_rfl) (fun _ _ _ h => h) hS (by kernel_rfl) ?_ ?_
      rotate_left
      · intro w' hSw
        (try dsimp only at hSw)
        first | (go_simp; done) | (go_simp; with_reducible rfl)
      refine wpAnyG_pureW (i := 8) (v := ?_) rfl (by kernel_rfl) (by kernel_rfl) (by kernel_rfl) (fun _ _ _ h => h) (by kernel_rfl) ?_ ?_
      rotate_left
      · intro w'
        first | (go_simp; done) | (go_simp; with_reducible rfl)
      refine wpAnyG_pureW (i := 9) (v := ?_) rfl (by kernel_rfl) (by kernel_rfl) (by kernel_rfl) (fun _ _ _ h => h) (by kernel_rfl) ?_ ?_
      rotate_left
      · intro w'
        first | (go_simp; done) | (go_simp; with_reducible rfl)
      refine wpAnyG_pureW (i := 10) (v := ?_) rfl (by kernel_rfl) (by kernel_rfl) (by kernel_rfl) (fun _ _ _ h => h) (by kernel_rfl) ?_ ?_
      rotate_left
      · intro w'
        first | (go_simp; done) | (go_simp; with_reducible rfl)
      refine wpAnyG_skipW (i := 11) rfl (by kernel_rfl) (by kernel_rfl) (by kernel_rfl) (fun _ _ _ h => h) (by kernel_rfl) ?_
      refine wpAnyG_skipW (i := 12) rfl (by kernel_rfl) (by kernel_rfl) (by kernel_rfl) (fun _ _ _ h => h) (by kernel_rfl) ?_
      refine wpAnyG_skipW (i := 13) rfl (by kernel_rfl) (by kernel_rfl) (by kernel_rfl) (fun _ _ _ h => h) (by kernel_rfl) ?_
      refine wpAnyG_skipW (i := 14) rfl (by kernel_rfl) (by kernel_rfl) (by kernel_rfl) (fun _ _ _ h => h) (by kernel_rfl) ?_
      refine wpAnyG_skipW (i := 15) rfl (by kernel_rfl) (by kernel_rfl) (by kernel_rfl) (fun _ _ _ h => h) (by kernel_rfl) ?_
      refine wpAnyG_skipW (i := 16) rfl (by kernel_rfl) (by kernel_rfl) (by kernel_rfl) (fun _ _ _ h => h) (by kernel_rfl) ?_
      refine wpAnyG_skipW (i := 17) rfl (by kernel_rfl) (by kernel_rfl) (by kernel_rfl) (fun _ _ _ h => h) (by kernel_rfl) ?_
      refine wpAnyG_skipW (i := 18) rfl (by kernel_rfl) (by kernel_rfl) (by kernel_rfl) (fun _ _ _ h => h) (by kernel_rfl) ?_
      refine wpAnyG_pureW (i := 19) (v := ?_) rfl (by kernel_rfl) (by kernel_rfl) (by kernel_rfl) (fun _ _ _ h => h) (by kernel_rfl) ?_ ?_
      rotate_left
      · intro w'
        first | (go_simp; done) | (go_simp; with_reducible rfl)
      clear hS
      refine wpAnyG_done (by kernel_rfl) ?_ _
      go_simp
      have HR := Lib.hid (show rawF nm.data.toList r = (x, ([] : List UInt8)) from by rw [HT.out, show rawF nm.data.toList [] = ([], []) from rfl]; simp)
      have HAQ := Lib.hid (show Ra w0 wr.drew X s ([] : List UInt8) E v n toks from HA.out.next (tdrew wr))
      have HCQ := Lib.hid (show Rc wr.drew X s aj E v from HCJ.out.next (tdrew wr))
      clear HT
      have c0 := HCJ.out.c0
      have c1 := HCJ.out.c1
      by_cases hx : x = []
      · have HX := Lib.hid hx
        have g5 : ((aj : Int) == (a : Int)) = true := by have := HAJ.out; rw [hx] at this; simp at this; simp [this]
        have g6 : aj = a := by have := HAJ.out; rw [hx] at this; simpa using this
        have HG := Lib.hid g6
        clear hx
        subst g6
        go_wp2_with fail
        refine bodyPost_ret (v := .tuple #[]) (by simp [results, Tryz.results69, go_sem]) rfl ?_
        exact ⟨rfl, v, n, by rw [HR.out, HX.out]; show Ra w0 _ X s ([] : List UInt8) E v n (toks ++ []); rw [List.append_nil]; first | exact HAQ.out | exact HAQ.out.next (tdrew _) | exact HA.out.next (tdrewN _ _) | exact HA.out.next (tdrew _)⟩
      · have HX := Lib.hid hx
        have HXL := Lib.hid (List.length_pos_iff.2 hx)
        have g5 : ((aj : Int) == (a : Int)) = false := beq_eq_false_iff_ne.2 (by have := HAJ.out; have := HXL.out; omega)
        have g6 : ¬ (aj : Int) = (a : Int) := by have := HAJ.out; have := HXL.out; omega
        have g7 : ¬ aj = a := by have := HAJ.out; have := HXL.out; omega
        clear hx
        obtain ⟨xS, hxS⟩ : ∃ xS : ByteArray, (⟨x.toArray⟩ : ByteArray) = xS := ⟨_, rfl⟩
        have hxt : s.extract a aj = xS := by rw [← hxS]; exact ext_from (r := ([] : List UInt8)) (by rw [HDA.out, HJ.out]) HAJ.out
        have HXZ := Lib.hid (show x.length ≤ 1000000 from by have := HZJ.out; have := HAJ.out; omega)
        have HTX := Lib.hid (fun (u : World) => (show Calls Tryz.prog 103 #[.string xS] u fun e w' => e = .returned (.string (bs (entT x))) ∧ Below u.heap.size u w' from by rw [← hxS]; exact text_any ⟨x.toArray⟩ u (by have := HXZ.out; show x.length ≤ _; omega)))
        have HSM := Lib.hid (show (bs (entT x)).size ≤ 1152921504606846976 ∧ xS.size ≤ 1152921504606846976 from ⟨Nat.le_trans (readL_len (bs x) false) (by have := HXZ.out; show 4 * x.length ≤ _; omega), by rw [← hxS]; have := HXZ.out; show x.length ≤ _; omega⟩)
        have HNN := Lib.hid (show n ≤ 1000000 from by have := HL.out; omega)
        have HPU := Lib.hid (fun (V : World) (tx : ByteArray) (htx : tx.size ≤ 1152921504606846976) (hV : Ra w0 V X s ([] : List UInt8) E v n toks) => tkPut_any w0 V X s ([] : List UInt8) E v n toks (tkT tx) none 0 0 (a : Int) hs hV Sl.nil rfl (Nat.zero_le _) htx (WalkArith.wf_i64 (by have := HZJ.out; have := HAJ.out; omega)) HNN.out)
        have HXS := Lib.hid hxS
        clear hxS
        go_upto_region 4 with fail
        go_quiet (fail)
        have HAQ2 := Lib.hid (fun k : Nat => HA.out.next (tdrewN wr k))
        by_cases h2 : rawN nm.data.toList = 2
        · have H2 := Lib.hid h2
          rw [h2] at HRW
          clear h2
          go_wp2_with (first | (go_at_call 68; refine (HRW.out _).mono ?_; rintro e2 V0 ⟨rfl, hV0⟩; have HA0 := Lib.hid (show Ra w0 V0 X s ([] : List UInt8) E v n toks from by rw [hV0]; exact HAQ2.out _); clear hV0) | (go_at_call 103; refine (HTX.out _).mono ?_; rintro e3 V1 ⟨rfl, hv1⟩; have HA1 := Lib.hid (HA0.out.next hv1); clear hv1) | (go_at_call 67; refine (HPU.out _ _ HSM.out.1 HA1.out).mono ?_; rintro e4 V2 ⟨rfl, v', hv2⟩; have HV2 := Lib.hid hv2; clear hv2))
          go_end0
          exact ⟨rfl, v', n + 1, by
            rw [HR.out]
            have h2 : ((s.size - r.length : Nat) : Int) = (a : Int) := by have := HAZ.out; omega
            have h4 : Ra w0 V2 X s ([] : List UInt8) E v' (n + 1) (toks ++ (putT x (bs (entT x)) r.length (([] : List UInt8)).length).map (plOf s)) := by
              rw [show putT x (bs (entT x)) r.length (([] : List UInt8)).length = [(tkT (bs (entT x)), r.length, (([] : List UInt8)).length)] from if_neg HX.out]
              show Ra w0 V2 X s ([] : List UInt8) E v' (n + 1) (toks ++ [(tkT (bs (entT x)), ((s.size - r.length : Nat) : Int), ((s.size - (([] : List UInt8)).length : Nat) : Int))])
              rw [h2]
              exact HV2.out
            first
              | exact h4
              | (show Ra w0 V2 X s ([] : List UInt8) E v' (n + 1) (toks ++ (putT x (bs (rawTx nm.data.toList x)) r.length (([] : List UInt8)).length).map (plOf s))
                 rw [show rawTx nm.data.toList x = entT x from if_pos H2.out]
                 exact h4)⟩
        · have H2 := Lib.hid h2
          have e2 : ((rawN nm.data.toList : Int) == 2) = false := beq_eq_false_iff_ne.2 (by omega)
          have p2 : ¬ (rawN nm.data.toList : Int) = 2 := by omega
          have p3 : ¬ rawN nm.data.toList = 2 := h2
          clear h2
          go_wp2_with (first | (go_at_call 68; refine (HRW.out _).mono ?_; rintro e2 V0 ⟨rfl, hV0⟩; have HA0 := Lib.hid (show Ra w0 V0 X s ([] : List UInt8) E v n toks from by rw [hV0]; exact HAQ2.out _); clear hV0) | (go_at_call 67; refine (HPU.out _ _ HSM.out.2 HA0.out).mono ?_; rintro e4 V2 ⟨rfl, v', hv2⟩; have HV2 := Lib.hid hv2; clear hv2))
          go_end0
          exact ⟨rfl, v', n + 1, by
            rw [HR.out]
            have h2 : ((s.size - r.length : Nat) : Int) = (a : Int) := by have := HAZ.out; omega
            have h4 : Ra w0 V2 X s ([] : List UInt8) E v' (n + 1) (toks ++ (putT x (bs x) r.length (([] : List UInt8)).length).map (plOf s)) := by
              rw [show putT x (bs x) r.length (([] : List UInt8)).length = [(tkT (bs x), r.length, (([] : List UInt8)).length)] from if_neg HX.out]
              show Ra w0 V2 X s ([] : List UInt8) E v' (n + 1) (toks ++ [(tkT (bs x), ((s.size - r.length : Nat) : Int), ((s.size - (([] : List UInt8)).length : Nat) : Int))])
              rw [h2]
              rw [show bs x = xS from HXS.out]
              exact HV2.out
            first
              | exact h4
              | (show Ra w0 V2 X s ([] : List UInt8) E v' (n + 1) (toks ++ (putT x (bs (rawTx nm.data.toList x)) r.length (([] : List UInt8)).length).map (plOf s))
                 rw [show rawTx nm.data.toList x = x from if_neg H2.out]
                 exact h4)⟩
    | cons c t =>
      have g0 : (aj : Int) < (s.size : Int) := by rw [List.length_cons] at hzj; omega
      have g1 : decide ((aj : Int) < (s.size : Int)) = true := decide_eq_true g0
      have HCL := Lib.hid (tkCloses_any X s aj aj (c :: t) nm E v wr.drew hs hcj haj hrj hn (fun y hy => HFO.out wr.drew (HA.out.low.trans ((tdrew wr).mono (Nat.le_of_lt HA.out.xlt))) y nm (Nat.le_of_eq hy) (by omega) HNA.out))
      have hr2 := (at_head hrj).2.2
      have HR2 := Lib.hid hr2
      have w1 : IntKind.i64.wrap ((aj : Int) + 1) = (aj : Int) + 1 := IntWalk.i64_in _ (by omega)
      have hst := rawF_cons nm.data.toList c t
      clear hrj hcj hmj hlen haj hr2
      cases hcf : closesF nm.data.toList (c :: t) with
      | false =>
        rw [hcf] at HCL
        rw [hcf, if_neg (by decide)] at hst
        have HST := Lib.hid hst
        clear hst hcf hzj
        go_upto_region 1 with fail
        refine wp_region_G (S := (fun W : World => W.cell? ⟨X, 0, none⟩ = some (.string s) ∧ W.cell? ⟨X, 1, none⟩ = some (.int .i64 (aj : Int)))) (T := []) (by kernel_rfl) ?_
        have hS : (fun W : World => W.cell? ⟨X, 0, none⟩ = some (.string s) ∧ W.cell? ⟨X, 1, none⟩ = some (.int .i64 (aj : Int))) wr.drew := ⟨HCJ.out.c0, HCJ.out.c1⟩
        refine wpAnyG_pureW (i := 0) (v := ?_) rfl (by kernel_rfl) (by kernel_rfl) (by kernel_rfl) (fun _ _ _ h => h) (by kernel_rfl) ?_ ?_
        rotate_left
        · intro w'
          first | (go_simp; done) | (go_simp; with_reducible rfl)
        refine wpAnyG_pureW (i := 1) (v := ?_) rfl (by kernel_rfl) (by kernel_rfl) (by kernel_rfl) (fun _ _ _ h => h) (by kernel_rfl) ?_ ?_
        rotate_left
        · intro w'
          first | (go_simp; done) | (go_simp; with_reducible rfl)
        refine wpAnyG_pureW (i := 2) (v := ?_) rfl (by kernel_rfl) (by kernel_rfl) (by kernel_rfl) (fun _ _ _ h => h) (by kernel_rfl) ?_ ?_
        rotate_left
        · intro w'
          first | (go_simp; done) | (go_simp; with_reducible rfl)
        refine wpAnyG_takeW (i := 3) (v := ?_) rfl (by kernel_rfl) (by kernel_rfl) (by kernel_rfl) (by kernel_rfl) (fun _ _ _ h => h) hS (by kernel_rfl) ?_ ?_
        rotate_left
        · intro w' hSw
          (try dsimp only at hSw)
          first | (go_simp; done) | (go_simp; with_reducible rfl)
        refine wpAnyG_pureW (i := 4) (v := ?_) rfl (by kernel_rfl) (by kernel_rfl) (by kernel_rfl) (fun _ _ _ h => h) (by kernel_rfl) ?_ ?_
        rotate_left
        · intro w'
          first | (go_simp; done) | (go_simp; with_reducible rfl)
        refine wpAnyG_pureW (i := 5) (v := ?_) rfl (by kernel_rfl) (by kernel_rfl) (by kernel_rfl) (fun _ _ _ h => h) (by kernel_rfl) ?_ ?_
        rotate_left
        · intro w'
          first | (go_simp; done) | (go_simp; with_reducible rfl)
        refine wpAnyG_pureW (i := 6) (v := ?_) rfl (by kernel_rfl) (by kernel_rfl) (by kernel_rfl) (fun _ _ _ h => h) (by kernel_rfl) ?_ ?_
        rotate_left
        · intro w'
          first | (go_simp; done) | (go_simp; with_reducible rfl)
        refine wpAnyG_takeW (i := 7) (v := ?_) rfl (by kernel_rfl) (by kernel_rfl) (by kernel_rfl) (by kernel_rfl) (fun _ _ _ h => h) hS (by kernel_rfl) ?_ ?_
        rotate_left
        · intro w' hSw
          (try dsimp only at hSw)
          first | (go_simp; done) | (go_simp; with_reducible rfl)
        refine wpAnyG_pureW (i := 8) (v := ?_) rfl (by kernel_rfl) (by kernel_rfl) (by kernel_rfl) (fun _ _ _ h => h) (by kernel_rfl) ?_ ?_
        rotate_left
        · intro w'
          first | (go_simp; done) | (go_simp; with_reducible rfl)
        refine wpAnyG_pureW (i := 9) (v := ?_) rfl (by kernel_rfl) (by kernel_rfl) (by kernel_rfl) (fun _ _ _ h => h) (by kernel_rfl) ?_ ?_
        rotate_left
        · intro w'
          first | (go_simp; done) | (go_simp; with_reducible rfl)
        refine wpAnyG_pureW (i := 10) (v := ?_) rfl (by kernel_rfl) (by kernel_rfl) (by kernel_rfl) (fun _ _ _ h => h) (by kernel_rfl) ?_ ?_
        rotate_left
        · intro w'
          first | (go_simp; done) | (go_simp; with_reducible rfl)
        refine wpAnyG_pureW (i := 11) (v := ?_) rfl (by kernel_rfl) (by kernel_rfl) (by kernel_rfl) (fun _ _ _ h => h) (by kernel_rfl) ?_ ?_
        rotate_left
        · intro w'
          first | (go_simp; done) | (go_simp; with_reducible rfl)
        refine wpAnyG_pureW (i := 12) (v := ?_) rfl (by kernel_rfl) (by kernel_rfl) (by kernel_rfl) (fun _ _ _ h => h) (by kernel_rfl) ?_ ?_
        rotate_left
        · intro w'
          first | (go_simp; done) | (go_simp; with_reducible rfl)
        refine wpAnyG_pureW (i := 13) (v := ?_) rfl (by kernel_rfl) (by kernel_rfl) (by kernel_rfl) (fun _ _ _ h => h) (by kernel_rfl) ?_ ?_
        rotate_left
        · intro w'
          first | (go_simp; done) | (go_simp; with_reducible rfl)
        refine wpAnyG_pureW (i := 14) (v := ?_) rfl (by kernel_rfl) (by kernel_rfl) (by kernel_rfl) (fun _ _ _ h => h) (by kernel_rfl) ?_ ?_
        rotate_left
        · intro w'
          first | (go_simp; done) | (go_simp; with_reducible rfl)
        refine wpAnyG_takeW (i := 15) (v := ?_) rfl (by kernel_rfl) (by kernel_rfl) (by kernel_rfl) (by kernel_rfl) (fun _ _ _ h => h) hS (by kernel_rfl) ?_ ?_
        rotate_left
        · intro w' hSw
          (try dsimp only at hSw)
          first | (go_simp; done) | (go_simp; with_reducible rfl)
        refine wpAnyG_pureW (i := 16) (v := ?_) rfl (by kernel_rfl) (by kernel_rfl) (by kernel_rfl) (fun _ _ _ h => h) (by kernel_rfl) ?_ ?_
        rotate_left
        · intro w'
          first | (go_simp; done) | (go_simp; with_reducible rfl)
        refine wpAnyG_oneW (i := 17) (by kernel_rfl) rfl (by kernel_rfl) (fun K hK => ?_)
        go_simp
        go_at_call 78
        refine HCL.out.mono ?_
        rintro e' V1 ⟨rfl, hv1⟩
        have HV1 := Lib.hid ((tdrew wr).trans hv1)
        clear hv1
        go_wp2_with fail
        refine hK.out _ _ (fun _ _ => ⟨cell_be HCJ.out.c0 HV1.out, cell_be HCJ.out.c1 HV1.out⟩) ?_
        clear hK K hS
        have hS : (fun W : World => W.cell? ⟨X, 0, none⟩ = some (.string s) ∧ W.cell? ⟨X, 1, none⟩ = some (.int .i64 (aj : Int))) V1 := ⟨cell_be HCJ.out.c0 HV1.out, cell_be HCJ.out.c1 HV1.out⟩
        refine wpAnyG_pureW (i := 18) (v := ?_) rfl (by kernel_rfl) (by kernel_rfl) (by kernel_rfl) (fun _ _ _ h => h) (by kernel_rfl) ?_ ?_
        rotate_left
        · intro w'
          first | (go_simp; done) | (go_simp; with_reducible rfl)
        refine wpAnyG_pureW (i := 19) (v := ?_) rfl (by kernel_rfl) (by kernel_rfl) (by kernel_rfl) (fun _ _ _ h => h) (by kernel_rfl) ?_ ?_
        rotate_left
        · intro w'
          first | (go_simp; done) | (go_simp; with_reducible rfl)
        clear hS
        refine wpAnyG_done (by kernel_rfl) ?_ _
        go_simp
        have c0 := cell_be HCJ.out.c0 HV1.out
        have c1 := cell_be HCJ.out.c1 HV1.out
        have f1 := (HCJ.out.next HV1.out).fr 1
        go_wp2_with fail
        have hst2 := Rd.step (w := V1) (n := (aj : Int) + 1) (b := aj + 1) (by omega) (by omega) HR2.out (HCJ.out.next HV1.out) (mx_next HMJ.out HV1.out)
        have hra := (HA.out.next HV1.out).go hst2.2 hst2.1
        refine ⟨⟨t, x ++ [c], Lib.hid (by rw [HJ.out, List.append_assoc]; rfl), Lib.hid (by rw [HT.out, HST.out]; simp), Lib.hid hra⟩, ?_⟩
        rw [hra.rd.left, HLF.out, List.length_cons]
        omega
      | true =>
        rw [hcf] at HCL
        rw [hcf, if_pos rfl] at hst
        have HST := Lib.hid hst
        clear hst hcf hzj
        go_upto_region 1 with fail
        refine wp_region_G (S := (fun W : World => W.cell? ⟨X, 0, none⟩ = some (.string s) ∧ W.cell? ⟨X, 1, none⟩ = some (.int .i64 (aj : Int)))) (T := []) (by kernel_rfl) ?_
        have hS : (fun W : World => W.cell? ⟨X, 0, none⟩ = some (.string s) ∧ W.cell? ⟨X, 1, none⟩ = some (.int .i64 (aj : Int))) wr.drew := ⟨HCJ.out.c0, HCJ.out.c1⟩
        refine wpAnyG_pureW (i := 0) (v := ?_) rfl (by kernel_rfl) (by kernel_rfl) (by kernel_rfl) (fun _ _ _ h => h) (by kernel_rfl) ?_ ?_
        rotate_left
        · intro w'
          first | (go_simp; done) | (go_simp; with_reducible rfl)
        refine wpAnyG_pureW (i := 1) (v := ?_) rfl (by kernel_rfl) (by kernel_rfl) (by kernel_rfl) (fun _ _ _ h => h) (by kernel_rfl) ?_ ?_
        rotate_left
        · intro w'
          first | (go_simp; done) | (go_simp; with_reducible rfl)
        refine wpAnyG_pureW (i := 2) (v := ?_) rfl (by kernel_rfl) (by kernel_rfl) (by kernel_rfl) (fun _ _ _ h => h) (by kernel_rfl) ?_ ?_
        rotate_left
        · intro w'
          first | (go_simp; done) | (go_simp; with_reducible rfl)
        refine wpAnyG_takeW (i := 3) (v := ?_) rfl (by kernel_rfl) (by kernel_rfl) (by kernel_rfl) (by kernel_rfl) (fun _ _ _ h => h) hS (by kernel_rfl) ?_ ?_
        rotate_left
        · intro w' hSw
          (try dsimp only at hSw)
          first | (go_simp; done) | (go_simp; with_reducible rfl)
        refine wpAnyG_pureW (i := 4) (v := ?_) rfl (by kernel_rfl) (by kernel_rfl) (by kernel_rfl) (fun _ _ _ h => h) (by kernel_rfl) ?_ ?_
        rotate_left
        · intro w'
          first | (go_simp; done) | (go_simp; with_reducible rfl)
        refine wpAnyG_pureW (i := 5) (v := ?_) rfl (by kernel_rfl) (by kernel_rfl) (by kernel_rfl) (fun _ _ _ h => h) (by kernel_rfl) ?_ ?_
        rotate_left
        · intro w'
          first | (go_simp; done) | (go_simp; with_reducible rfl)
        refine wpAnyG_pureW (i := 6) (v := ?_) rfl (by kernel_rfl) (by kernel_rfl) (by kernel_rfl) (fun _ _ _ h => h) (by kernel_rfl) ?_ ?_
        rotate_left
        · intro w'
          first | (go_simp; done) | (go_simp; with_reducible rfl)
        refine wpAnyG_takeW (i := 7) (v := ?_) rfl (by kernel_rfl) (by kernel_rfl) (by kernel_rfl) (by kernel_rfl) (fun _ _ _ h => h) hS (by kernel_rfl) ?_ ?_
        rotate_left
        · intro w' hSw
          (try dsimp only at hSw)
          first | (go_simp; done) | (go_simp; with_reducible rfl)
        refine wpAnyG_pureW (i := 8) (v := ?_) rfl (by kernel_rfl) (by kernel_rfl) (by kernel_rfl) (fun _ _ _ h => h) (by kernel_rfl) ?_ ?_
        rotate_left
        · intro w'
          first | (go_simp; done) | (go_simp; with_reducible rfl)
        refine wpAnyG_pureW (i := 9) (v := ?_) rfl (by kernel_rfl) (by kernel_rfl) (by kernel_rfl) (fun _ _ _ h => h) (by kernel_rfl) ?_ ?_
        rotate_left
        · intro w'
          first | (go_simp; done) | (go_simp; with_reducible rfl)
        refine wpAnyG_pureW (i := 10) (v := ?_) rfl (by kernel_rfl) (by kernel_rfl) (by kernel_rfl) (fun _ _ _ h => h) (by kernel_rfl) ?_ ?_
        rotate_left
        · intro w'
          first | (go_simp; done) | (go_simp; with_reducible rfl)
        refine wpAnyG_pureW (i := 11) (v := ?_) rfl (by kernel_rfl) (by kernel_rfl) (by kernel_rfl) (fun _ _ _ h => h) (by kernel_rfl) ?_ ?_
        rotate_left
        · intro w'
          first | (go_simp; done) | (go_simp; with_reducible rfl)
        refine wpAnyG_pureW (i := 12) (v := ?_) rfl (by kernel_rfl) (by kernel_rfl) (by kernel_rfl) (fun _ _ _ h => h) (by kernel_rfl) ?_ ?_
        rotate_left
        · intro w'
          first | (go_simp; done) | (go_simp; with_reducible rfl)
        refine wpAnyG_pureW (i := 13) (v := ?_) rfl (by kernel_rfl) (by kernel_rfl) (by kernel_rfl) (fun _ _ _ h => h) (by kernel_rfl) ?_ ?_
        rotate_left
        · intro w'
          first | (go_simp; done) | (go_simp; with_reducible rfl)
        refine wpAnyG_pureW (i := 14) (v := ?_) rfl (by kernel_rfl) (by kernel_rfl) (by kernel_rfl) (fun _ _ _ h => h) (by kernel_rfl) ?_ ?_
        rotate_left
        · intro w'
          first | (go_simp; done) | (go_simp; with_reducible rfl)
        refine wpAnyG_takeW (i := 15) (v := ?_) rfl (by kernel_rfl) (by kernel_rfl) (by kernel_rfl) (by kernel_rfl) (fun _ _ _ h => h) hS (by kernel_rfl) ?_ ?_
        rotate_left
        · intro w' hSw
          (try dsimp only at hSw)
          first | (go_simp; done) | (go_simp; with_reducible rfl)
        refine wpAnyG_pureW (i := 16) (v := ?_) rfl (by kernel_rfl) (by kernel_rfl) (by kernel_rfl) (fun _ _ _ h => h) (by kernel_rfl) ?_ ?_
        rotate_left
        · intro w'
          first | (go_simp; done) | (go_simp; with_reducible rfl)
        refine wpAnyG_oneW (i := 17) (by kernel_rfl) rfl (by kernel_rfl) (fun K hK => ?_)
        go_simp
        go_at_call 78
        refine HCL.out.mono ?_
        rintro e' V1 ⟨rfl, hv1⟩
        have HV1 := Lib.hid ((tdrew wr).trans hv1)
        clear hv1
        go_wp2_with fail
        refine hK.out _ _ (fun _ _ => ⟨cell_be HCJ.out.c0 HV1.out, cell_be HCJ.out.c1 HV1.out⟩) ?_
        clear hK K hS
        have hS : (fun W : World => W.cell? ⟨X, 0, none⟩ = some (.string s) ∧ W.cell? ⟨X, 1, none⟩ = some (.int .i64 (aj : Int))) V1 := ⟨cell_be HCJ.out.c0 HV1.out, cell_be HCJ.out.c1 HV1.out⟩
        refine wpAnyG_pureW (i := 18) (v := ?_) rfl (by kernel_rfl) (by kernel_rfl) (by kernel_rfl) (fun _ _ _ h => h) (by kernel_rfl) ?_ ?_
        rotate_left
        · intro w'
          first | (go_simp; done) | (go_simp; with_reducible rfl)
        refine wpAnyG_pureW (i := 19) (v := ?_) rfl (by kernel_rfl) (by kernel_rfl) (by kernel_rfl) (fun _ _ _ h => h) (by kernel_rfl) ?_ ?_
        rotate_left
        · intro w'
          first | (go_simp; done) | (go_simp; with_reducible rfl)
        clear hS
        refine wpAnyG_done (by kernel_rfl) ?_ _
        go_simp
        have HR := Lib.hid (show rawF nm.data.toList r = (x, (c :: t)) from by rw [HT.out, HST.out]; simp)
        have HAQ := Lib.hid (show Ra w0 V1 X s (c :: t) E v n toks from HA.out.next HV1.out)
        have HCQ := Lib.hid (show Rc V1 X s aj E v from HCJ.out.next HV1.out)
        clear HT
        have c0 := HCQ.out.c0
        have c1 := HCQ.out.c1
        by_cases hx : x = []
        · have HX := Lib.hid hx
          have g5 : ((aj : Int) == (a : Int)) = true := by have := HAJ.out; rw [hx] at this; simp at this; simp [this]
          have g6 : aj = a := by have := HAJ.out; rw [hx] at this; simpa using this
          have HG := Lib.hid g6
          clear hx
          subst g6
          go_wp2_with fail
          refine bodyPost_ret (v := .tuple #[]) (by simp [results, Tryz.results69, go_sem]) rfl ?_
          exact ⟨rfl, v, n, by rw [HR.out, HX.out]; show Ra w0 _ X s (c :: t) E v n (toks ++ []); rw [List.append_nil]; first | exact HAQ.out | exact HAQ.out.next (tdrew _) | exact HA.out.next (tdrewN _ _) | exact HA.out.next (tdrew _)⟩
        · have HX := Lib.hid hx
          have HXL := Lib.hid (List.length_pos_iff.2 hx)
          have g5 : ((aj : Int) == (a : Int)) = false := beq_eq_false_iff_ne.2 (by have := HAJ.out; have := HXL.out; omega)
          have g6 : ¬ (aj : Int) = (a : Int) := by have := HAJ.out; have := HXL.out; omega
          have g7 : ¬ aj = a := by have := HAJ.out; have := HXL.out; omega
          clear hx
          obtain ⟨xS, hxS⟩ : ∃ xS : ByteArray, (⟨x.toArray⟩ : ByteArray) = xS := ⟨_, rfl⟩
          have hxt : s.extract a aj = xS := by rw [← hxS]; exact ext_from (r := (c :: t)) (by rw [HDA.out, HJ.out]) HAJ.out
          have HXZ := Lib.hid (show x.length ≤ 1000000 from by have := HZJ.out; have := HAJ.out; omega)
          have HTX := Lib.hid (fun (u : World) => (show Calls Tryz.prog 103 #[.string xS] u fun e w' => e = .returned (.string (bs (entT x))) ∧ Below u.heap.size u w' from by rw [← hxS]; exact text_any ⟨x.toArray⟩ u (by have := HXZ.out; show x.length ≤ _; omega)))
          have HSM := Lib.hid (show (bs (entT x)).size ≤ 1152921504606846976 ∧ xS.size ≤ 1152921504606846976 from ⟨Nat.le_trans (readL_len (bs x) false) (by have := HXZ.out; show 4 * x.length ≤ _; omega), by rw [← hxS]; have := HXZ.out; show x.length ≤ _; omega⟩)
          have HNN := Lib.hid (show n ≤ 1000000 from by have := HL.out; omega)
          have HPU := Lib.hid (fun (V : World) (tx : ByteArray) (htx : tx.size ≤ 1152921504606846976) (hV : Ra w0 V X s (c :: t) E v n toks) => tkPut_any w0 V X s (c :: t) E v n toks (tkT tx) none 0 0 (a : Int) hs hV Sl.nil rfl (Nat.zero_le _) htx (WalkArith.wf_i64 (by have := HZJ.out; have := HAJ.out; omega)) HNN.out)
          have HXS := Lib.hid hxS
          clear hxS
          go_upto_region 4 with fail
          go_quiet (fail)
          have HAQ2 := Lib.hid (fun k : Nat => HAQ.out.next (tdrewN _ k))
          by_cases h2 : rawN nm.data.toList = 2
          · have H2 := Lib.hid h2
            rw [h2] at HRW
            clear h2
            go_wp2_with (first | (go_at_call 68; refine (HRW.out _).mono ?_; rintro e2 V0 ⟨rfl, hV0⟩; have HA0 := Lib.hid (show Ra w0 V0 X s (c :: t) E v n toks from by rw [hV0]; exact HAQ2.out _); clear hV0) | (go_at_call 103; refine (HTX.out _).mono ?_; rintro e3 V1 ⟨rfl, hv1⟩; have HA1 := Lib.hid (HA0.out.next hv1); clear hv1) | (go_at_call 67; refine (HPU.out _ _ HSM.out.1 HA1.out).mono ?_; rintro e4 V2 ⟨rfl, v', hv2⟩; have HV2 := Lib.hid hv2; clear hv2))
            go_end0
            exact ⟨rfl, v', n + 1, by
              rw [HR.out]
              have h2 : ((s.size - r.length : Nat) : Int) = (a : Int) := by have := HAZ.out; omega
              have h4 : Ra w0 V2 X s (c :: t) E v' (n + 1) (toks ++ (putT x (bs (entT x)) r.length ((c :: t)).length).map (plOf s)) := by
                rw [show putT x (bs (entT x)) r.length ((c :: t)).length = [(tkT (bs (entT x)), r.length, ((c :: t)).length)] from if_neg HX.out]
                show Ra w0 V2 X s (c :: t) E v' (n + 1) (toks ++ [(tkT (bs (entT x)), ((s.size - r.length : Nat) : Int), ((s.size - ((c :: t)).length : Nat) : Int))])
                rw [h2]
                exact HV2.out
              first
                | exact h4
                | (show Ra w0 V2 X s (c :: t) E v' (n + 1) (toks ++ (putT x (bs (rawTx nm.data.toList x)) r.length ((c :: t)).length).map (plOf s))
                   rw [show rawTx nm.data.toList x = entT x from if_pos H2.out]
                   exact h4)⟩
          · have H2 := Lib.hid h2
            have e2 : ((rawN nm.data.toList : Int) == 2) = false := beq_eq_false_iff_ne.2 (by omega)
            have p2 : ¬ (rawN nm.data.toList : Int) = 2 := by omega
            have p3 : ¬ rawN nm.data.toList = 2 := h2
            clear h2
            go_wp2_with (first | (go_at_call 68; refine (HRW.out _).mono ?_; rintro e2 V0 ⟨rfl, hV0⟩; have HA0 := Lib.hid (show Ra w0 V0 X s (c :: t) E v n toks from by rw [hV0]; exact HAQ2.out _); clear hV0) | (go_at_call 67; refine (HPU.out _ _ HSM.out.2 HA0.out).mono ?_; rintro e4 V2 ⟨rfl, v', hv2⟩; have HV2 := Lib.hid hv2; clear hv2))
            go_end0
            exact ⟨rfl, v', n + 1, by
              rw [HR.out]
              have h2 : ((s.size - r.length : Nat) : Int) = (a : Int) := by have := HAZ.out; omega
              have h4 : Ra w0 V2 X s (c :: t) E v' (n + 1) (toks ++ (putT x (bs x) r.length ((c :: t)).length).map (plOf s)) := by
                rw [show putT x (bs x) r.length ((c :: t)).length = [(tkT (bs x), r.length, ((c :: t)).length)] from if_neg HX.out]
                show Ra w0 V2 X s (c :: t) E v' (n + 1) (toks ++ [(tkT (bs x), ((s.size - r.length : Nat) : Int), ((s.size - ((c :: t)).length : Nat) : Int))])
                rw [h2]
                rw [show bs x = xS from HXS.out]
                exact HV2.out
              first
                | exact h4
                | (show Ra w0 V2 X s (c :: t) E v' (n + 1) (toks ++ (putT x (bs (rawTx nm.data.toList x)) r.length ((c :: t)).length).map (plOf s))
                   rw [show rawTx nm.data.toList x = x from if_neg H2.out]
                   exact h4)⟩
end Go.Proofs.YtegcedboeemedaaGreatDoor

/-
Tokens: the reader's declared.
-/
namespace Go.Proofs.YtegcedboeemedaaGreatDoor
open Go.RowKit Go.Cl
attribute [local go_sem ↓] Go.wp_at_zero Go.wp_at_succ
/-- IndexAny of the blanks: in each world that agrees below a block. -/
def AnyOk (w0 : World) (X : Nat) : Prop := ∀ u : World, Below X w0 u → ∀ s : ByteArray, s.size ≤ 1000000 →
  Calls Tryz.prog 143 #[.string s, .string ⟨#[32, 9, 10, 12, 13]⟩] u fun e w' => e = .returned (.int .i64 (Lib.indexAny s.data.toList [32, 9, 10, 12, 13])) ∧ Below u.heap.size u w'
/-- A token without attributes, as a value. -/
abbrev tokV (t : Tk) : Value := .agg (tokC t.kind t.name (.slice none 0 0) t.text t.self 0 0)
theorem pre_parts {s p : List UInt8} (h : Lib.hasPrefix s p = true) : ∃ t, s = p ++ t := by
  obtain ⟨t, ht⟩ := List.isPrefixOf_iff_prefix.1 h
  exact ⟨t, ht.symm⟩
theorem rd_at {w : World} {X : Nat} {s : ByteArray} {r : List UInt8} {E : Int} {O : Value} (h : Rd w X s r E O) : ∃ a, a + r.length = s.size ∧ s.data.toList.drop a = r ∧ Rc w X s a E O := by
  obtain ⟨a, ha, hr, hc⟩ := h.at_
  exact ⟨a, drop_len ha hr, hr, hc⟩
theorem low_grown {w0 w w' : World} {X : Nat} (h : Below X w0 w) (hg : w.grownBy w' (some X)) (hX : X < w.heap.size) : Below X w0 w' :=
  h.trans ⟨hg.os, hg.tape, hg.output, hg.size, fun k hk => hg.block k (Nat.lt_trans hk hX) (by intro e; injection e with e; omega)⟩
def isBl (b : UInt8) : Bool := ([32, 9, 10, 12, 13] : List UInt8).contains b
theorem isBl_eq (b : UInt8) : isBl b = blankB b := by
  have h : ∀ n : Fin 256, isBl (UInt8.ofNat n.val) = blankB (UInt8.ofNat n.val) := by decide +kernel
  have h2 := h ⟨b.toNat, b.toNat_lt⟩
  simpa using h2
theorem trim_bl (l : List UInt8) : Lib.trimLeftS l [32, 9, 10, 12, 13] = l.dropWhile blankB := by
  unfold Lib.trimLeftS
  congr 1
  funext b
  exact isBl_eq b
theorem any_bl (l : List UInt8) : (Lib.indexAny l [32, 9, 10, 12, 13] = -1 ∧ l.takeWhile (fun b => !blankB b) = l) ∨ (∃ i : Nat, Lib.indexAny l [32, 9, 10, 12, 13] = i ∧ i < l.length ∧ l.takeWhile (fun b => !blankB b) = l.take i) := by
  induction l with
  | nil => exact .inl ⟨rfl, rfl⟩
  | cons b t ih =>
    have hb : (([32, 9, 10, 12, 13] : List UInt8).contains b) = blankB b := isBl_eq b
    show (((if ([32, 9, 10, 12, 13] : List UInt8).contains b then (0 : Int) else if Lib.indexAny t [32, 9, 10, 12, 13] == -1 then -1 else Lib.indexAny t [32, 9, 10, 12, 13] + 1) = -1 ∧ _) ∨ ∃ i : Nat, (if ([32, 9, 10, 12, 13] : List UInt8).contains b then (0 : Int) else if Lib.indexAny t [32, 9, 10, 12, 13] == -1 then -1 else Lib.indexAny t [32, 9, 10, 12, 13] + 1) = i ∧ _)
    rw [hb]
    cases hbb : blankB b with
    | true => exact .inr ⟨0, rfl, by simp, by rw [List.takeWhile_cons, hbb]; rfl⟩
    | false =>
      rcases ih with ⟨h1, h2⟩ | ⟨i, h1, h2, h3⟩
      · exact .inl ⟨by rw [h1]; rfl, by rw [List.takeWhile_cons, hbb]; show b :: _ = _; rw [h2]⟩
      · refine .inr ⟨i + 1, ?_, by simpa using h2, by rw [List.takeWhile_cons, hbb]; show b :: _ = _; rw [h3]; rfl⟩
        rw [h1, if_neg (by simp), if_neg (by simp)]
        rfl
set_option maxRecDepth 100000 in
set_option maxHeartbeats 8000000 in
theorem tkDecl_any (w0 w : World) (X : Nat) (s : ByteArray) (r : List UInt8) (E : Int) (O : Value) (hs : s.size ≤ 1000000) (h : Rd w X s r E O) (hlow : Below X w0 w) (h2 : 2 ≤ r.length) (hF : FoldOk w0 X) (hY : AnyOk w0 X) :
    Calls Tryz.prog 105 #[.pointer (some ⟨X, 0, none⟩)] w fun e w' => e = .returned (.tuple #[tokV (declF r).1, .bool (declF r).2.1]) ∧ w.grownBy w' (some X) ∧ Rd w' X s (declF r).2.2 E O := by
  have hG0 := h.mxlt
  obtain ⟨a, haz, hr, hc0⟩ := rd_at h
  have hX : X < w.heap.size := hc0.lt
  have HTX : Hid (X < w.heap.size) := hX
  obtain ⟨w1, hw1⟩ : ∃ w1, w1 = w.alloc (.cells (tokC 0 ⟨#[]⟩ (.slice none 0 0) ⟨#[]⟩ false 0 0) 76) := ⟨_, rfl⟩
  have hb1 : Below w.heap.size w w1 := by rw [hw1]; exact tal (Below.refl _ _) _
  have HX1 := Lib.hid (show w1.heap[w.heap.size]? = some (.cells (tokC 0 ⟨#[]⟩ (.slice none 0 0) ⟨#[]⟩ false 0 0) 76 (0, 0)) from by rw [hw1]; exact heap_alloc_new w _)
  have HB1 := Lib.hid hb1
  have HR1 := Lib.hid (h.next hb1)
  have HC1 := Lib.hid (hc0.next hb1)
  have HL1 := Lib.hid (hlow.trans (hb1.mono (Nat.le_of_lt hX)))
  have HFO := Lib.hid hF
  have HYO := Lib.hid hY
  have HAZ := Lib.hid haz
  have HDR := Lib.hid hr
  have c0 := HC1.out.c0
  have c1 := HC1.out.c1
  have f1 := HC1.out.fr 1
  have i0 : (0 : Int) ≤ (a : Int) := by omega
  have i1 : (a : Int) ≤ (s.size : Int) := by omega
  have i2 : (a : Int) + 2 ≤ (s.size : Int) := by omega
  obtain ⟨rS, hrS⟩ : ∃ rS : ByteArray, s.extract a s.size = rS := ⟨_, rfl⟩
  have hrl : rS.data.toList = r := by rw [← hrS]; exact rest_str s hr
  have hrz : rS.size = r.length := by rw [← hrl]; simp
  have HPF := Lib.hid (fun u : World => (hrl ▸ Tryz.strings_HasPrefix rS ⟨#[60, 33, 45, 45]⟩ u : Calls Tryz.prog 76 #[.string rS, .string ⟨#[60, 33, 45, 45]⟩] u fun e w' => e = .returned (.bool (Lib.hasPrefix r [60, 33, 45, 45])) ∧ w' = u))
  have HRL := Lib.hid hrl
  have HRZ := Lib.hid hrz
  have hdc : declF r = if Lib.hasPrefix r [60, 33, 45, 45] then
      if Lib.hasPrefix (r.drop 4) [62] then (tkC [], true, r.drop 5)
      else if Lib.hasPrefix (r.drop 4) [45, 62] then (tkC [], true, r.drop 6)
      else comF [45, 45, 62] (r.drop 4)
    else if 9 ≤ r.length ∧ Lib.equalFold (r.take 9) ([60, 33, 100, 111, 99, 116, 121, 112, 101] : List UInt8) = true then (tkD (docN (r.drop 9)), (Lib.cut (r.drop 9) [62]).2.2, (Lib.cut (r.drop 9) [62]).2.1)
    else comF [62] (r.drop 2) := rfl
  have HCM := Lib.hid (fun (r' : List UInt8) (mk : ByteArray) (hmk : mk.size ≤ 1000) (u : World) (h : Rd u X s r' E O) => tkComment_any X s r' mk E O u hs hmk h)
  have H2 := Lib.hid h2
  clear h hlow hF hY haz hr hc0 hX hb1 hrl hrz h2
  cases hp : Lib.hasPrefix r [60, 33, 45, 45] with
  | true =>
    rw [hp] at HPF
    rw [hp, if_pos rfl] at hdc
    obtain ⟨t, ht⟩ := pre_parts hp
    have ht4 : r.drop 4 = t := by rw [ht]; rfl
    have htl : r.length = t.length + 4 := by rw [ht]; simp
    have hd5 : r.drop 5 = t.drop 1 := by rw [ht]; rfl
    have hd6 : r.drop 6 = t.drop 2 := by rw [ht]; rfl
    rw [ht4, hd5, hd6] at hdc
    have HTZ := Lib.hid (show a + 4 + t.length = s.size by have := HAZ.out; omega)
    have HDT := Lib.hid (show s.data.toList.drop (a + 4) = t from by rw [← List.drop_drop, HDR.out, ht4])
    have i4 : (a : Int) + 4 ≤ (s.size : Int) := by have := HTZ.out; omega
    have i40 : (0 : Int) ≤ (a : Int) + 4 := by omega
    have n4 : ((a : Int) + 4).toNat = a + 4 := by omega
    have HDC := Lib.hid hdc
    clear hdc hp ht ht4 htl hd5 hd6
    go_enter Tryz.func105, Tryz.ntmps105
    go_upto_region 1 with fail
    rw [← hw1]
    clear hw1
    go_quiet (fail)
    go_upto_region 5 with ((go_at_call 76; refine (HPF.out _).mono ?_; rintro e w9 ⟨rfl, hw9⟩; subst hw9))
    have hst := Rd.step (w := w1.drewN nq) (n := (a : Int) + 4) (b := a + 4) (by omega) (by have := HTZ.out; omega) HDT.out HC1.out HR1.out.mx
    obtain ⟨w2, hw2⟩ : ∃ w2, w2 = (w1.drewN nq).setCell ⟨X, 1, none⟩ (.int .i64 ((a : Int) + 4)) := ⟨_, rfl⟩
    obtain ⟨w3, hw3⟩ : ∃ w3, w3 = w2.alloc (.cells #[.string ⟨#[62]⟩, .string ⟨#[45, 62]⟩] 9) := ⟨_, rfl⟩
    rw [← hw2, ← hw3]
    rw [← hw2] at hst
    have z2 : w2.heap.size = w1.heap.size := by rw [hw2]; exact World.size_setCell _ _ _
    have hs3 : w3.heap[w1.heap.size]? = some (.cells #[.string ⟨#[62]⟩, .string ⟨#[45, 62]⟩] 9 (0, 0)) := by rw [hw3, ← z2]; exact heap_alloc_new w2 _
    have hb23 : Below w2.heap.size w2 w3 := by rw [hw3]; exact tal (Below.refl _ _) _
    have hr3 := hst.1.next hb23
    have hg3 := (grown_below (tdrewN w1 nq) (some X)).trans (World.grownBy.trans hst.2 (grown_below hb23 _))
    have hc3 : Rc w3 X s (a + 4) E O := by
      obtain ⟨a', ha', _, hc'⟩ := rd_at hr3
      have : a' = a + 4 := by have := HTZ.out; omega
      subst this
      exact hc'
    have HR3 := Lib.hid hr3
    have HG3 := Lib.hid hg3
    have HC3 := Lib.hid hc3
    have HS3 := Lib.hid hs3
    have HX3 := Lib.hid ((hg3.block w.heap.size (Array.getElem?_eq_some_iff.1 HX1.out).1 (by have := HTX.out; simp; omega)).trans HX1.out)
    obtain ⟨tS, htS⟩ : ∃ tS : ByteArray, s.extract (a + 4) s.size = tS := ⟨_, rfl⟩
    have htl : tS.data.toList = t := by rw [← htS]; exact rest_str s HDT.out
    have HP1 := Lib.hid (fun u : World => (htl ▸ Tryz.strings_HasPrefix tS ⟨#[62]⟩ u : Calls Tryz.prog 76 #[.string tS, .string ⟨#[62]⟩] u fun e w' => e = .returned (.bool (Lib.hasPrefix t [62])) ∧ w' = u))
    have HP2 := Lib.hid (fun u : World => (htl ▸ Tryz.strings_HasPrefix tS ⟨#[45, 62]⟩ u : Calls Tryz.prog 76 #[.string tS, .string ⟨#[45, 62]⟩] u fun e w' => e = .returned (.bool (Lib.hasPrefix t [45, 62])) ∧ w' = u))
    clear hst hw2 hw3 z2 hs3 hb23 hr3 hg3 hc3 htl c0 c1 f1
    go_loopw [31] (fun i wr => ∃ k : Nat, i = .int .i64 (k : Int) ∧ Hid (k ≤ 2 ∧ (1 ≤ k → Lib.hasPrefix t [62] = false) ∧ (2 ≤ k → Lib.hasPrefix t [45, 62] = false)) ∧ Hid (Below w3.heap.size w3 wr)) (fun i _ => 2 - (intOf i).toNat)
    case atStart => exact ⟨0, rfl, Lib.hid ⟨by omega, fun h => absurd h (by omega), fun h => absurd h (by omega)⟩, Lib.hid (Below.refl _ _)⟩
    case round =>
      obtain ⟨k, rfl, HK, HB⟩ := hrel
      have sl0 := cell_be (cell_blk (i := 0) HS3.out rfl) HB.out
      have sl1 := cell_be (cell_blk (i := 1) HS3.out rfl) HB.out
      have c0 := (HC3.out.next HB.out).c0
      have c1 := (HC3.out.next HB.out).c1
      have f1 := (HC3.out.next HB.out).fr 1
      rcases (show k = 0 ∨ k = 1 ∨ k = 2 by have := HK.out.1; omega) with rfl | rfl | rfl
      · cases q1 : Lib.hasPrefix t [62] with
        | true =>
          rw [q1] at HP1
          have HDC2 := Lib.hid (show declF r = (tkC [], true, t.drop 1) from by rw [HDC.out, q1]; rfl)
          obtain ⟨t2, ht2⟩ := pre_parts q1
          have hle : 1 ≤ t.length := by rw [ht2]; simp
          have hcw := HC3.out.next HB.out
          have hmw := (HR3.out.next HB.out).mx
          have HST := Lib.hid (fun q : Nat => Rd.step (w := wr.drewN q) (n := (a : Int) + 4 + 1) (b := a + 4 + 1) (by omega) (by have := HTZ.out; omega) (by rw [← List.drop_drop, HDT.out]) hcw hmw)
          clear q1 ht2 hle t2 HP2 HDC hcw hmw
          go_upto_region 7 with fail
          go_quiet ((go_at_call 76; exact Calls.quiet_of_same (HP1.out _)))
          go_upto_region 9 with fail
          have hst := HST.out nq
          obtain ⟨w5, hw5⟩ : ∃ w5, w5 = (wr.drewN nq).setCell ⟨X, 1, none⟩ (.int .i64 ((a : Int) + 4 + 1)) := ⟨_, rfl⟩
          rw [← hw5]
          rw [← hw5] at hst
          have hg15 := HG3.out.trans (((grown_below HB.out (some X)).trans (grown_below (tdrewN wr nq) (some X))).trans hst.2)
          have hZ5 := (hg15.block w.heap.size (Array.getElem?_eq_some_iff.1 HX1.out).1 (by have := HTX.out; simp; omega)).trans HX1.out
          have HZ5 := Lib.hid hZ5
          have HG5 := Lib.hid ((grown_below HB1.out (some X)).trans hg15)
          have HR5 := Lib.hid hst.1
          have d0 := cell_blk (i := 0) hZ5 rfl
          have d1 := cell_blk (i := 1) hZ5 rfl
          have d2 := cell_blk (i := 2) hZ5 rfl
          have d3 := cell_blk (i := 3) hZ5 rfl
          have d4 := cell_blk (i := 4) hZ5 rfl
          have d5 := cell_blk (i := 5) hZ5 rfl
          have d6 := cell_blk (i := 6) hZ5 rfl
          have fd0 := free_blk (i := 0) hZ5
          have fd1 := free_blk (i := 1) hZ5
          have fd2 := free_blk (i := 2) hZ5
          have fd3 := free_blk (i := 3) hZ5
          have fd4 := free_blk (i := 4) hZ5
          have fd5 := free_blk (i := 5) hZ5
          have fd6 := free_blk (i := 6) hZ5
          clear hZ5 hst hw5 hg15 c0 c1 f1 sl0 sl1
          go_wp2_with fail
          have hF := put7_blk (c0 := .int .i64 4) (c1 := .string ⟨#[]⟩) (c2 := .slice none 0 0) (c3 := .string ⟨#[]⟩) (c4 := .bool false) (c5 := .int .i64 0) (c6 := .int .i64 0) HZ5.out
          have cF0 := cell_blk (i := 0) hF rfl
          have cF1 := cell_blk (i := 1) hF rfl
          have cF2 := cell_blk (i := 2) hF rfl
          have cF3 := cell_blk (i := 3) hF rfl
          have cF4 := cell_blk (i := 4) hF rfl
          have cF5 := cell_blk (i := 5) hF rfl
          have cF6 := cell_blk (i := 6) hF rfl
          have hX0 := HTX.out
          refine bodyPost_ret (v := .tuple #[.agg #[.int .i64 4, .string ⟨#[]⟩, .slice none 0 0, .string ⟨#[]⟩, .bool false, .int .i64 0, .int .i64 0], .bool true]) ?_ rfl ⟨by rw [HDC2.out]; rfl, put7_grown HG5.out (Nat.le_refl _), by rw [HDC2.out]; exact put7_rd HR5.out (by omega) (by omega)⟩
          clear hF
          simp [results, Tryz.results105, go_sem, cF0, cF1, cF2, cF3, cF4, cF5, cF6]
        | false =>
          rw [q1] at HP1
          have HN := Lib.hid q1
          clear q1
          go_upto_region 7 with fail
          go_quiet ((go_at_call 76; exact Calls.quiet_of_same (HP1.out _)))
          go_wp2_with fail
          go_roundw
          case rel => exact ⟨1, by go_num, Lib.hid ⟨by omega, by intro _; first | exact HN.out | trivial, fun h => absurd h (by omega)⟩, Lib.hid (HB.out.trans ((tdrewN wr _).mono HB.out.size))⟩
          case measure => simp [intOf]
      · have q1 := HK.out.2.1 (by omega)
        cases q2 : Lib.hasPrefix t [45, 62] with
        | true =>
          rw [q2] at HP2
          have HDC2 := Lib.hid (show declF r = (tkC [], true, t.drop 2) from by rw [HDC.out, q1, q2]; rfl)
          clear q1
          obtain ⟨t2, ht2⟩ := pre_parts q2
          have hle : 2 ≤ t.length := by rw [ht2]; simp
          have hcw := HC3.out.next HB.out
          have hmw := (HR3.out.next HB.out).mx
          have HST := Lib.hid (fun q : Nat => Rd.step (w := wr.drewN q) (n := (a : Int) + 4 + 2) (b := a + 4 + 2) (by omega) (by have := HTZ.out; omega) (by rw [← List.drop_drop, HDT.out]) hcw hmw)
          clear q2 ht2 hle t2 HP1 HDC hcw hmw
          go_upto_region 7 with fail
          go_quiet ((go_at_call 76; exact Calls.quiet_of_same (HP2.out _)))
          go_upto_region 9 with fail
          have hst := HST.out nq
          obtain ⟨w5, hw5⟩ : ∃ w5, w5 = (wr.drewN nq).setCell ⟨X, 1, none⟩ (.int .i64 ((a : Int) + 4 + 2)) := ⟨_, rfl⟩
          rw [← hw5]
          rw [← hw5] at hst
          have hg15 := HG3.out.trans (((grown_below HB.out (some X)).trans (grown_below (tdrewN wr nq) (some X))).trans hst.2)
          have hZ5 := (hg15.block w.heap.size (Array.getElem?_eq_some_iff.1 HX1.out).1 (by have := HTX.out; simp; omega)).trans HX1.out
          have HZ5 := Lib.hid hZ5
          have HG5 := Lib.hid ((grown_below HB1.out (some X)).trans hg15)
          have HR5 := Lib.hid hst.1
          have d0 := cell_blk (i := 0) hZ5 rfl
          have d1 := cell_blk (i := 1) hZ5 rfl
          have d2 := cell_blk (i := 2) hZ5 rfl
          have d3 := cell_blk (i := 3) hZ5 rfl
          have d4 := cell_blk (i := 4) hZ5 rfl
          have d5 := cell_blk (i := 5) hZ5 rfl
          have d6 := cell_blk (i := 6) hZ5 rfl
          have fd0 := free_blk (i := 0) hZ5
          have fd1 := free_blk (i := 1) hZ5
          have fd2 := free_blk (i := 2) hZ5
          have fd3 := free_blk (i := 3) hZ5
          have fd4 := free_blk (i := 4) hZ5
          have fd5 := free_blk (i := 5) hZ5
          have fd6 := free_blk (i := 6) hZ5
          clear hZ5 hst hw5 hg15 c0 c1 f1 sl0 sl1
          go_wp2_with fail
          have hF := put7_blk (c0 := .int .i64 4) (c1 := .string ⟨#[]⟩) (c2 := .slice none 0 0) (c3 := .string ⟨#[]⟩) (c4 := .bool false) (c5 := .int .i64 0) (c6 := .int .i64 0) HZ5.out
          have cF0 := cell_blk (i := 0) hF rfl
          have cF1 := cell_blk (i := 1) hF rfl
          have cF2 := cell_blk (i := 2) hF rfl
          have cF3 := cell_blk (i := 3) hF rfl
          have cF4 := cell_blk (i := 4) hF rfl
          have cF5 := cell_blk (i := 5) hF rfl
          have cF6 := cell_blk (i := 6) hF rfl
          have hX0 := HTX.out
          refine bodyPost_ret (v := .tuple #[.agg #[.int .i64 4, .string ⟨#[]⟩, .slice none 0 0, .string ⟨#[]⟩, .bool false, .int .i64 0, .int .i64 0], .bool true]) ?_ rfl ⟨by rw [HDC2.out]; rfl, put7_grown HG5.out (Nat.le_refl _), by rw [HDC2.out]; exact put7_rd HR5.out (by omega) (by omega)⟩
          clear hF
          simp [results, Tryz.results105, go_sem, cF0, cF1, cF2, cF3, cF4, cF5, cF6]
        | false =>
          rw [q2] at HP2
          have HN := Lib.hid q2
          clear q2 q1
          go_upto_region 7 with fail
          go_quiet ((go_at_call 76; exact Calls.quiet_of_same (HP2.out _)))
          go_wp2_with fail
          go_roundw
          case rel => exact ⟨2, by go_num, Lib.hid ⟨by omega, fun _ => HK.out.2.1 (by omega), by intro _; first | exact HN.out | trivial⟩, Lib.hid (HB.out.trans ((tdrewN wr _).mono HB.out.size))⟩
          case measure => simp [intOf]
      · have q1 := HK.out.2.1 (by omega)
        have q2 := HK.out.2.2 (by omega)
        have HDC := Lib.hid (show declF r = comF [45, 45, 62] t from by rw [HDC.out, q1, q2]; rfl)
        have HTC := Lib.hid (HCM.out t ⟨#[45, 45, 62]⟩ (by decide) wr (HR3.out.next HB.out))
        clear q1 q2
        go_wp2_with (go_at_call 106; refine HTC.out.mono ?_; rintro e w5 ⟨rfl, hg5, hr5⟩; have hg15 := HG3.out.trans ((grown_below HB.out (some X)).trans hg5); have hZ5 := (hg15.block w.heap.size (Array.getElem?_eq_some_iff.1 HX1.out).1 (by have := HTX.out; simp; omega)).trans HX1.out; have HZ5 := Lib.hid hZ5; have HG5 := Lib.hid ((grown_below HB1.out (some X)).trans hg15); have HR5 := Lib.hid hr5; have d0 := cell_blk (i := 0) hZ5 rfl; have d1 := cell_blk (i := 1) hZ5 rfl; have d2 := cell_blk (i := 2) hZ5 rfl; have d3 := cell_blk (i := 3) hZ5 rfl; have d4 := cell_blk (i := 4) hZ5 rfl; have d5 := cell_blk (i := 5) hZ5 rfl; have d6 := cell_blk (i := 6) hZ5 rfl; have fd0 := free_blk (i := 0) hZ5; have fd1 := free_blk (i := 1) hZ5; have fd2 := free_blk (i := 2) hZ5; have fd3 := free_blk (i := 3) hZ5; have fd4 := free_blk (i := 4) hZ5; have fd5 := free_blk (i := 5) hZ5; have fd6 := free_blk (i := 6) hZ5; clear hZ5 hg5 hr5 hg15)
        have hF := put7_blk (c0 := .int .i64 4) (c1 := .string ⟨#[]⟩) (c2 := .slice none 0 0) (c3 := .string (bs (Lib.cut t [45, 45, 62]).1)) (c4 := .bool false) (c5 := .int .i64 0) (c6 := .int .i64 0) HZ5.out
        have cF0 := cell_blk (i := 0) hF rfl
        have cF1 := cell_blk (i := 1) hF rfl
        have cF2 := cell_blk (i := 2) hF rfl
        have cF3 := cell_blk (i := 3) hF rfl
        have cF4 := cell_blk (i := 4) hF rfl
        have cF5 := cell_blk (i := 5) hF rfl
        have cF6 := cell_blk (i := 6) hF rfl
        have hX0 := HTX.out
        refine bodyPost_ret (v := .tuple #[.agg #[.int .i64 4, .string ⟨#[]⟩, .slice none 0 0, .string (bs (Lib.cut t [45, 45, 62]).1), .bool false, .int .i64 0, .int .i64 0], .bool (Lib.cut t [45, 45, 62]).2.2]) ?_ rfl ⟨by rw [HDC.out]; rfl, put7_grown HG5.out (Nat.le_refl _), by rw [HDC.out]; exact put7_rd HR5.out (by omega) (by omega)⟩
        clear hF
        simp [results, Tryz.results105, go_sem, cF0, cF1, cF2, cF3, cF4, cF5, cF6]
  | false =>
    rw [hp] at HPF
    rw [hp, if_neg (by decide)] at hdc
    by_cases hdo : 9 ≤ r.length ∧ Lib.equalFold (r.take 9) ([60, 33, 100, 111, 99, 116, 121, 112, 101] : List UInt8) = true
    · rw [if_pos hdo] at hdc
      obtain ⟨h9, hef⟩ := hdo
      have g9 : (9 : Int) ≤ (rS.size : Int) := by have := HRZ.out; omega
      have g9' : decide ((9 : Int) ≤ (rS.size : Int)) = true := decide_eq_true g9
      obtain ⟨nS, hnS⟩ : ∃ nS : ByteArray, rS.extract 0 9 = nS := ⟨_, rfl⟩
      have hnl : nS.data.toList = r.take 9 := by rw [← hnS, ext_list, HRL.out]; rfl
      have hnz : nS.size ≤ 9 := by
        have h3 : nS.size = nS.data.toList.length := by simp
        rw [h3, hnl, List.length_take]
        omega
      have HEF := Lib.hid (fun (u : World) (hu : Below X w0 u) => HFO.out u hu nS (⟨#[60, 33, 100, 111, 99, 116, 121, 112, 101]⟩ : ByteArray) hnz (by decide) (by decide +kernel))
      rw [hnl] at HEF
      have HEF2 := Lib.hid (fun (u : World) (hu : Below X w0 u) => (show Calls Tryz.prog 113 #[.string nS, .string (⟨#[60, 33, 100, 111, 99, 116, 121, 112, 101]⟩ : ByteArray)] u fun e w' => e = .returned (.bool true) ∧ Below u.heap.size u w' from hef ▸ HEF.out u hu))
      have HST6 := Lib.hid (fun (u : World) (hu : Below w1.heap.size w1 u) => Rd.step (w := u) (n := (a : Int) + 9) (b := a + 9) (by omega) (by have := HAZ.out; omega) (by rw [← List.drop_drop, HDR.out]) (HC1.out.next hu) (HR1.out.next hu).mx)
      have HPA := Lib.hid (fun (u : World) (h : Rd u X s (r.drop 9) E O) => past_any X s (r.drop 9) ⟨#[62]⟩ E O u hs (by decide) h)
      have hcf := tcut_fst (r.drop 9) [62]
      unfold docN at hdc
      change Hid (∀ u, Rd u X s (r.drop 9) E O → Calls Tryz.prog 142 #[.pointer (some ⟨X, 0, none⟩), .string ⟨#[62]⟩] u fun e w' => e = .returned (.tuple #[.string ⟨(Lib.cut (r.drop 9) [62]).1.toArray⟩, .bool (Lib.cut (r.drop 9) [62]).2.2]) ∧ u.grownBy w' (some X) ∧ Rd w' X s (Lib.cut (r.drop 9) [62]).2.1 E O) at HPA
      generalize Lib.cut (r.drop 9) [62] = ct at *
      obtain ⟨k1, k2, k3⟩ := ct
      dsimp only at hdc hcf HPA
      have i9 : (a : Int) + 9 ≤ (s.size : Int) := by have := HAZ.out; omega
      obtain ⟨tS, htS⟩ : ∃ tS : ByteArray, tS = ⟨(k1.dropWhile blankB).toArray⟩ := ⟨_, rfl⟩
      have htl : tS.data.toList = k1.dropWhile blankB := by rw [htS]
      have htz : tS.size = (k1.dropWhile blankB).length := by rw [← htl]; simp
      have HTL := Lib.hid (fun u : World => (show Calls Tryz.prog 26 #[.string ⟨k1.toArray⟩, .string ⟨#[32, 9, 10, 12, 13]⟩] u fun e w' => e = .returned (.string tS) ∧ Below u.heap.size u w' from by rw [htS, ← trim_bl]; exact Any.strings_TrimLeft_laid Tryz.laysTrimL (by kernel_rfl) ⟨k1.toArray⟩ ⟨#[32, 9, 10, 12, 13]⟩ u (by decide) (ascii_of_all (by decide))))
      have htz2 : tS.size ≤ 1000000 := by
        have h4 := dropW_le blankB k1
        have h5 := HAZ.out
        rw [List.length_drop] at hcf
        omega
      have HIA := Lib.hid (fun (u : World) (hu : Below X w0 u) => htl ▸ HYO.out u hu tS htz2)
      rcases any_bl (k1.dropWhile blankB) with ⟨a1, a2⟩ | ⟨i, a1, a2, a3⟩
      · rw [a1] at HIA
        rw [a2] at hdc
        obtain ⟨nm, hnm⟩ : ∃ nm, nm = bs (nameL (k1.dropWhile blankB)) := ⟨_, rfl⟩
        have HNN := Lib.hid (fun u : World => (show Calls Tryz.prog 77 #[.string tS] u fun e w' => e = .returned (.string nm) ∧ Below u.heap.size u w' from by rw [hnm, ← htl]; exact tkName_any tS u))
        have HDC := Lib.hid (show declF r = (⟨5, nm, [], ⟨#[]⟩, false⟩, k3, k2) from by rw [hdc, hnm]; rfl)
        clear HEF hef hnl h9 hdc hp hcf htl htz htz2 htS a1 a2 hnm
        go_enter Tryz.func105, Tryz.ntmps105
        go_upto_region 1 with fail
        rw [← hw1]
        clear hw1
        go_quiet (fail)
        go_wp2_with (first | (go_at_call 76; refine (HPF.out _).mono ?_; rintro e w9 ⟨rfl, hw9⟩; subst hw9) | (go_at_call 113; refine (HEF2.out _ (HL1.out.trans ((tdrewN w1 _).mono (Nat.le_of_lt HC1.out.lt)))).mono ?_; rintro e w6 ⟨rfl, hb6⟩; have hB6 := (tdrewN w1 _).trans hb6; have HB6 := Lib.hid hB6; have c0 := (HC1.out.next hB6).c0; have c1 := (HC1.out.next hB6).c1; have f1 := (HC1.out.next hB6).fr 1; clear hb6 hB6) | (go_at_call 142; refine (HPA.out _ (HST6.out _ HB6.out).1).mono ?_; rintro e w8 ⟨rfl, hg8, hr8⟩; have HG8 := Lib.hid ((grown_below HB6.out (some X)).trans ((HST6.out _ HB6.out).2.trans hg8)); have HR8 := Lib.hid hr8; clear hg8 hr8) | (go_at_call 26; refine (HTL.out _).mono ?_; rintro e w9 ⟨rfl, hb9⟩; have HB9 := Lib.hid hb9; clear hb9) | (go_at_call 143; refine (HIA.out _ ((low_grown HL1.out HG8.out HC1.out.lt).trans (HB9.out.mono (Nat.le_trans (Nat.le_of_lt HC1.out.lt) HG8.out.size)))).mono ?_; rintro e w10 ⟨rfl, hb10⟩; have HB10 := Lib.hid (tst HB9.out hb10); clear hb10) | (go_at_call 77; refine (HNN.out _).mono ?_; rintro e w5 ⟨rfl, hb11⟩; have hbb := tst HB10.out hb11; have hg15 := HG8.out.trans (grown_below hbb (some X)); have hZ5 := (hg15.block w.heap.size (Array.getElem?_eq_some_iff.1 HX1.out).1 (by have := HTX.out; simp; omega)).trans HX1.out; have HZ5 := Lib.hid hZ5; have HG5 := Lib.hid ((grown_below HB1.out (some X)).trans hg15); have HR5 := Lib.hid (HR8.out.next hbb); have d0 := cell_blk (i := 0) hZ5 rfl; have d1 := cell_blk (i := 1) hZ5 rfl; have d2 := cell_blk (i := 2) hZ5 rfl; have d3 := cell_blk (i := 3) hZ5 rfl; have d4 := cell_blk (i := 4) hZ5 rfl; have d5 := cell_blk (i := 5) hZ5 rfl; have d6 := cell_blk (i := 6) hZ5 rfl; have fd0 := free_blk (i := 0) hZ5; have fd1 := free_blk (i := 1) hZ5; have fd2 := free_blk (i := 2) hZ5; have fd3 := free_blk (i := 3) hZ5; have fd4 := free_blk (i := 4) hZ5; have fd5 := free_blk (i := 5) hZ5; have fd6 := free_blk (i := 6) hZ5; clear hZ5 hbb hb11 hg15))
        have hF := put7_blk (c0 := .int .i64 5) (c1 := .string nm) (c2 := .slice none 0 0) (c3 := .string ⟨#[]⟩) (c4 := .bool false) (c5 := .int .i64 0) (c6 := .int .i64 0) HZ5.out
        have cF0 := cell_blk (i := 0) hF rfl
        have cF1 := cell_blk (i := 1) hF rfl
        have cF2 := cell_blk (i := 2) hF rfl
        have cF3 := cell_blk (i := 3) hF rfl
        have cF4 := cell_blk (i := 4) hF rfl
        have cF5 := cell_blk (i := 5) hF rfl
        have cF6 := cell_blk (i := 6) hF rfl
        have hX0 := HTX.out
        refine bodyPost_ret (v := .tuple #[.agg #[.int .i64 5, .string nm, .slice none 0 0, .string ⟨#[]⟩, .bool false, .int .i64 0, .int .i64 0], .bool k3]) ?_ rfl ⟨by rw [HDC.out], put7_grown HG5.out (Nat.le_refl _), by rw [HDC.out]; exact put7_rd HR5.out (by omega) (by omega)⟩
        clear hF
        simp [results, Tryz.results105, go_sem, cF0, cF1, cF2, cF3, cF4, cF5, cF6]
      · rw [a1] at HIA
        rw [a3] at hdc
        have g0 : (0 : Int) ≤ (i : Int) := by omega
        have g0' : decide ((0 : Int) ≤ (i : Int)) = true := decide_eq_true g0
        have g1 : (i : Int) ≤ (tS.size : Int) := by omega
        obtain ⟨mS, hmS⟩ : ∃ mS : ByteArray, tS.extract 0 i = mS := ⟨_, rfl⟩
        have hml : mS.data.toList = (k1.dropWhile blankB).take i := by rw [← hmS, ext_list, htl]; rfl
        obtain ⟨nm, hnm⟩ : ∃ nm, nm = bs (nameL ((k1.dropWhile blankB).take i)) := ⟨_, rfl⟩
        have HNN := Lib.hid (fun u : World => (show Calls Tryz.prog 77 #[.string mS] u fun e w' => e = .returned (.string nm) ∧ Below u.heap.size u w' from by rw [hnm, ← hml]; exact tkName_any mS u))
        have HDC := Lib.hid (show declF r = (⟨5, nm, [], ⟨#[]⟩, false⟩, k3, k2) from by rw [hdc, hnm]; rfl)
        clear HEF hef hnl h9 hdc hp hcf htl htz htz2 htS a1 a2 a3 hnm hml
        go_enter Tryz.func105, Tryz.ntmps105
        go_upto_region 1 with fail
        rw [← hw1]
        clear hw1
        go_quiet (fail)
        go_wp2_with (first | (go_at_call 76; refine (HPF.out _).mono ?_; rintro e w9 ⟨rfl, hw9⟩; subst hw9) | (go_at_call 113; refine (HEF2.out _ (HL1.out.trans ((tdrewN w1 _).mono (Nat.le_of_lt HC1.out.lt)))).mono ?_; rintro e w6 ⟨rfl, hb6⟩; have hB6 := (tdrewN w1 _).trans hb6; have HB6 := Lib.hid hB6; have c0 := (HC1.out.next hB6).c0; have c1 := (HC1.out.next hB6).c1; have f1 := (HC1.out.next hB6).fr 1; clear hb6 hB6) | (go_at_call 142; refine (HPA.out _ (HST6.out _ HB6.out).1).mono ?_; rintro e w8 ⟨rfl, hg8, hr8⟩; have HG8 := Lib.hid ((grown_below HB6.out (some X)).trans ((HST6.out _ HB6.out).2.trans hg8)); have HR8 := Lib.hid hr8; clear hg8 hr8) | (go_at_call 26; refine (HTL.out _).mono ?_; rintro e w9 ⟨rfl, hb9⟩; have HB9 := Lib.hid hb9; clear hb9) | (go_at_call 143; refine (HIA.out _ ((low_grown HL1.out HG8.out HC1.out.lt).trans (HB9.out.mono (Nat.le_trans (Nat.le_of_lt HC1.out.lt) HG8.out.size)))).mono ?_; rintro e w10 ⟨rfl, hb10⟩; have HB10 := Lib.hid (tst HB9.out hb10); clear hb10) | (go_at_call 77; refine (HNN.out _).mono ?_; rintro e w5 ⟨rfl, hb11⟩; have hbb := tst HB10.out hb11; have hg15 := HG8.out.trans (grown_below hbb (some X)); have hZ5 := (hg15.block w.heap.size (Array.getElem?_eq_some_iff.1 HX1.out).1 (by have := HTX.out; simp; omega)).trans HX1.out; have HZ5 := Lib.hid hZ5; have HG5 := Lib.hid ((grown_below HB1.out (some X)).trans hg15); have HR5 := Lib.hid (HR8.out.next hbb); have d0 := cell_blk (i := 0) hZ5 rfl; have d1 := cell_blk (i := 1) hZ5 rfl; have d2 := cell_blk (i := 2) hZ5 rfl; have d3 := cell_blk (i := 3) hZ5 rfl; have d4 := cell_blk (i := 4) hZ5 rfl; have d5 := cell_blk (i := 5) hZ5 rfl; have d6 := cell_blk (i := 6) hZ5 rfl; have fd0 := free_blk (i := 0) hZ5; have fd1 := free_blk (i := 1) hZ5; have fd2 := free_blk (i := 2) hZ5; have fd3 := free_blk (i := 3) hZ5; have fd4 := free_blk (i := 4) hZ5; have fd5 := free_blk (i := 5) hZ5; have fd6 := free_blk (i := 6) hZ5; clear hZ5 hbb hb11 hg15))
        have hF := put7_blk (c0 := .int .i64 5) (c1 := .string nm) (c2 := .slice none 0 0) (c3 := .string ⟨#[]⟩) (c4 := .bool false) (c5 := .int .i64 0) (c6 := .int .i64 0) HZ5.out
        have cF0 := cell_blk (i := 0) hF rfl
        have cF1 := cell_blk (i := 1) hF rfl
        have cF2 := cell_blk (i := 2) hF rfl
        have cF3 := cell_blk (i := 3) hF rfl
        have cF4 := cell_blk (i := 4) hF rfl
        have cF5 := cell_blk (i := 5) hF rfl
        have cF6 := cell_blk (i := 6) hF rfl
        have hX0 := HTX.out
        refine bodyPost_ret (v := .tuple #[.agg #[.int .i64 5, .string nm, .slice none 0 0, .string ⟨#[]⟩, .bool false, .int .i64 0, .int .i64 0], .bool k3]) ?_ rfl ⟨by rw [HDC.out], put7_grown HG5.out (Nat.le_refl _), by rw [HDC.out]; exact put7_rd HR5.out (by omega) (by omega)⟩
        clear hF
        simp [results, Tryz.results105, go_sem, cF0, cF1, cF2, cF3, cF4, cF5, cF6]
    · rw [if_neg hdo] at hdc
      have HDC := Lib.hid hdc
      have HST := Lib.hid (fun k : Nat => Rd.step (w := w1.drewN k) (n := (a : Int) + 2) (b := a + 2) (by omega) (by omega) (by rw [← List.drop_drop, HDR.out]) HC1.out HR1.out.mx)
      have HST6 := Lib.hid (fun (u : World) (hu : Below w1.heap.size w1 u) => Rd.step (w := u) (n := (a : Int) + 2) (b := a + 2) (by omega) (by omega) (by rw [← List.drop_drop, HDR.out]) (HC1.out.next hu) (HR1.out.next hu).mx)
      have HTC := Lib.hid (fun (u : World) (h : Rd u X s (r.drop 2) E O) => HCM.out (r.drop 2) ⟨#[62]⟩ (by decide) u h)
      have HD0 := Lib.hid hdo
      clear hdc hp
      by_cases h9 : 9 ≤ r.length
      · have hef : Lib.equalFold (r.take 9) ([60, 33, 100, 111, 99, 116, 121, 112, 101] : List UInt8) = false := by cases he : Lib.equalFold (r.take 9) ([60, 33, 100, 111, 99, 116, 121, 112, 101] : List UInt8) with | true => exact absurd ⟨h9, he⟩ hdo | false => rfl
        have g9 : (9 : Int) ≤ (rS.size : Int) := by have := HRZ.out; omega
        have g9' : decide ((9 : Int) ≤ (rS.size : Int)) = true := decide_eq_true g9
        obtain ⟨nS, hnS⟩ : ∃ nS : ByteArray, rS.extract 0 9 = nS := ⟨_, rfl⟩
        have hnl : nS.data.toList = r.take 9 := by rw [← hnS, ext_list, HRL.out]; rfl
        have hnz : nS.size ≤ 9 := by
          have h3 : nS.size = nS.data.toList.length := by simp
          rw [h3, hnl, List.length_take]
          omega
        have HEF := Lib.hid (fun (u : World) (hu : Below X w0 u) => HFO.out u hu nS (⟨#[60, 33, 100, 111, 99, 116, 121, 112, 101]⟩ : ByteArray) hnz (by decide) (by decide +kernel))
        rw [hnl] at HEF
        have HEF2 := Lib.hid (fun (u : World) (hu : Below X w0 u) => (show Calls Tryz.prog 113 #[.string nS, .string (⟨#[60, 33, 100, 111, 99, 116, 121, 112, 101]⟩ : ByteArray)] u fun e w' => e = .returned (.bool false) ∧ Below u.heap.size u w' from hef ▸ HEF.out u hu))
        clear HEF hef hnl hdo h9
        go_enter Tryz.func105, Tryz.ntmps105
        go_upto_region 1 with fail
        rw [← hw1]
        clear hw1
        go_quiet (fail)
        go_wp2_with (first | (go_at_call 76; refine (HPF.out _).mono ?_; rintro e w9 ⟨rfl, hw9⟩; subst hw9) | (go_at_call 113; refine (HEF2.out _ (HL1.out.trans ((tdrewN w1 _).mono (Nat.le_of_lt HC1.out.lt)))).mono ?_; rintro e w6 ⟨rfl, hb6⟩; have hB6 := (tdrewN w1 _).trans hb6; have HB6 := Lib.hid hB6; have c0 := (HC1.out.next hB6).c0; have c1 := (HC1.out.next hB6).c1; have f1 := (HC1.out.next hB6).fr 1; clear hb6 hB6) | (go_at_call 106; refine (HTC.out _ (HST6.out _ HB6.out).1).mono ?_; rintro e w5 ⟨rfl, hg5, hr5⟩; have hg15 := (grown_below HB6.out (some X)).trans ((HST6.out _ HB6.out).2.trans hg5); have hZ5 := (hg15.block w.heap.size (Array.getElem?_eq_some_iff.1 HX1.out).1 (by have := HTX.out; simp; omega)).trans HX1.out; have HZ5 := Lib.hid hZ5; have HG5 := Lib.hid ((grown_below HB1.out (some X)).trans hg15); have HR5 := Lib.hid hr5; have d0 := cell_blk (i := 0) hZ5 rfl; have d1 := cell_blk (i := 1) hZ5 rfl; have d2 := cell_blk (i := 2) hZ5 rfl; have d3 := cell_blk (i := 3) hZ5 rfl; have d4 := cell_blk (i := 4) hZ5 rfl; have d5 := cell_blk (i := 5) hZ5 rfl; have d6 := cell_blk (i := 6) hZ5 rfl; have fd0 := free_blk (i := 0) hZ5; have fd1 := free_blk (i := 1) hZ5; have fd2 := free_blk (i := 2) hZ5; have fd3 := free_blk (i := 3) hZ5; have fd4 := free_blk (i := 4) hZ5; have fd5 := free_blk (i := 5) hZ5; have fd6 := free_blk (i := 6) hZ5; clear hZ5 hg5 hr5 hg15))
        have hF := put7_blk (c0 := .int .i64 4) (c1 := .string ⟨#[]⟩) (c2 := .slice none 0 0) (c3 := .string (bs (Lib.cut (r.drop 2) [62]).1)) (c4 := .bool false) (c5 := .int .i64 0) (c6 := .int .i64 0) HZ5.out
        have cF0 := cell_blk (i := 0) hF rfl
        have cF1 := cell_blk (i := 1) hF rfl
        have cF2 := cell_blk (i := 2) hF rfl
        have cF3 := cell_blk (i := 3) hF rfl
        have cF4 := cell_blk (i := 4) hF rfl
        have cF5 := cell_blk (i := 5) hF rfl
        have cF6 := cell_blk (i := 6) hF rfl
        have hX0 := HTX.out
        refine bodyPost_ret (v := .tuple #[.agg #[.int .i64 4, .string ⟨#[]⟩, .slice none 0 0, .string (bs (Lib.cut (r.drop 2) [62]).1), .bool false, .int .i64 0, .int .i64 0], .bool (Lib.cut (r.drop 2) [62]).2.2]) ?_ rfl ⟨by rw [HDC.out]; rfl, put7_grown HG5.out (Nat.le_refl _), by rw [HDC.out]; exact put7_rd HR5.out (by omega) (by omega)⟩
        clear hF
        simp [results, Tryz.results105, go_sem, cF0, cF1, cF2, cF3, cF4, cF5, cF6]
      · have g9 : ¬ (9 : Int) ≤ (rS.size : Int) := by have := HRZ.out; omega
        have g9' : decide ((9 : Int) ≤ (rS.size : Int)) = false := decide_eq_false g9
        clear hdo h9
        go_enter Tryz.func105, Tryz.ntmps105
        go_upto_region 1 with fail
        rw [← hw1]
        clear hw1
        go_quiet (fail)
        go_wp2_with (first | (go_at_call 76; refine (HPF.out _).mono ?_; rintro e w9 ⟨rfl, hw9⟩; subst hw9) | (go_at_call 106; refine (HTC.out _ (HST.out _).1).mono ?_; rintro e w5 ⟨rfl, hg5, hr5⟩; have hg15 := (grown_below (tdrewN w1 _) (some X)).trans ((HST.out _).2.trans hg5); have hZ5 := (hg15.block w.heap.size (Array.getElem?_eq_some_iff.1 HX1.out).1 (by have := HTX.out; simp; omega)).trans HX1.out; have HZ5 := Lib.hid hZ5; have HG5 := Lib.hid ((grown_below HB1.out (some X)).trans hg15); have HR5 := Lib.hid hr5; have d0 := cell_blk (i := 0) hZ5 rfl; have d1 := cell_blk (i := 1) hZ5 rfl; have d2 := cell_blk (i := 2) hZ5 rfl; have d3 := cell_blk (i := 3) hZ5 rfl; have d4 := cell_blk (i := 4) hZ5 rfl; have d5 := cell_blk (i := 5) hZ5 rfl; have d6 := cell_blk (i := 6) hZ5 rfl; have fd0 := free_blk (i := 0) hZ5; have fd1 := free_blk (i := 1) hZ5; have fd2 := free_blk (i := 2) hZ5; have fd3 := free_blk (i := 3) hZ5; have fd4 := free_blk (i := 4) hZ5; have fd5 := free_blk (i := 5) hZ5; have fd6 := free_blk (i := 6) hZ5; clear hZ5 hg5 hr5 hg15))
        have hF := put7_blk (c0 := .int .i64 4) (c1 := .string ⟨#[]⟩) (c2 := .slice none 0 0) (c3 := .string (bs (Lib.cut (r.drop 2) [62]).1)) (c4 := .bool false) (c5 := .int .i64 0) (c6 := .int .i64 0) HZ5.out
        have cF0 := cell_blk (i := 0) hF rfl
        have cF1 := cell_blk (i := 1) hF rfl
        have cF2 := cell_blk (i := 2) hF rfl
        have cF3 := cell_blk (i := 3) hF rfl
        have cF4 := cell_blk (i := 4) hF rfl
        have cF5 := cell_blk (i := 5) hF rfl
        have cF6 := cell_blk (i := 6) hF rfl
        have hX0 := HTX.out
        refine bodyPost_ret (v := .tuple #[.agg #[.int .i64 4, .string ⟨#[]⟩, .slice none 0 0, .string (bs (Lib.cut (r.drop 2) [62]).1), .bool false, .int .i64 0, .int .i64 0], .bool (Lib.cut (r.drop 2) [62]).2.2]) ?_ rfl ⟨by rw [HDC.out]; rfl, put7_grown HG5.out (Nat.le_refl _), by rw [HDC.out]; exact put7_rd HR5.out (by omega) (by omega)⟩
        clear hF
        simp [results, Tryz.results105, go_sem, cF0, cF1, cF2, cF3, cF4, cF5, cF6]
end Go.Proofs.YtegcedboeemedaaGreatDoor

/-
Is a rune a blank: strings.ContainsRune of the blanks, at every rune.
-/
namespace Go.Proofs.YtegcedboeemedaaGreatDoor
open Go.RowKit Go.Cl
attribute [local go_sem ↓] Go.wp_at_zero Go.wp_at_succ

def wsB : ByteArray := (⟨#[32, 9, 10, 12, 13]⟩ : ByteArray)
theorem ws_at : ∀ i : Fin 5, wsB[i.val]'(by have := i.isLt; show i.val < 5; omega) = ([32, 9, 10, 12, 13] : List UInt8)[i.val]'(by have := i.isLt; show i.val < 5; omega) := by decide
theorem ws_low (pos : Nat) (h : pos < wsB.size) : (wsB[pos]'h).toNat < 128 := by
  have h5 : pos < 5 := h
  have h1 := ws_at ⟨pos, h5⟩
  simp only at h1
  rw [h1]
  have : ∀ i : Fin 5, (([32, 9, 10, 12, 13] : List UInt8)[i.val]'(by have := i.isLt; show i.val < 5; omega)).toNat < 128 := by decide
  exact this ⟨pos, h5⟩
/-- A byte beyond ASCII is none of the blanks. -/
theorem ws_none (b : UInt8) (hb : 128 ≤ b.toNat) (k : Nat) : Lib.indexByte (wsB.data.toList.drop k) b = -1 := by
  have h : ∀ l : List UInt8, (∀ x ∈ l, x.toNat < 128) → Lib.indexByte l b = -1 := fun l hl => by
    induction l with
    | nil => rfl
    | cons a r ih =>
      have ha := hl a (List.mem_cons_self ..)
      have e : (a == b) = false := by
        rw [beq_eq_false_iff_ne]
        rintro rfl
        omega
      rw [Lib.indexByte, e, ih (fun x hx => hl x (List.mem_cons_of_mem _ hx))]
      rfl
  refine h _ fun x hx => ?_
  have : ∀ x ∈ wsB.data.toList, x.toNat < 128 := by decide
  exact this x (List.mem_of_mem_drop hx)
theorem ba_size (s : ByteArray) : s.size = s.data.toList.length := Lib.size_eq s
/-- A rune beyond ASCII, as bytes: two to four of them, all beyond ASCII. -/
theorem enc_high (r : Nat) (h : 128 ≤ r) : 2 ≤ (Utf8.encode (r : Int)).size ∧ (Utf8.encode (r : Int)).size ≤ 4 ∧ ∀ b ∈ (Utf8.encode (r : Int)).data.toList, 128 ≤ b.toNat := by
  have small : ∀ n, n < 256 → 128 ≤ n → 128 ≤ (UInt8.ofNat n).toNat := fun n h1 h2 => by rw [UInt8.toNat_ofNat', Nat.mod_eq_of_lt h1]; exact h2
  have key : ∀ l : List UInt8, (Utf8.encode (r : Int)).data.toList = l → 2 ≤ l.length → l.length ≤ 4 → (∀ b ∈ l, 128 ≤ b.toNat) → 2 ≤ (Utf8.encode (r : Int)).size ∧ (Utf8.encode (r : Int)).size ≤ 4 ∧ ∀ b ∈ (Utf8.encode (r : Int)).data.toList, 128 ≤ b.toNat := fun l e h2 h4 hb => by
    rw [ba_size, e]
    exact ⟨h2, h4, hb⟩
  have c1 : ¬ r < 128 := by omega
  by_cases hv : (55296 ≤ r ∧ r ≤ 57343) ∨ 1114111 < r
  · have v : Utf8.valid (r : Int) = false := by simp [Utf8.valid]; omega
    exact key [239, 191, 189] (by simp [Utf8.encode, v, Utf8.runeError]) (by decide) (by decide) (by decide)
  · have v : Utf8.valid (r : Int) = true := by simp [Utf8.valid]; omega
    by_cases c2 : r < 2048
    · refine key [UInt8.ofNat (192 + r / 64), UInt8.ofNat (128 + r % 64)] (by simp [Utf8.encode, v, c1, c2]) (by simp) (by simp) fun b hb => ?_
      simp only [List.mem_cons, List.not_mem_nil, or_false] at hb
      rcases hb with rfl | rfl <;> exact small _ (by omega) (by omega)
    · by_cases c3 : r < 65536
      · refine key [UInt8.ofNat (224 + r / 4096), UInt8.ofNat (128 + r / 64 % 64), UInt8.ofNat (128 + r % 64)] (by simp [Utf8.encode, v, c1, c2, c3]) (by simp) (by simp) fun b hb => ?_
        simp only [List.mem_cons, List.not_mem_nil, or_false] at hb
        rcases hb with rfl | rfl | rfl <;> exact small _ (by omega) (by omega)
      · refine key [UInt8.ofNat (240 + r / 262144), UInt8.ofNat (128 + r / 4096 % 64), UInt8.ofNat (128 + r / 64 % 64), UInt8.ofNat (128 + r % 64)] (by simp [Utf8.encode, v, c1, c2, c3]) (by simp) (by simp) fun b hb => ?_
        simp only [List.mem_cons, List.not_mem_nil, or_false] at hb
        rcases hb with rfl | rfl | rfl | rfl <;> exact small _ (by omega) (by omega)

set_option maxRecDepth 100000 in
theorem indexRune_bad (w : World) : Calls Tryz.prog 134 #[.string wsB, .int .i32 65533] w fun e w' => e = .returned (.int .i64 (-1)) ∧ Below w.heap.size w w' := by
  go_enter Tryz.func134, Tryz.ntmps134
  go_wp2_with fail
  go_loopg [] 5 (fun gf wr => ∃ pos : Nat, pos + gf = 5 ∧ wr.heap[w.heap.size]? = some (.stringIter wsB pos) ∧ Below w.heap.size w wr)
  case atStart => exact ⟨0, rfl, World.iter_heap w wsB 0, (Below.refl _ _).alloc (Nat.le_refl _) _⟩
  case round =>
    obtain ⟨pos, hp, hit, hb⟩ := hrel
    by_cases hlt : pos < wsB.size
    · have h5 : pos < 5 := hlt
      obtain ⟨g', rfl⟩ : ∃ g', gk = g' + 1 := ⟨gk - 1, by omega⟩
      have hlow := ws_low pos hlt
      have hnx : ∀ ty, (Instr.next (.pointer (some ⟨w.heap.size, 0, none⟩)) true ty).run Tryz.prog wr = _ := fun ty => Lib.run_next_ascii_at wr w.heap.size wsB pos ty hit hlt hlow
      have hit2 := Lib.iterAt_heap wr w.heap.size wsB pos (pos + 1) hit
      have hb2 := Lib.below_iterAt hb (k := w.heap.size) (Nat.le_refl _) wsB (pos + 1)
      obtain ⟨W, hW⟩ : ∃ W, wr.iterAt w.heap.size wsB (pos + 1) = W := ⟨_, rfl⟩
      rw [hW] at hnx hit2 hb2
      generalize (wsB[pos]'hlt).toNat = k at *
      have hk : ((k : Int) == 65533) = false := beq_eq_false_iff_ne.2 (by omega)
      clear hit hb hW hlt
      go_wp2_with fail
      go_roundg g'
      case measure => omega
      case rel => exact ⟨pos + 1, by omega, hit2, hb2⟩
    · have hnx : ∀ ty, (Instr.next (.pointer (some ⟨w.heap.size, 0, none⟩)) true ty).run Tryz.prog wr = _ := fun ty => Lib.run_next_end_at wr w.heap.size wsB pos ty hit hlt
      clear hit
      go_wp2_with fail
      go_ret
      exact ⟨rfl, hb⟩
set_option maxRecDepth 100000 in
theorem indexRune_high (r : Nat) (h : 128 ≤ r) (w : World) : Calls Tryz.prog 134 #[.string wsB, .int .i32 (r : Int)] w fun e w' => e = .returned (.int .i64 (-1)) ∧ Below w.heap.size w w' := by
  have h1 : decide ((r : Int) < 128) = false := by simp; omega
  have h0 : decide ((0 : Int) ≤ (r : Int)) = true := by simp
  by_cases he : r = 65533
  · subst he
    exact indexRune_bad w
  · have h2 : ((r : Int) == 65533) = false := beq_eq_false_iff_ne.2 (by omega)
    obtain ⟨v, hv⟩ : ∃ v, Lib.validRune (r : Int) = v := ⟨_, rfl⟩
    have HV := Lib.hid (Tryz.utf8_ValidRune (r : Int) w)
    rw [hv] at HV
    clear hv
    cases v with
    | false =>
      go_enter Tryz.func134, Tryz.ntmps134
      go_wp2_with (go_at_call 169; refine HV.out.mono ?_; rintro e w1 ⟨rfl, rfl⟩)
      go_ret
      exact ⟨rfl, Below.refl _ _⟩
    | true =>
      obtain ⟨hs1, hs2, hs3⟩ := enc_high r h
      go_enter Tryz.func134, Tryz.ntmps134
      go_wp2_with (go_at_call 169; refine HV.out.mono ?_; rintro e w1 ⟨rfl, rfl⟩)
      go_step3
      go_wp2_with fail
      generalize hrs : Utf8.encode (r : Int) = rs at *
      clear hrs
      obtain ⟨last, hl1, hl3, hsz⟩ : ∃ last : Nat, 1 ≤ last ∧ last ≤ 3 ∧ rs.size = last + 1 := ⟨rs.size - 1, by omega, by omega, by omega⟩
      have hz : (rs.size : Int) - 1 = (last : Int) := by omega
      rw [hz]
      have hlt : last < rs.size := by omega
      have hb : 128 ≤ (rs[last]'hlt).toNat := hs3 _ (by rw [show (rs[last]'hlt) = rs.data.toList[last]'(by simpa using hlt) from rfl]; exact List.getElem_mem _)
      have j0 : (0 : Int) ≤ (last : Int) := by omega
      have j1 : (last : Int) < (wsB.size : Int) := by show (last : Int) < 5; omega
      have j2 : (last : Int) < (rs.size : Int) := by omega
      clear hs1 hs2 hs3
      have hw5 : last < wsB.size := by show last < 5; omega
      have hlow := ws_low last hw5
      have hne : (((wsB[last]'hw5).toNat : Int) == ((rs[last]'hlt).toNat : Int)) = false := beq_eq_false_iff_ne.2 (by omega)
      have hne2 : (((wsB[last]'hw5).toNat : Int) != ((rs[last]'hlt).toNat : Int)) = true := by rw [bne, hne]; rfl
      have hix : Lib.indexByte (wsB.extract (last + 1) wsB.size).data.toList (rs[last]'hlt) = -1 := by
        rw [Lib.extract_to_end]
        exact ws_none _ hb _
      have k1 : IntKind.i64.wrap ((last : Int) + 1) = (last : Int) + 1 := IntWalk.i64_in _ (by omega)
      have k2 : (0 : Int) ≤ (last : Int) + 1 := by omega
      have k3 : (last : Int) + 1 ≤ (wsB.size : Int) := by show (last : Int) + 1 ≤ 5; omega
      have r1 : ∀ W : World, (Instr.index 9 (.string wsB) (.int .i64 (last : Int))).run Tryz.prog W = .ok (.int .u8 ((wsB[last]'hw5).toNat : Int)) W := fun W => by rw [run_index_string (P := Tryz.prog) _ _ _ _ _ Tryz.underlying9, dif_pos ⟨j0, j1⟩]; rfl
      have r2 : ∀ W : World, (Instr.index 9 (.string rs) (.int .i64 (last : Int))).run Tryz.prog W = .ok (.int .u8 ((rs[last]'hlt).toNat : Int)) W := fun W => by rw [run_index_string (P := Tryz.prog) _ _ _ _ _ Tryz.underlying9, dif_pos ⟨j0, j2⟩]; rfl
      have r3 : ∀ W : World, (Instr.slice 9 (.string wsB) (some (.int .i64 ((last : Int) + 1))) none none).run Tryz.prog W = .ok (.string (wsB.extract (last + 1) wsB.size)) W := fun W => run_slice_string_l (P := Tryz.prog) (w := W) 9 wsB Tryz.underlying9 .i64 ((last : Int) + 1) k2 k3
      refine wp_loop_rounds 1 ?_
      rw [rounds_succ]
      go_wp2_with fail
      go_step3
      go_wp2_with fail
      go_quiet (fail)
      have hb1 : Below w1.heap.size w1 (w1.drewN nq) := below_drewNg w1 nq
      generalize w1.drewN nq = w2 at *
      go_wp2_with fail
      have HIX : Hid (∀ W : World, Calls Tryz.prog 157 #[.string (wsB.extract (last + 1) wsB.size), .int .u8 ((rs[last]'hlt).toNat : Int)] W fun e w' => e = .returned (.int .i64 (-1)) ∧ w' = W) := fun W => by
        have h := Tryz.strings_IndexByte (wsB.extract (last + 1) wsB.size) ((rs[last]'hlt).toNat : Int) W
        rw [show ((rs[last]'hlt).toNat : Int).toNat.toUInt8 = rs[last]'hlt from by rw [Int.toNat_natCast]; exact UInt8.ofNat_toNat, hix] at h
        exact h
      go_quiet ((go_at_call 157; exact Calls.quiet_of_same (HIX.out _)))
      go_wp2_with fail
      rw [Exit.noGoto_ret]
      go_wp2_with fail
      rw [Exit.noGoto_ret]
      go_ret
      exact ⟨rfl, hb1.trans ((below_drewNg w2 _).mono hb1.size)⟩
end Go.Proofs.YtegcedboeemedaaGreatDoor

/-
Tokens stand one behind the other, each of some bytes of its own: the plain law.
-/
namespace Go.Proofs.YtegcedboeemedaaGreatDoor
open Go.RowKit Go.Cl

/-! ### a reference is some bytes -/
theorem enc_some (r : Int) : 1 ≤ (Lib.encodeRune r).length := by
  rw [← Lib.runeCells_length]
  exact (Lib.runeCells_le r).1
theorem sign_some (n : Int) : 1 ≤ (signB n).size := enc_some _
theorem find_some {s : ByteArray} {attr : Bool} (h : (findB s attr).2 ≠ 0) : 1 ≤ (findB s attr).1.size := by
  have hE : ∀ (base : Int) (a : Nat), (numE s base a).2 ≠ 0 → 1 ≤ (numE s base a).1.size := fun base a h => by
    unfold numE at h ⊢
    dsimp only at h ⊢
    split
    · rename_i h0; rw [if_pos h0] at h; exact absurd rfl h
    · exact sign_some _
  have hN : ∀ (l : List Nam) (a : ByteArray × Nat), (a.2 ≠ 0 → 1 ≤ a.1.size) → (l.foldl (nstep s) a).2 ≠ 0 → 1 ≤ (l.foldl (nstep s) a).1.size := by
    intro l
    induction l with
    | nil => exact fun a h => h
    | cons x l ih =>
      intro a ha
      refine ih _ ?_
      unfold nstep
      split
      · split
        · exact ha
        · exact fun _ => sign_some _
      · exact ha
  unfold findB at h ⊢
  split
  · rename_i h0
    rw [if_pos h0] at h
    split
    · rename_i h1
      rw [if_pos h1] at h
      unfold numB at h ⊢
      split
      · rename_i h2; rw [if_pos h2] at h; exact hE _ _ h
      · rename_i h2; rw [if_neg h2] at h; exact hE _ _ h
    · rename_i h1
      rw [if_neg h1] at h
      unfold namedB at h ⊢
      split
      · rename_i h2; rw [if_pos h2] at h; exact absurd rfl h
      · rename_i h2; rw [if_neg h2] at h; exact hN namesL _ (fun h => absurd rfl h) h
  · rename_i h0; rw [if_neg h0] at h; exact absurd rfl h
theorem stepB_some {s : ByteArray} (h1 : 1 ≤ s.size) (attr : Bool) : 1 ≤ (stepB s attr).1.size := by
  unfold stepB
  split
  · rw [ByteArray.size_extract]; omega
  · rename_i h; exact find_some h
theorem entT_some {l : List UInt8} (h : l ≠ []) : entT l ≠ [] := by
  have h1 : 1 ≤ (bs l).size := by rw [bs_size]; cases l with
    | nil => exact absurd rfl h
    | cons => simp
  unfold entT
  rw [readL_step h1]
  have h2 := stepB_some h1 false
  intro e
  have h3 := (List.append_eq_nil_iff.1 e).1
  have h4 : (stepB (bs l) false).1.data.toList.length = (stepB (bs l) false).1.size := Array.length_toList
  rw [h3, List.length_nil] at h4
  omega
/-! ### what is behind is an end of it -/
theorem dropW_suf (p : UInt8 → Bool) (r : List UInt8) : r.dropWhile p <:+ r := List.dropWhile_suffix p
theorem cut_suf (r mark : List UInt8) : (Lib.cut r mark).2.1 <:+ r := by
  unfold Lib.cut
  split
  · exact List.drop_suffix _ _
  · exact List.nil_suffix
theorem value_suf (r : List UInt8) : (valueF r).2 <:+ r := by
  unfold valueF
  have h := dropW_suf blankB r
  cases hd : r.dropWhile blankB with
  | nil => exact List.nil_suffix
  | cons q t =>
    rw [hd] at h
    dsimp only
    split
    · exact ((cut_suf t [q]).trans (List.suffix_cons q t)).trans h
    · exact (dropW_suf valB _).trans h
theorem attr_suf (b : UInt8) (t : List UInt8) : (attrF b t).2 <:+ t := by
  have h : attrEnd t <:+ t := (dropW_suf blankB _).trans (dropW_suf anB t)
  unfold attrF
  split
  · exact ((value_suf _).trans (List.tail_suffix _)).trans h
  · exact h
theorem tagF_end {acc : List DAttr} {r : List UInt8} {x : List DAttr × Bool × List UInt8} (h : tagF acc r = some x) : 62 :: x.2.2 <:+ r := by
  induction hn : r.length using Nat.strongRecOn generalizing acc r with
  | ind n ih =>
    subst hn
    rw [tagF_step] at h
    have h0 := dropW_suf skipB r
    have h1 := dropW_le skipB r
    cases hd : r.dropWhile skipB with
    | nil => rw [hd] at h; cases h
    | cons b t =>
      rw [hd] at h h0 h1
      rw [List.length_cons] at h1
      dsimp only at h
      split at h
      · rename_i hb; subst hb; cases h; exact h0
      · have h2 := attr_le b t
        exact (ih _ (by omega) h rfl).trans (((attr_suf b t).trans (List.suffix_cons b t)).trans h0)
theorem tagT_end {kind : Int} {r : List UInt8} {x : Tk × List UInt8} (h : tagT kind r = some x) : 62 :: x.2 <:+ r ∧ x.1.kind = kind ∧ x.1.name = bs (nameL (r.takeWhile tagB)) := by
  unfold tagT at h
  cases ht : tagF [] (r.dropWhile tagB) with
  | none => rw [ht] at h; cases h
  | some y =>
    rw [ht] at h
    cases h
    refine ⟨(tagF_end ht).trans (dropW_suf tagB r), ?_, ?_⟩
    · dsimp only; split
      · rename_i h; exact h.symm
      · rfl
    · dsimp only; split <;> rfl
theorem com_suf (mark r : List UInt8) : (comF mark r).2.2 <:+ r := cut_suf r mark
theorem decl_suf (r : List UInt8) : (declF r).2.2 <:+ r := by
  unfold declF
  split
  · split
    · exact List.drop_suffix _ _
    · split
      · exact List.drop_suffix _ _
      · exact (com_suf _ _).trans (List.drop_suffix _ _)
  · split
    · exact (cut_suf _ _).trans (List.drop_suffix _ _)
    · exact (com_suf _ _).trans (List.drop_suffix _ _)
theorem decl_kind (r : List UInt8) : (declF r).1.kind = 4 ∨ (declF r).1.kind = 5 := by
  unfold declF
  split
  · split
    · exact .inl rfl
    · split <;> exact .inl rfl
  · split
    · exact .inr rfl
    · exact .inl rfl
/-- letters are no tag's end -/
theorem letter_tag : ∀ b : UInt8, letterB b = true → tagB b = true ∧ 1 ≤ (nameL [b]).length := by
  intro b h
  refine ⟨?_, by simp [nameL]⟩
  have key : ∀ n : Fin 256, letterB (UInt8.ofNat n.val) = true → tagB (UInt8.ofNat n.val) = true := by decide +kernel
  have := key ⟨b.toNat, b.toNat_lt⟩
  rw [show UInt8.ofNat b.toNat = b from by simp] at this
  exact this h
theorem name_some {b : UInt8} {t : List UInt8} (h : letterB b = true) : (bs (nameL ((b :: t).takeWhile tagB))).size ≠ 0 := by
  rw [bs_size, List.takeWhile_cons_of_pos (letter_tag b h).1]
  simp [nameL]
/-- What a markup gives: a tag begins with < and ends with >, and has a name; it is no text. -/
theorem next_tok {r : List UInt8} {x : Option Tk × Bool × List UInt8} (hm : markF r ≠ 0) (h : nextF r = some x) :
    x.2.2 <:+ r ∧ ∀ t, x.1 = some t → t.kind ≠ 3 ∧ (t.kind = 1 ∨ t.kind = 2 → 62 :: x.2.2 <:+ r ∧ t.name.size ≠ 0) := by
  obtain ⟨b, t, rfl⟩ := mark_two hm
  unfold nextF at h
  split at h
  · cases h
    refine ⟨decl_suf _, fun t ht => ?_⟩
    cases ht
    have := decl_kind (60 :: b :: t)
    exact ⟨by omega, fun h => by omega⟩
  · split at h
    · cases h
      exact ⟨(com_suf _ _).trans (List.drop_suffix _ _), fun t ht => by cases ht; exact ⟨(by show (4 : Int) ≠ 3; decide), fun h => absurd h (by show ¬ ((4 : Int) = 1 ∨ (4 : Int) = 2); decide)⟩⟩
    · split at h
      · rename_i hmk
        cases ht : tagT 1 (List.drop 1 (60 :: b :: t)) with
        | none => rw [ht] at h; cases h
        | some y =>
          rw [ht] at h
          cases h
          obtain ⟨h1, h2, h3⟩ := tagT_end ht
          have hb : letterB b = true := by
            by_cases hl : letterB b = true
            · exact hl
            · rw [mark_cons] at hmk
              rw [if_neg (by simp), if_neg hl] at hmk
              split at hmk
              · rename_i h33; rcases h33 with e | e <;> rw [e] at hmk <;> exact absurd hmk (by decide)
              · split at hmk
                · rename_i h47; rw [h47.1] at hmk; exact absurd hmk (by decide)
                · exact absurd hmk (by decide)
          refine ⟨((List.suffix_cons _ _).trans h1).trans (List.drop_suffix _ _), fun t ht => ?_⟩
          cases ht
          rw [h2, h3]
          exact ⟨by decide, fun _ => ⟨h1.trans (List.drop_suffix _ _), name_some hb⟩⟩
      · simp only [List.drop_succ_cons, List.drop_zero] at h
        have h60 : t <:+ 60 :: b :: t := (List.suffix_cons b t).trans (List.suffix_cons _ _)
        cases t with
        | nil => cases h
        | cons c t =>
          dsimp only at h
          split at h
          · cases h; exact ⟨(List.suffix_cons c t).trans h60, fun _ ht => by cases ht⟩
          · split at h
            · rename_i hl
              cases ht : tagT 2 (c :: t) with
              | none => rw [ht] at h; cases h
              | some y =>
                rw [ht] at h
                cases h
                obtain ⟨h1, h2, h3⟩ := tagT_end ht
                refine ⟨((List.suffix_cons _ _).trans h1).trans h60, fun t ht => ?_⟩
                cases ht
                rw [h2, h3]
                exact ⟨by decide, fun _ => ⟨h1.trans h60, name_some hl⟩⟩
            · cases h
              exact ⟨(com_suf _ _).trans h60, fun t ht => by cases ht; exact ⟨(by show (4 : Int) ≠ 3; decide), fun h => absurd h (by show ¬ ((4 : Int) = 1 ∨ (4 : Int) = 2); decide)⟩⟩
/-! ### one behind the other -/
def ChainP : Nat → List Pl → Prop
  | _, [] => True
  | hi, x :: l => x.2.1 ≤ hi ∧ x.2.2 < x.2.1 ∧ ChainP x.2.2 l
theorem ChainP.mono {a b : Nat} {l : List Pl} (h : ChainP a l) (hab : a ≤ b) : ChainP b l := by
  cases l with
  | nil => trivial
  | cons x l => exact ⟨Nat.le_trans h.1 hab, h.2⟩
theorem ChainP.append {a b : Nat} {l k : List Pl} (h : ChainP a l) (hl : ∀ x ∈ l, b ≤ x.2.2) (hab : b ≤ a) (hk : ChainP b k) : ChainP a (l ++ k) := by
  induction l generalizing a with
  | nil => exact hk.mono hab
  | cons x l ih => exact ⟨h.1, h.2.1, ih h.2.2 (fun y hy => hl y (List.mem_cons_of_mem _ hy)) (hl x (List.mem_cons_self ..))⟩
/-- What the law asks of a token. -/
def OkTk (s : List UInt8) (x : Pl) : Prop := x.2.1 ≤ s.length ∧ (x.1.kind = 3 → x.1.text.size ≠ 0) ∧ (x.1.kind = 1 ∨ x.1.kind = 2 → s[s.length - x.2.1]? = some 60 ∧ s[s.length - x.2.2 - 1]? = some 62 ∧ x.1.name.size ≠ 0)
theorem suf_at {u s : List UInt8} (h : u <:+ s) (i : Nat) : s[s.length - u.length + i]? = u[i]? := by
  obtain ⟨p, rfl⟩ := h
  rw [List.length_append, List.getElem?_append_right (by omega)]
  congr 1
  omega
theorem putT_ok {s x : List UInt8} {y : ByteArray} {a b : Nat} (ha : a ≤ s.length) (hx : x ≠ [] → b < a) (hy : x ≠ [] → y.size ≠ 0) : ChainP a (putT x y a b) ∧ (∀ z ∈ putT x y a b, b ≤ z.2.2) ∧ ∀ z ∈ putT x y a b, OkTk s z := by
  unfold putT
  split
  · exact ⟨trivial, fun _ h => (by cases h), fun _ h => (by cases h)⟩
  · rename_i h
    refine ⟨⟨Nat.le_refl _, hx h, trivial⟩, fun z hz => ?_, fun z hz => ?_⟩
    · rw [List.mem_singleton.1 hz]; exact Nat.le_refl _
    · rw [List.mem_singleton.1 hz]
      exact ⟨ha, fun _ => hy h, fun h => absurd h (by show ¬ ((3 : Int) = 1 ∨ (3 : Int) = 2); decide)⟩
theorem text_lt {r : List UInt8} (h : (textF r).1 ≠ []) : (textF r).2.length < r.length := by
  have := congrArg List.length (text_split r)
  rw [List.length_append] at this
  have : 0 < (textF r).1.length := List.length_pos_iff.2 h
  omega
theorem raw_lt {nm r : List UInt8} (h : (rawF nm r).1 ≠ []) : (rawF nm r).2.length < r.length := by
  have := congrArg List.length (raw_split nm r)
  rw [List.length_append] at this
  have : 0 < (rawF nm r).1.length := List.length_pos_iff.2 h
  omega
theorem bs_some {l : List UInt8} (h : l ≠ []) : (bs l).size ≠ 0 := by
  rw [bs_size]
  have : 0 < l.length := List.length_pos_iff.2 h
  omega
theorem after_ok {s r : List UInt8} (t : Option Tk) (hr : r.length ≤ s.length) : ChainP r.length (afterF t r).1 ∧ (∀ z ∈ (afterF t r).1, (afterF t r).2.length ≤ z.2.2) ∧ ∀ z ∈ (afterF t r).1, OkTk s z := by
  unfold afterF
  split
  · have hl := raw_le (rawOf t) r
    have ht := text_le (rawF (rawOf t) r).2
    obtain ⟨a1, a2, a3⟩ := putT_ok (s := s) (x := (rawF (rawOf t) r).1) (y := bs (if rawN (rawOf t) = 2 then entT (rawF (rawOf t) r).1 else (rawF (rawOf t) r).1)) (a := r.length) (b := (rawF (rawOf t) r).2.length) hr raw_lt (fun h => bs_some (by split; exact entT_some h; exact h))
    obtain ⟨b1, b2, b3⟩ := putT_ok (s := s) (x := (textF (rawF (rawOf t) r).2).1) (y := bs (entT (textF (rawF (rawOf t) r).2).1)) (a := (rawF (rawOf t) r).2.length) (b := (textF (rawF (rawOf t) r).2).2.length) (by omega) text_lt (fun h => bs_some (entT_some h))
    dsimp only
    refine ⟨a1.append a2 hl b1, fun z hz => ?_, fun z hz => ?_⟩
    · rcases List.mem_append.1 hz with h | h
      · exact Nat.le_trans ht (a2 z h)
      · exact b2 z h
    · rcases List.mem_append.1 hz with h | h
      · exact a3 z h
      · exact b3 z h
  · exact putT_ok hr text_lt (fun h => bs_some (entT_some h))
theorem readM_ok {s r : List UInt8} (hr : r <:+ s) (hm : r = [] ∨ markF r ≠ 0) : ChainP r.length (readM r).1 ∧ ∀ z ∈ (readM r).1, OkTk s z := by
  induction hn : r.length using Nat.strongRecOn generalizing r with
  | ind n ih =>
    subst hn
    rcases hm with rfl | hm
    · rw [readM_nil]; exact ⟨trivial, fun _ h => by cases h⟩
    rw [readM_step hm]
    cases hx : nextF r with
    | none => exact ⟨trivial, fun _ h => by cases h⟩
    | some x =>
      obtain ⟨t, e, r2⟩ := x
      dsimp only
      obtain ⟨s1, s2⟩ := next_tok hm hx
      have l1 := next_le hm hx
      have l2 := after_le t r2
      dsimp only at s1 s2 l1
      have hsl := hr.length_le
      have hs2 : (afterF t r2).2 <:+ s := by
        refine List.IsSuffix.trans ?_ (s1.trans hr)
        unfold afterF
        split
        · exact List.IsSuffix.trans ⟨_, text_split _⟩ ⟨_, raw_split _ _⟩
        · exact ⟨_, text_split _⟩
      obtain ⟨c1, c2, c3⟩ := after_ok (s := s) (r := r2) t (by omega)
      obtain ⟨d1, d2⟩ := ih _ (by omega) hs2 (after_mark t r2) rfl
      have hM : ChainP r.length (putM t r.length r2.length) ∧ (∀ z ∈ putM t r.length r2.length, r2.length ≤ z.2.2) ∧ ∀ z ∈ putM t r.length r2.length, OkTk s z := by
        cases t with
        | none => exact ⟨trivial, fun _ h => (by cases h), fun _ h => (by cases h)⟩
        | some t =>
          obtain ⟨k1, k2⟩ := s2 t rfl
          refine ⟨⟨Nat.le_refl _, l1, trivial⟩, fun z hz => ?_, fun z hz => ?_⟩
          · rw [List.mem_singleton.1 hz]; exact Nat.le_refl _
          · rw [List.mem_singleton.1 hz]
            refine ⟨hsl, fun h => absurd h k1, fun h => ?_⟩
            obtain ⟨k3, k4⟩ := k2 h
            obtain ⟨b, tt, hrr⟩ := mark_two hm
            refine ⟨?_, ?_, k4⟩
            · have := suf_at hr 0
              rw [Nat.add_zero] at this
              rw [this, hrr]
              rfl
            · have := suf_at (k3.trans hr) 0
              rw [List.length_cons] at this
              rw [show s.length - r2.length - 1 = s.length - (r2.length + 1) + 0 from by omega, this]
              rfl
      refine ⟨?_, fun z hz => ?_⟩
      · rw [List.append_assoc]
        exact hM.1.append hM.2.1 (by omega) (c1.append c2 l2 d1)
      · rcases List.mem_append.1 hz with h | h
        · rcases List.mem_append.1 h with h | h
          · exact hM.2.2 z h
          · exact c3 z h
        · exact d2 z h
/-- TOKENS STAND ONE BEHIND THE OTHER, each of some bytes of its own. -/
theorem places_law (s : List UInt8) : ChainP s.length (readF s).1 ∧ ∀ z ∈ (readF s).1, OkTk s z := by
  unfold readF
  dsimp only
  obtain ⟨b1, b2, b3⟩ := putT_ok (s := s) (x := (textF s).1) (y := bs (entT (textF s).1)) (a := s.length) (b := (textF s).2.length) (Nat.le_refl _) text_lt (fun h => bs_some (entT_some h))
  obtain ⟨c1, c2⟩ := readM_ok (s := s) (r := (textF s).2) ⟨_, text_split s⟩ (text_mark s)
  refine ⟨b1.append b2 (text_le s) c1, fun z hz => ?_⟩
  rcases List.mem_append.1 hz with h | h
  · exact b3 z h
  · exact c2 z h
end Go.Proofs.YtegcedboeemedaaGreatDoor

/-
Case folding: what the library's tables say of ASCII, and of the two signs beyond that fold to it; SimpleFold there.
-/
namespace Go.Proofs.YtegcedboeemedaaGreatDoor
open Go.RowKit Go.Cl
attribute [local go_sem ↓] Go.wp_at_zero Go.wp_at_succ
set_option maxRecDepth 100000
def foldT : List Nat := [0, 1, 2, 3, 4, 5, 6, 7, 8, 9, 10, 11, 12, 13, 14, 15, 16, 17, 18, 19, 20, 21, 22, 23, 24, 25, 26, 27, 28, 29, 30, 31, 32, 33, 34, 35, 36, 37, 38, 39, 40, 41, 42, 43, 44, 45, 46, 47, 48, 49, 50, 51, 52, 53, 54, 55, 56, 57, 58, 59, 60, 61, 62, 63, 64, 97, 98, 99, 100, 101, 102, 103, 104, 105, 106, 107, 108, 109, 110, 111, 112, 113, 114, 115, 116, 117, 118, 119, 120, 121, 122, 91, 92, 93, 94, 95, 96, 65, 66, 67, 68, 69, 70, 71, 72, 73, 74, 8490, 76, 77, 78, 79, 80, 81, 82, 383, 84, 85, 86, 87, 88, 89, 90, 123, 124, 125, 126, 127]
def orbT : List (Nat × Nat) := [(75, 107), (83, 115), (107, 8490), (115, 383), (181, 924), (197, 229), (223, 7838), (229, 8491), (304, 304), (305, 305), (383, 83), (452, 453), (453, 454), (454, 452), (455, 456), (456, 457), (457, 455), (458, 459), (459, 460), (460, 458), (497, 498), (498, 499), (499, 497), (837, 921), (912, 8147), (914, 946), (917, 949), (920, 952), (921, 953), (922, 954), (924, 956), (928, 960), (929, 961), (931, 962), (934, 966), (937, 969), (944, 8163), (946, 976), (949, 1013), (952, 977), (953, 8126), (954, 1008), (956, 181), (960, 982), (961, 1009), (962, 963), (963, 931), (966, 981), (969, 8486), (976, 914), (977, 1012), (981, 934), (982, 928), (1008, 922), (1009, 929), (1012, 920), (1013, 917), (1042, 1074), (1044, 1076), (1054, 1086), (1057, 1089), (1058, 1090), (1066, 1098), (1074, 7296), (1076, 7297), (1086, 7298), (1089, 7299), (1090, 7300), (1098, 7302), (1122, 1123), (1123, 7303), (7296, 1042), (7297, 1044), (7298, 1054), (7299, 1057), (7300, 7301), (7301, 1058), (7302, 1066), (7303, 1122), (7304, 42570), (7776, 7777), (7777, 7835), (7835, 7776), (7838, 223), (8126, 837), (8147, 912), (8163, 944), (8486, 937), (8490, 75), (8491, 197), (42570, 42571), (42571, 7304), (64261, 64262), (64262, 64261)]
theorem foldT_len : foldT.length = 128 := by decide
theorem orbT_len : orbT.length = 94 := by decide
def orbAt (i : Nat) : Nat × Nat := orbT.getD i (0, 0)
def foldAt (i : Nat) : Nat := foldT.getD i 0
/-- The two tables lie in memory. -/
structure FoldTabs (w : World) : Prop where
  ascii : ∀ i, i < 128 → w.cell? ⟨3, i, none⟩ = some (.int .u16 (foldAt i : Nat))
  orbit : ∃ R oR cap, w.cell? ⟨4, 0, none⟩ = some (.slice (some ⟨R, oR, none⟩) 94 cap) ∧ ∀ i, i < 94 → w.cell? ⟨R, oR + i * 2, none⟩ = some (.int .u16 ((orbAt i).1 : Nat)) ∧ w.cell? ⟨R, oR + i * 2 + 1, none⟩ = some (.int .u16 ((orbAt i).2 : Nat))
theorem FoldTabs.next {w w' : World} {X : Nat} (h : FoldTabs w) (hX : w.heap.size ≤ X) (hb : Below X w w') : FoldTabs w' := by
  have hb2 := hb.mono hX
  refine ⟨fun i hi => cell_be (h.ascii i hi) hb2, ?_⟩
  obtain ⟨R, oR, cap, h1, h2⟩ := h.orbit
  exact ⟨R, oR, cap, cell_be h1 hb2, fun i hi => ⟨cell_be (h2 i hi).1 hb2, cell_be (h2 i hi).2 hb2⟩⟩
theorem foldAt_lt (r : Nat) (h : r < 128) : foldAt r < 65536 := by
  have : ∀ i : Fin 128, foldAt i.val < 65536 := by decide +kernel
  exact this ⟨r, h⟩
theorem orb_lt (i : Nat) (h : i < 94) : (orbAt i).1 < 65536 ∧ (orbAt i).2 < 65536 := by
  have : ∀ i : Fin 94, (orbAt i.val).1 < 65536 ∧ (orbAt i.val).2 < 65536 := by decide +kernel
  exact this ⟨i, h⟩
set_option maxRecDepth 100000 in
theorem simpleFold_low (r : Nat) (hr : r < 128) (w : World) (hT : FoldTabs w) :
    Calls Tryz.prog 151 #[.int .i32 (r : Int)] w fun e w' => e = .returned (.int .i32 (foldAt r : Nat)) ∧ w' = w := by
  have c0 := hT.ascii r hr
  have hl := foldAt_lt r hr
  clear hT
  generalize foldAt r = v at *
  have k1 : IntKind.i32.wrap (v : Int) = (v : Int) := IntWalk.i32_in _ (by omega)
  go_enter Tryz.func151, Tryz.ntmps151
  go_wp2_with fail
  go_ret
  exact ⟨rfl, rfl⟩
set_option maxRecDepth 100000 in
set_option maxHeartbeats 4000000 in
theorem simpleFold_orb (r p : Nat) (hp : p < 94) (hr : 128 ≤ r) (hr2 : r < 65536) (hlo : ∀ i, i < 94 → ((orbAt i).1 < r ↔ i < p)) (heq : (orbAt p).1 = r) (w : World) (hT : FoldTabs w) :
    Calls Tryz.prog 151 #[.int .i32 (r : Int)] w fun e w' => e = .returned (.int .i32 ((orbAt p).2 : Nat)) ∧ w' = w := by
  obtain ⟨R, oR, cap, c0, hc⟩ := hT.orbit
  have HC := Lib.hid hc
  have HLO := Lib.hid hlo
  have HEQ := Lib.hid heq
  have hpl := orb_lt p hp
  clear hT hc hlo heq
  go_enter Tryz.func151, Tryz.ntmps151
  go_wp2_with fail
  go_loopw [3, 4] (fun s3 s4 wr => ∃ lo hi : Nat, s3 = .int .i64 lo ∧ s4 = .int .i64 hi ∧ lo ≤ hi ∧ hi ≤ 94 ∧ w = wr ∧ Hid (lo ≤ p ∧ p ≤ hi)) (fun s3 s4 _ => (intOf s4).toNat - (intOf s3).toNat)
  case atStart => exact ⟨0, 94, rfl, rfl, Nat.zero_le _, Nat.le_refl _, rfl, Lib.hid ⟨Nat.zero_le _, by omega⟩⟩
  case round =>
    obtain ⟨lo, hi, rfl, rfl, hlh, hin, rfl, HI⟩ := hrel
    by_cases hlt : lo < hi
    · have hm : (lo + hi) / 2 < 94 := by omega
      obtain ⟨c1, c2⟩ := HC.out _ hm
      obtain ⟨l1, l2⟩ := orb_lt _ hm
      have h1 := HLO.out _ hm
      obtain ⟨y, hy⟩ : ∃ y, (orbAt ((lo + hi) / 2)).1 = y := ⟨_, rfl⟩
      rw [hy] at h1 c1 l1
      clear hy c2 l2
      have k1 : IntKind.i32.wrap (y : Int) = (y : Int) := IntWalk.i32_in _ (by omega)
      by_cases hyx : y < r
      · have HI2 : Hid ((lo + hi) / 2 + 1 ≤ p ∧ p ≤ hi) := ⟨h1.1 hyx, HI.out.2⟩
        clear h1
        go_wp2_with fail
        go_roundw
        case rel => exact ⟨(lo + hi) / 2 + 1, hi, by rw [show ((lo : Int) + (hi : Int)) / 2 + 1 = (((lo + hi) / 2 + 1 : Nat) : Int) by omega], rfl, by omega, hin, by first | rfl | trivial, HI2⟩
        case measure => simp [intOf]; omega
      · have HI2 : Hid (lo ≤ p ∧ p ≤ (lo + hi) / 2) := ⟨HI.out.1, Nat.le_of_not_lt fun k => hyx (h1.2 k)⟩
        clear h1
        go_wp2_with fail
        go_roundw
        case rel => exact ⟨lo, (lo + hi) / 2, rfl, by rw [show ((lo : Int) + (hi : Int)) / 2 = (((lo + hi) / 2 : Nat) : Int) by omega], by omega, by omega, by first | rfl | trivial, HI2⟩
        case measure => simp [intOf]; omega
    · obtain rfl : hi = lo := by omega
      obtain rfl : hi = p := by have := HI.out; omega
      obtain ⟨c1, c2⟩ := HC.out _ hp
      rw [HEQ.out] at c1
      obtain ⟨z, hz⟩ : ∃ z, (orbAt hi).2 = z := ⟨_, rfl⟩
      have HZ := Lib.hid hz
      rw [hz] at c2 hpl
      clear hz
      have k1 : IntKind.i32.wrap (r : Int) = (r : Int) := IntWalk.i32_in _ (by omega)
      have k2 : IntKind.i32.wrap (z : Int) = (z : Int) := IntWalk.i32_in _ (by omega)
      go_wp2_with fail
      go_ret
      exact ⟨by rw [HZ.out]; rfl, rfl⟩
theorem fold_383 (w : World) (hT : FoldTabs w) : Calls Tryz.prog 151 #[.int .i32 383] w fun e w' => e = .returned (.int .i32 83) ∧ w' = w :=
  simpleFold_orb 383 10 (by decide) (by decide) (by decide) (fun i hi => (by decide +kernel : ∀ i : Fin 94, ((orbAt i.val).1 < 383 ↔ i.val < 10)) ⟨i, hi⟩) (by decide +kernel) w hT
theorem fold_8490 (w : World) (hT : FoldTabs w) : Calls Tryz.prog 151 #[.int .i32 8490] w fun e w' => e = .returned (.int .i32 75) ∧ w' = w :=
  simpleFold_orb 8490 88 (by decide) (by decide) (by decide) (fun i hi => (by decide +kernel : ∀ i : Fin 94, ((orbAt i.val).1 < 8490 ↔ i.val < 88)) ⟨i, hi⟩) (by decide +kernel) w hT
end Go.Proofs.YtegcedboeemedaaGreatDoor

/-
EqualFold against a text of ASCII that is no shorter, whatever bytes the other one has.
-/
namespace Go.Proofs.YtegcedboeemedaaGreatDoor
open Go.RowKit Go.Cl
attribute [local go_sem ↓] Go.wp_at_zero Go.wp_at_succ
theorem decode_wide (s : ByteArray) (pos : Nat) (h : pos < s.size) (ha : 128 ≤ (s[pos]'h).toNat) : (Utf8.decode s pos).1 = 65533 ∨ (2 ≤ (Utf8.decode s pos).2 ∧ pos + (Utf8.decode s pos).2 ≤ s.size) := by
  have hn : ¬ (s[pos]'h).toNat < 128 := by omega
  simp only [Utf8.decode, Go.get_at s pos h, hn, if_false]
  repeat' split
  all_goals simp_all [Utf8.runeError]
  all_goals omega
/-- SimpleFold, where it is known. -/
def nxF (r : Nat) : Nat := if r < 128 then foldAt r else if r = 383 then 83 else 75
def domF (r : Nat) : Prop := r < 128 ∨ r = 383 ∨ r = 8490
theorem simpleFold_dom (r : Nat) (h : domF r) (w : World) (hT : FoldTabs w) : Calls Tryz.prog 151 #[.int .i32 (r : Int)] w fun e w' => e = .returned (.int .i32 (nxF r : Nat)) ∧ w' = w := by
  rcases h with h | rfl | rfl
  · have := simpleFold_low r h w hT
    rw [show nxF r = foldAt r from if_pos h]
    exact this
  · exact fold_383 w hT
  · exact fold_8490 w hT
theorem nx_dom (y : Nat) (h : y < 128) : domF (nxF y) ∧ domF (nxF (nxF y)) ∧ (nxF y = y ∨ nxF (nxF y) = y ∨ nxF (nxF (nxF y)) = y) := by
  have : ∀ i : Fin 128, (nxF i.val < 128 ∨ nxF i.val = 383 ∨ nxF i.val = 8490) ∧ (nxF (nxF i.val) < 128 ∨ nxF (nxF i.val) = 383 ∨ nxF (nxF i.val) = 8490) ∧ (nxF i.val = i.val ∨ nxF (nxF i.val) = i.val ∨ nxF (nxF (nxF i.val)) = i.val) := by decide +kernel
  exact this ⟨y, h⟩
/-- What SimpleFold says one time behind the other. -/
def chF (y : Nat) : Nat → Nat → Prop
  | 0, r => r = nxF y
  | 1, r => r = nxF (nxF y) ∧ nxF y ≠ y
  | _, r => r = y
theorem ch_dom {y r : Nat} (h : y < 128) : ∀ {k : Nat}, k ≤ 2 → chF y k r → domF r
  | 0, _, hc => by rw [show r = nxF y from hc]; exact (nx_dom y h).1
  | 1, _, hc => by rw [show r = nxF (nxF y) from hc.1]; exact (nx_dom y h).2.1
  | 2, _, hc => by rw [show r = y from hc]; exact .inl h
theorem ch_next {y r : Nat} (h : y < 128) : ∀ {k : Nat}, k ≤ 2 → chF y k r → r ≠ y → k < 2 ∧ chF y (k + 1) (nxF r)
  | 0, _, hc, hr => by
    obtain rfl : r = nxF y := hc
    exact ⟨by omega, rfl, hr⟩
  | 1, _, hc, hr => by
    obtain ⟨rfl, h1⟩ : r = nxF (nxF y) ∧ nxF y ≠ y := hc
    refine ⟨by omega, ?_⟩
    rcases (nx_dom y h).2.2 with h2 | h2 | h2
    · exact absurd h2 h1
    · exact absurd h2 hr
    · exact h2
  | 2, _, hc, hr => absurd (show r = y from hc) hr
theorem fold_neq {s t : List UInt8} {i : Nat} {x y : UInt8} (hx : s[i]? = some x) (hy : t[i]? = some y) (h : Lib.foldEq x y = false) : Lib.equalFold s t = false := by
  induction i generalizing s t with
  | zero =>
    cases s with
    | nil => simp at hx
    | cons a s =>
      cases t with
      | nil => simp at hy
      | cons b t =>
        simp at hx hy
        subst hx hy
        exact Lib.equalFold_no _ _ _ _ h
  | succ i ih =>
    cases s with
    | nil => simp at hx
    | cons a s =>
      cases t with
      | nil => simp at hy
      | cons b t =>
        simp only [List.getElem?_cons_succ] at hx hy
        have := ih hx hy
        show (Lib.foldEq a b && Lib.equalFold s t) = false
        rw [this, Bool.and_false]
set_option maxRecDepth 1000000 in
set_option maxHeartbeats 8000000 in
theorem fold_wide (s t : ByteArray) (w : World) (hsz : s.size ≤ t.size) (htz : t.size ≤ 1000000) (hna : ∃ k : Nat, ∃ x : UInt8, s.data.toList[k]? = some x ∧ 128 ≤ x.toNat) (hta : ∀ (j : Nat) b, t.data.toList[j]? = some b → b.toNat < 128) (hT : FoldTabs w) :
    Calls Tryz.prog 113 #[.string s, .string t] w fun e w' => e = .returned (.bool (Lib.equalFold s.data.toList t.data.toList)) ∧ Below w.heap.size w w' := by
  have HTA := Lib.hid hta
  have HNA := Lib.hid hna
  have HT := Lib.hid hT
  clear hna hta hT
  have hmin : min (s.size : Int) (t.size : Int) = (s.size : Int) := by omega
  go_enter Tryz.func113, Tryz.ntmps113
  go_wp2_with fail
  refine wp_scope_jumps 0 (fun a' w' => w' = w ∧ ∃ (i : Nat) (u4 u6 u7 u8 u14 u15 u16 u17 u18 u19 u20 u21 u22 u23 u24 u25 u26 u27 u28 u29 u30 u31 u32 u33 u34 u35 u36 u37 u38 u39 u40 u41 u42 u43 u44 u45 u46 u47 u48 u49 u50 u51 u52 u53 u54 : Value), a' = { tmps := #[.string s, .string t, undef, undef, u4, .int .i64 (i : Int), u6, u7, u8, undef, undef, undef, undef, undef, u14, u15, u16, u17, u18, u19, u20, u21, u22, u23, u24, u25, u26, u27, u28, u29, u30, u31, u32, u33, u34, u35, u36, u37, u38, u39, u40, u41, u42, u43, u44, u45, u46, u47, u48, u49, u50, u51, u52, u53, u54, undef, undef, undef, undef, undef, undef, undef, undef, undef, undef, undef, undef, undef, undef, undef, undef, undef, undef, undef, undef, undef, undef, undef, undef, undef, undef, undef, undef, undef, undef, undef, undef, undef, undef, undef, undef, undef, undef, undef, undef, undef, undef, undef, undef, undef, undef, undef, undef, undef, undef, undef, undef, undef, undef, undef, undef, undef, undef, undef, undef, undef, undef, undef, undef, undef, undef, undef, undef], defers := [] } ∧ i < s.size ∧ Hid ((∃ x, s.data.toList[i]? = some x ∧ 128 ≤ x.toNat) ∧ Lib.equalFold s.data.toList t.data.toList = false)) (fun _ _ => 0) rfl ?_ ?_
  · go_wp2_with fail
    go_loopg [5] s.size (fun g s5 wx => w = wx ∧ ∃ i : Nat, i + g = s.size ∧ s5 = .int .i64 i ∧ Lib.equalFold (s.data.toList.drop i) (t.data.toList.drop i) = Lib.equalFold s.data.toList t.data.toList ∧ ∀ k, k < i → ∀ b, s.data.toList[k]? = some b → b.toNat < 128)
    case atStart => exact ⟨rfl, 0, by omega, rfl, rfl, fun k hk => absurd hk (by omega)⟩
    case round =>
      obtain ⟨rfl, i, hig, rfl, hinv, hlow⟩ := hrel
      have HI := Lib.hid hinv
      have HLO := Lib.hid hlow
      clear hinv hlow
      cases gk with
      | zero =>
        obtain rfl : i = s.size := by omega
        exfalso
        obtain ⟨k, x, hx, h1⟩ := HNA.out
        have := HLO.out k (by have := (List.getElem?_eq_some_iff.1 hx).1; simpa using this) x hx
        omega
      | succ g =>
        have hisz : (i : Int) < (s.size : Int) := by omega
        have hitz : (i : Int) < (t.size : Int) := by omega
        obtain ⟨x, hx⟩ : ∃ x : UInt8, s[i]'(by omega) = x := ⟨_, rfl⟩
        obtain ⟨y, hy⟩ : ∃ y : UInt8, t[i]'(by omega) = y := ⟨_, rfl⟩
        have hxl : s.data.toList[i]? = some x := by rw [← hx]; exact Lib.data_getElem? s i (by omega)
        have hyl : t.data.toList[i]? = some y := by rw [← hy]; exact Lib.data_getElem? t i (by omega)
        have hy128 : y.toNat < 128 := HTA.out i y hyl
        by_cases hx128 : x.toNat < 128
        · have hor : bits .or .u8 (x.toNat : Int) (y.toNat : Int) = ((x.toNat ||| y.toNat : Nat) : Int) := u8_or_nat _ _ (by omega) (by omega)
          have hor128 : ¬ ((128 : Int) ≤ ((x.toNat ||| y.toNat : Nat) : Int)) := by have := Nat.or_lt_two_pow (n := 7) hx128 hy128; omega
          have Hx := Lib.hid (show s.data.toList[i]? = some x ∧ t.data.toList[i]? = some y from ⟨hxl, hyl⟩)
          have HLO2 : Hid (∀ k, k < i + 1 → ∀ b, s.data.toList[k]? = some b → b.toNat < 128) := fun k hk b hb => by
            by_cases hki : k < i
            · exact HLO.out k hki b hb
            · obtain rfl : k = i := by omega
              rw [Hx.out.1] at hb
              cases hb
              exact hx128
          clear hxl hyl
          go_wp2_with fail
          all_goals (try simp only [beq_iff_eq, beq_eq_false_iff_ne, ne_eq] at *)
          all_goals first
            | (go_roundg g
               case measure => omega
               case rel => exact ⟨rfl, i + 1, by omega, by first | rfl | simp, by rw [← HI.out, Lib.drop_at Hx.out.1, Lib.drop_at Hx.out.2, Lib.equalFold_yes _ _ _ _ (decide_eq_true (by omega))], HLO2.out⟩)
            | (try simp only [Exit.jump]
               go_ret
               refine ⟨?_, Below.refl _ _⟩
               rw [← HI.out, Lib.drop_at Hx.out.1, Lib.drop_at Hx.out.2, Lib.equalFold_no _ _ _ _ (decide_eq_false (by omega))]
               rfl)
        · have hor : bits .or .u8 (x.toNat : Int) (y.toNat : Int) = ((x.toNat ||| y.toNat : Nat) : Int) := u8_or_nat _ _ (by have := x.toNat_lt; omega) (by omega)
          have hor128 : (128 : Int) ≤ ((x.toNat ||| y.toNat : Nat) : Int) := by have := @Nat.left_le_or x.toNat y.toNat; omega
          have HF : Hid ((∃ x, s.data.toList[i]? = some x ∧ 128 ≤ x.toNat) ∧ Lib.equalFold s.data.toList t.data.toList = false) := ⟨⟨x, hxl, by omega⟩, fold_neq hxl hyl (decide_eq_false (by omega))⟩
          clear hxl hyl
          go_wp2_with fail
          go_step3
          exact ⟨rfl, rfl, i, _, _, _, _, _, _, _, _, _, _, _, _, _, _, _, _, _, _, _, _, _, _, _, _, _, _, _, _, _, _, _, _, _, _, _, _, _, _, _, _, _, _, _, _, _, rfl, by omega, HF⟩
  · rintro a' w' ⟨rfl, i, u4, u6, u7, u8, u14, u15, u16, u17, u18, u19, u20, u21, u22, u23, u24, u25, u26, u27, u28, u29, u30, u31, u32, u33, u34, u35, u36, u37, u38, u39, u40, u41, u42, u43, u44, u45, u46, u47, u48, u49, u50, u51, u52, u53, u54, rfl, hi, HJ⟩
    have i0 : (0 : Int) ≤ (i : Int) := by omega
    have i1 : (i : Int) ≤ (s.size : Int) := by omega
    have i2 : (i : Int) ≤ (t.size : Int) := by omega
    obtain ⟨s1, hs1⟩ : ∃ s1, s.extract i s.size = s1 := ⟨_, rfl⟩
    obtain ⟨t1, ht1⟩ : ∃ t1, t.extract i t.size = t1 := ⟨_, rfl⟩
    have hs1l : s1.data.toList = s.data.toList.drop i := by rw [← hs1, Lib.extract_to_end]
    have ht1l : t1.data.toList = t.data.toList.drop i := by rw [← ht1, Lib.extract_to_end]
    have hs1z : s1.size = s.size - i := by rw [Lib.size_eq, hs1l, List.length_drop, ← Lib.size_eq]
    have ht1z : t1.size = t.size - i := by rw [Lib.size_eq, ht1l, List.length_drop, ← Lib.size_eq]
    have HTL : Hid (t1.data.toList = t.data.toList.drop i) := ht1l
    have HS0 : Hid (∀ h : 0 < s1.size, 128 ≤ (s1[0]'h).toNat) := fun h => by
      obtain ⟨⟨x, hx, h1⟩, _⟩ := HJ.out
      have h2 : s1.data.toList[0]? = some x := by rw [hs1l, List.getElem?_drop]; exact hx
      rw [Lib.data_getElem? s1 0 h] at h2
      cases h2
      exact h1
    have HF : Hid (Lib.equalFold s.data.toList t.data.toList = false) := HJ.out.2
    clear hs1l ht1l HJ
    go_wp2_with fail
    clear hs1 ht1
    go_loopg [1] s1.size (fun g v1 wx => ∃ (pos q : Nat) (tt : ByteArray), pos + g = s1.size ∧ v1 = .string tt ∧ Hid (tt.data.toList = t.data.toList.drop (i + q)) ∧ Hid (tt.size = t.size - (i + q)) ∧ wx.heap[w'.heap.size]? = some (.stringIter s1 pos) ∧ Below w'.heap.size w' wx ∧ ((pos = 0 ∧ q = 0) ∨ q < pos))
    case atStart => exact ⟨0, 0, t1, by omega, rfl, HTL, Lib.hid (by omega), World.iter_heap w' s1 0, (Below.refl _ _).alloc (Nat.le_refl _) _, .inl ⟨rfl, rfl⟩⟩
    case round =>
      obtain ⟨pos, q, tt, hpg, rfl, HTT, HTZ, hit, hb, hpq⟩ := hrel
      by_cases hlt : pos < s1.size
      · have htpos : 0 < tt.size := by have := HTZ.out; omega
        obtain ⟨y, hy⟩ : ∃ y : UInt8, tt[0]'htpos = y := ⟨_, rfl⟩
        have hyl : tt.data.toList[0]? = some y := by rw [← hy]; exact Lib.data_getElem? tt 0 htpos
        have hy128 : y.toNat < 128 := HTA.out (i + q) y (by rw [← hyl, HTT.out, List.getElem?_drop]; rfl)
        have HDE := Lib.hid (fun W : World => Tryz.utf8_DecodeRuneInString_ascii tt y W hyl hy128)
        obtain ⟨t2, ht2⟩ : ∃ t2, tt.extract 1 tt.size = t2 := ⟨_, rfl⟩
        have ht2l : t2.data.toList = tt.data.toList.drop 1 := by rw [← ht2, Lib.extract_to_end]
        have HT2 : Hid (t2.data.toList = t.data.toList.drop (i + (q + 1))) := by rw [show i + (q + 1) = i + q + 1 by omega, ← List.drop_drop, ← HTT.out]; exact ht2l
        have HT2Z : Hid (t2.size = t.size - (i + (q + 1))) := by show t2.size = _; rw [Lib.size_eq, HT2.out, List.length_drop, ← Lib.size_eq]
        have e0 : ((tt.size : Int) == 0) = false := beq_eq_false_iff_ne.2 (by omega)
        have e1 : ¬ (tt.size : Int) = 0 := by omega
        have e2 : (1 : Int) ≤ (tt.size : Int) := by omega
        clear hy hyl ht2l HTT
        by_cases hx : (s1[pos]'hlt).toNat < 128
        · have hp0 : ¬ pos = 0 := by
            rintro rfl
            have := HS0.out hlt
            omega
          have hnx : ∀ ty, (Instr.next (.pointer (some ⟨w'.heap.size, 0, none⟩)) true ty).run Tryz.prog wr = _ := fun ty => Lib.run_next_ascii_at wr w'.heap.size s1 pos ty hit hlt hx
          have hit2 := Lib.iterAt_heap wr w'.heap.size s1 pos (pos + 1) hit
          have hb2 := Lib.below_iterAt hb (k := w'.heap.size) (Nat.le_refl _) s1 (pos + 1)
          obtain ⟨W, hW⟩ : ∃ W, wr.iterAt w'.heap.size s1 (pos + 1) = W := ⟨_, rfl⟩
          rw [hW] at hnx hit2 hb2
          have hxl := hx
          generalize (s1[pos]'hlt).toNat = x at *
          clear hit hb hW
          go_wp2_with (go_at_call 93; refine (HDE.out _).mono ?_; rintro e w1 ⟨rfl, rfl⟩)
          all_goals (try simp only [beq_iff_eq, beq_eq_false_iff_ne, ne_eq] at *)
          all_goals first
            | (go_roundg (s1.size - (pos + 1))
               case measure => omega
               case rel => exact ⟨pos + 1, q + 1, t2, by omega, rfl, HT2, HT2Z, hit2, hb2, .inr (by omega)⟩)
            | (try simp only [Exit.jump]
               go_ret
               exact ⟨by rw [HF.out]; rfl, hb2⟩)
        · have hx2 : 128 ≤ (s1[pos]'hlt).toNat := by omega
          obtain ⟨hd1, hd2⟩ := Go.decode_high s1 pos hlt hx2
          have hd3 := Go.decode_le s1 pos
          have hd4 := decode_wide s1 pos hlt hx2
          have hnx : ∀ ty, (Instr.next (.pointer (some ⟨w'.heap.size, 0, none⟩)) true ty).run Tryz.prog wr = _ := fun ty => Lib.run_next_any_at wr w'.heap.size s1 pos ty hit hlt
          obtain ⟨R, hR⟩ : ∃ R, (Utf8.decode s1 pos).1 = R := ⟨_, rfl⟩
          obtain ⟨K, hK⟩ : ∃ K, (Utf8.decode s1 pos).2 = K := ⟨_, rfl⟩
          rw [hR, hK] at hd4 hnx
          rw [hR] at hd1 hd3
          rw [hK] at hd2
          clear hR hK hx hx2
          have hit2 := Lib.iterAt_heap wr w'.heap.size s1 pos (pos + K) hit
          have hb2 := Lib.below_iterAt hb (k := w'.heap.size) (Nat.le_refl _) s1 (pos + K)
          obtain ⟨W, hW⟩ : ∃ W, wr.iterAt w'.heap.size s1 (pos + K) = W := ⟨_, rfl⟩
          rw [hW] at hnx hit2 hb2
          clear hit hb hW
          have HTW : Hid (FoldTabs W) := HT.out.next (Nat.le_refl _) hb2
          have HSF := Lib.hid (fun r (h : domF r) => simpleFold_dom r h W HTW.out)
          generalize y.toNat = n at *
          have ne1 : ((n : Int) == (R : Int)) = false := beq_eq_false_iff_ne.2 (by omega)
          have ne2 : ¬ (n : Int) = (R : Int) := by omega
          have lt1 : (n : Int) < (R : Int) := by omega
          have lt2 : ¬ (R : Int) < 128 := by omega
          have HD4 := Lib.hid hd4
          have HRL := Lib.hid (show 128 ≤ R ∧ R ≤ 2147483647 from ⟨hd1, hd3⟩)
          have HPQ := Lib.hid hpq
          have HN := Lib.hid hy128
          clear hd1 hd2 hd3 hd4 hpq hy128
          go_wp2_with (first | (go_at_call 93; refine (HDE.out _).mono ?_; rintro e w1 ⟨rfl, hw1⟩; rw [hw1]; clear hw1) | (go_at_call 151; refine (HSF.out _ (.inl HN.out)).mono ?_; rintro e w2 ⟨rfl, hw2⟩; rw [hw2]; clear hw2))
          go_loopg [13] 2 (fun g v13 wx => W = wx ∧ ∃ r k : Nat, k + g = 2 ∧ v13 = .int .i32 r ∧ Hid (chF n k r))
          case atStart => exact ⟨rfl, _, 0, rfl, rfl, rfl⟩
          case round =>
            obtain ⟨rfl, r, k, hkg, rfl, HC⟩ := hrel
            have hrl : r < 65536 := by
              rcases ch_dom HN.out (by omega) HC.out with h | rfl | rfl <;> omega
            by_cases hry : r = n
            · subst hry
              go_wp2_with fail
              try simp only [Exit.jump]
              go_ret
              exact ⟨by rw [HF.out]; rfl, hb2⟩
            · have f1 : ((r : Int) == (n : Int)) = false := beq_eq_false_iff_ne.2 (by omega)
              have f2 : ¬ (r : Int) = (n : Int) := by omega
              by_cases hrR : r < R
              · have f3 : (r : Int) < (R : Int) := by omega
                obtain ⟨hk2, hc2⟩ := ch_next HN.out (by omega) HC.out hry
                have HC2 := Lib.hid hc2
                have HDM := Lib.hid (ch_dom HN.out (by omega) HC.out)
                clear hc2
                go_wp2_with (go_at_call 151; refine (HSF.out _ HDM.out).mono ?_; rintro e w2 ⟨rfl, hw2⟩; rw [hw2]; clear hw2)
                go_roundg (1 - k)
                case measure => omega
                case rel => exact ⟨by first | rfl | trivial, _, k + 1, by omega, rfl, HC2⟩
              · have f3 : ¬ (r : Int) < (R : Int) := by omega
                by_cases hrq : r = R
                · subst hrq
                  have hdm := ch_dom HN.out (by omega) HC.out
                  have hrr := HRL.out
                  have hdd := HD4.out
                  go_wp2_with fail
                  go_roundg (s1.size - (pos + K))
                  case measure => rcases hdm with h | h | h <;> rcases HPQ.out with ⟨p1, p2⟩ | p1 <;> omega
                  case rel => exact ⟨pos + K, q + 1, t2, by rcases hdm with h | h | h <;> omega, rfl, HT2, HT2Z, hit2, hb2, .inr (by rcases hdm with h | h | h <;> rcases HPQ.out with ⟨p1, p2⟩ | p1 <;> omega)⟩
                · have f4 : ((r : Int) == (R : Int)) = false := beq_eq_false_iff_ne.2 (by omega)
                  have f5 : ¬ (r : Int) = (R : Int) := by omega
                  go_wp2_with fail
                  try simp only [Exit.jump]
                  go_ret
                  exact ⟨by rw [HF.out]; rfl, hb2⟩
      · have hnx : ∀ ty, (Instr.next (.pointer (some ⟨w'.heap.size, 0, none⟩)) true ty).run Tryz.prog wr = _ := fun ty => Lib.run_next_end_at wr w'.heap.size s1 pos ty hit hlt
        have e0 : ((tt.size : Int) == 0) = false := beq_eq_false_iff_ne.2 (by have := HTZ.out; omega)
        have e1 : ¬ (tt.size : Int) = 0 := by have := HTZ.out; omega
        clear hit
        go_wp2_with fail
        try simp only [Exit.jump]
        go_ret
        exact ⟨by rw [HF.out]; rfl, hb⟩
theorem fold_ok (w0 : World) (X : Nat) (hX : w0.heap.size ≤ X) (hT : FoldTabs w0) : FoldOk w0 X := by
  intro u hu s t hst htz hta
  have hta2 : ∀ (j : Nat) b, t.data.toList[j]? = some b → b.toNat < 128 := fun j b hb => hta b (List.mem_of_getElem? hb)
  by_cases ha : ∀ (j : Nat) b, s.data.toList[j]? = some b → b.toNat < 128
  · exact (Tryz.strings_EqualFold s t u (by omega) ha hta2).mono fun e w' h => ⟨h.1, by rw [h.2]; exact Below.refl _ _⟩
  · refine fold_wide s t u hst htz ?_ hta2 (hT.next hX hu)
    have h1 := ha
    simp only [Classical.not_forall] at h1
    obtain ⟨k, x, hx, h2⟩ := h1
    exact ⟨k, x, hx, by omega⟩
end Go.Proofs.YtegcedboeemedaaGreatDoor

/-
What the listed variables read as: the two tables of case folding lie in memory.
-/
namespace Go.Proofs.YtegcedboeemedaaGreatDoor
open Go.RowKit Go.Cl
def asciiD : DataW Unit := Lib.tabData .u16 (foldT.map fun n : Nat => (n : Int))
def orbitD : DataW Unit := .slice (orbT.map fun x => .agg ([(x.1 : Int), (x.2 : Int)].map fun z => .lit (.int .u16 z))) []
theorem foldTabs_of {w : World} (h1 : Lib.VarReads Tryz.prog w "unicode.asciiFold" asciiD) (h2 : Lib.VarReads Tryz.prog w "unicode.caseOrbit" orbitD) : FoldTabs w := by
  have n1 : Tryz.prog.globalNamed "unicode.asciiFold" = some 3 := by kernel_rfl
  have n2 : Tryz.prog.globalNamed "unicode.caseOrbit" = some 4 := by kernel_rfl
  have y1 : (Tryz.prog.globals[3]?).map (·.type) = some 237 := by kernel_rfl
  have y2 : (Tryz.prog.globals[4]?).map (·.type) = some 238 := by kernel_rfl
  have c98 : Tryz.prog.cellsOf 236 = 1 := by kernel_rfl
  have c99 : Tryz.prog.cellsOf 237 = 128 := by kernel_rfl
  have c102 : Tryz.prog.cellsOf 240 = 2 := by kernel_rfl
  refine ⟨fun i hi => ?_, ?_⟩
  · obtain ⟨g, t, cs, fuel, p, hg, hty, hvar, hd⟩ := h1
    obtain rfl := Option.some.inj (n1.symm.trans hg)
    obtain rfl := Option.some.inj (y1.symm.trans hty)
    have hcs := Lib.cells_of_tab Tryz.underlying237 Tryz.underlying236 c98 c99 hd
    have := World.var?_cell hg hvar i
    rw [this, ← Array.getElem?_toList, hcs]
    have hl : i < foldT.length := by rw [foldT_len]; exact hi
    simp [foldAt, hl]
  · obtain ⟨g, t, cs, fuel, p, hg, hty, hvar, hd⟩ := h2
    obtain rfl := Option.some.inj (n2.symm.trans hg)
    obtain rfl := Option.some.inj (y2.symm.trans hty)
    rcases DataW.trod_slice Tryz.underlying238 hd with ⟨_, hx'⟩ | ⟨a', len, cap, el, rs, m, rfl, hc0, hx', _, hlc, _, hel, helem, hsp, _⟩
    · cases hx'
    have e0 := congrArg Prod.fst hx'
    simp only [orbitD, DataW.slice.injEq] at e0
    obtain ⟨eE, eR⟩ := e0
    have hlen : len = 94 := by
      have := congrArg List.length eE
      rw [List.length_map, List.length_map, orbT_len] at this
      omega
    subst hlen
    have hrow : ∀ i, i < 94 → ∀ j, j < 2 → w.cell? ((a'.add (i * 2)).add j) = ([.int .u16 ((orbAt i).1 : Int), .int .u16 ((orbAt i).2 : Int)] : List Value)[j]? := by
      intro i hi j hj
      have g1 := helem i hi
      rw [c102] at g1
      obtain ⟨b, hb⟩ : ∃ b, el[i]? = some b := ⟨el[i]'(by omega), List.getElem?_eq_getElem (by omega)⟩
      rw [hb] at g1
      obtain ⟨ce, hce, hte⟩ := Option.bind_eq_some_iff.1 g1
      have hb1 : b.1 = .agg ([((orbAt i).1 : Int), ((orbAt i).2 : Int)].map fun z => .lit (.int .u16 z)) := by
        have := congrArg (·[i]?) eE
        simp only [List.getElem?_map, hb, Option.map_some] at this
        have hi' : i < orbT.length := by rw [orbT_len]; exact hi
        rw [List.getElem?_eq_getElem hi'] at this
        simp only [Option.map_some, Option.some.injEq] at this
        rw [← this]
        simp [orbAt, hi']
      have hcs := Lib.ints_of_struct (k := .u16) (zs := [((orbAt i).1 : Int), ((orbAt i).2 : Int)]) Tryz.underlying240 (fun j f hj => by
        match j, hj with
        | 0, hj => simp at hj; subst hj; exact ⟨Tryz.underlying236, rfl, c98⟩
        | 1, hj => simp at hj; subst hj; exact ⟨Tryz.underlying236, rfl, c98⟩
        | j + 2, hj => simp at hj) (by rw [c102]; rfl) (by rw [← hb1]; exact hte)
      obtain ⟨_, _, hcc⟩ := World.cells?_some hce
      rw [hcc j hj, hcs]
      rfl
    obtain ⟨R, oR, sR⟩ := a'
    obtain rfl : sR = none := by
      have h00 := hrow 0 (by decide) 0 (by decide)
      have : (Addr.add (Addr.add ⟨R, oR, sR⟩ (0 * 2)) 0) = ⟨R, oR, sR⟩ := by simp [Addr.add]
      rw [this] at h00
      exact cell_spot h00
    refine ⟨R, oR, cap, ?_, fun i hi => ?_⟩
    · rw [World.var?_cell hg hvar 0, ← Array.getElem?_toList, hc0]
      rfl
    · have k0 := hrow i hi 0 (by decide)
      have k1 := hrow i hi 1 (by decide)
      rw [Addr.add_lit, Addr.add_lit] at k0 k1
      exact ⟨by simpa using k0, by simpa using k1⟩
end Go.Proofs.YtegcedboeemedaaGreatDoor

/-
Escape at longer texts.
-/
namespace Go.Proofs.YtegcedboeemedaaGreatDoor
open Go.RowKit Go.Cl
abbrev maxLenAt (w : World) (m : Int) : Prop := w.cell? ⟨0, 0, none⟩ = some (.int .i64 m)
end Go.Proofs.YtegcedboeemedaaGreatDoor

/-
The shower's start.
-/
namespace Go.Proofs.YtegcedboeemedaaGreatDoor
open Go.RowKit Go.Cl
attribute [local go_sem ↓] Go.wp_at_zero Go.wp_at_succ
end Go.Proofs.YtegcedboeemedaaGreatDoor

/-
Tokens: the reader's closes, at longer texts.
-/
namespace Go.Proofs.YtegcedboeemedaaGreatDoor
open Go.RowKit Go.Cl
attribute [local go_sem ↓] Go.wp_at_zero Go.wp_at_succ
end Go.Proofs.YtegcedboeemedaaGreatDoor
