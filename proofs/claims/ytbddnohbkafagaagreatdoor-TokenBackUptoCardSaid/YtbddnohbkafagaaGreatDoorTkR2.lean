/-
Tokens: the reader's value.
-/
import Derived.Test.YtbddnohbkafagaaGreatDoorTkR1
import Derived.Test.YtbddnohbkafagaaGreatDoorSerBytes
import Derived.BigQuiet
import Derived.Deep.DeepCutAuto
namespace Go.Proofs.YtbddnohbkafagaaGreatDoor
open Go.RowKit Go.Cl
attribute [local go_sem ↓] Go.wp_at_zero Go.wp_at_succ
theorem until_rd (f : FuncId) (p : UInt8 → Bool) (hent : ∀ args w, (callFunc f args).run Tryz.prog w = .ok (.enter f args) w) (hf : ∀ (b : UInt8) (u : World), Calls Tryz.prog f #[.int .u8 (b.toNat : Int)] u fun e w' => e = .returned (.bool (!p b)) ∧ w' = u)
    (X : Nat) (s : ByteArray) (r : List UInt8) (E : Int) (O : Value) (w : World) (hs : s.size ≤ 1000000) (h : Rd w X s r E O) :
    Calls Tryz.prog 55 #[.pointer (some ⟨X, 0, none⟩), .func (.func f) #[] #[]] w fun e w' => e = .returned (.string ⟨(r.takeWhile p).toArray⟩) ∧ w.grownBy w' (some X) ∧ Rd w' X s (r.dropWhile p) E O := by
  obtain ⟨⟨a, ha, hr, hc⟩, hm⟩ := h
  refine (until_any f p hent hf X s a E O w ha hs hc).mono ?_
  rintro e w' ⟨rfl, hg, hc'⟩
  have hdl := drop_len ha hr
  have hsp := List.takeWhile_append_dropWhile (p := p) (l := r)
  have hln := congrArg List.length hsp
  rw [List.length_append] at hln
  rw [hr] at hc' ⊢
  refine ⟨rfl, hg, ⟨_, by omega, ?_, hc'⟩, mx_grown hm (hc.ne0 hm) hg⟩
  rw [← List.drop_drop, hr]
  generalize r.takeWhile p = x at *
  generalize r.dropWhile p = y at *
  rw [← hsp, List.drop_left' rfl]
theorem u8_eq {b : UInt8} {c : Nat} (hc : c < 256) (h : b = c.toUInt8) : ((b.toNat : Int) == (c : Int)) = true := by rw [h]; simp; omega
theorem at_head {s : ByteArray} {a : Nat} {q : UInt8} {t : List UInt8} (hr : s.data.toList.drop a = q :: t) : ∃ h : a < s.size, s[a] = q ∧ s.data.toList.drop (a + 1) = t := by
  have h2 : s.data.toList.length = s.size := by simp
  have hl : a < s.data.toList.length := by
    rcases Nat.lt_or_ge a s.data.toList.length with h | h
    · exact h
    · rw [List.drop_eq_nil_of_le h] at hr; cases hr
  rw [List.drop_eq_getElem_cons hl] at hr
  injection hr with h3 h4
  exact ⟨by omega, h3, h4⟩
/-- The reader has gone on to a place. -/
theorem Rd.step {w : World} {X : Nat} {s : ByteArray} {a b : Nat} {r : List UInt8} {E : Int} {O : Value} {n : Int} (hn : n = (b : Int)) (hb : b ≤ s.size) (hr : s.data.toList.drop b = r) (hc : Rc w X s a E O) (hm : ∃ m : Int, w.cell? ⟨0, 0, none⟩ = some (.int .i64 m)) :
    Rd (w.setCell ⟨X, 1, none⟩ (.int .i64 n)) X s r E O ∧ w.grownBy (w.setCell ⟨X, 1, none⟩ (.int .i64 n)) (some X) := by
  subst hn
  have k1 := hc.go b
  exact ⟨⟨⟨b, hb, hr, k1.1⟩, mx_grown hm (hc.ne0 hm) k1.2⟩, k1.2⟩
theorem Rd.nil {w : World} {X : Nat} {s : ByteArray} {E : Int} {O : Value} (h : Rd w X s [] E O) : Rc w X s s.size E O := by
  obtain ⟨⟨a, ha, hra, hc⟩, hm⟩ := h
  have hna : a = s.size := by
    have h2 : s.data.toList.length = s.size := by simp
    have h3 := congrArg List.length hra
    rw [List.length_drop] at h3
    have : s.data.toList.length - a = 0 := h3
    omega
  exact hna ▸ hc
theorem ext_one {s : ByteArray} {a : Nat} {q : UInt8} {t : List UInt8} (hr : s.data.toList.drop a = q :: t) : s.extract a (a + 1) = ⟨#[q]⟩ := by
  apply ByteArray.ext
  apply Array.toList_inj.1
  rw [ByteArray.data_extract, Array.toList_extract, List.extract_eq_take_drop, hr]
  simp
set_option maxRecDepth 100000 in
set_option maxHeartbeats 4000000 in
theorem tkValue_any (X : Nat) (s : ByteArray) (r : List UInt8) (E : Int) (O : Value) (w : World) (hs : s.size ≤ 1000000) (h : Rd w X s r E O) :
    Calls Tryz.prog 84 #[.pointer (some ⟨X, 0, none⟩)] w fun e w' => e = .returned (.string ⟨(valueF r).1.toArray⟩) ∧ w.grownBy w' (some X) ∧ Rd w' X s (valueF r).2 E O := by
  have HU1 := Lib.hid (until_rd 97 blankB (enters_of Tryz.func97 (by kernel_rfl) rfl) blankNot2_any X s r E O w hs h)
  have hv : valueF r = match r.dropWhile blankB with
    | [] => ([], [])
    | q :: t => if q = 34 ∨ q = 39 then ((Lib.cut t [q]).1, (Lib.cut t [q]).2.1) else ((q :: t).takeWhile valB, (q :: t).dropWhile valB) := rfl
  have HU2 := Lib.hid (fun (r' : List UInt8) (u : World) (h : Rd u X s r' E O) => until_rd 98 valB (enters_of Tryz.func98 (by kernel_rfl) rfl) valStop_any X s r' E O u hs h)
  have HPA := Lib.hid (fun (r' : List UInt8) (mk : ByteArray) (hmk : mk.size ≤ 1000) (u : World) (h : Rd u X s r' E O) => past_any X s r' mk E O u hs hmk h)
  cases hd : r.dropWhile blankB with
  | nil =>
    rw [hd] at HU1 hv
    have HV := Lib.hid hv
    clear hv hd h
    go_enter Tryz.func84, Tryz.ntmps84
    go_upto_region 2 with (go_at_call 55; refine HU1.out.mono ?_; rintro e w1 ⟨rfl, hg1, hr1⟩)
    have HR1 := Lib.hid hr1
    have HG1 := Lib.hid hg1
    have hc := hr1.nil
    have c0 := hc.c0
    have c1 := hc.c1
    have g0 : decide ((s.size : Int) < (s.size : Int)) = false := by simp
    clear hg1 hc hr1
    go_quiet (fail)
    go_wp2_with (go_at_call 55; refine (HU2.out [] _ (HR1.out.next (tdrewN _ _))).mono ?_; rintro e w2 ⟨rfl, hg2, hr2⟩)
    go_ret
    exact ⟨by rw [HV.out]; rfl, (HG1.out.trans (grown_below (tdrewN _ _) _)).trans hg2, by rw [HV.out]; exact hr2⟩
  | cons q t =>
    rw [hd] at HU1 hv
    have HV := Lib.hid hv
    clear hv hd h
    by_cases h34 : q = 34
    · subst h34
      have HV2 := Lib.hid (show valueF r = ((Lib.cut t [34]).1, (Lib.cut t [34]).2.1) from by rw [HV.out]; exact if_pos (by decide))
      go_enter Tryz.func84, Tryz.ntmps84
      go_upto_region 2 with (go_at_call 55; refine HU1.out.mono ?_; rintro e w1 ⟨rfl, hg1, hr1⟩)
      have HG1 := Lib.hid hg1
      obtain ⟨⟨a, ha, hra, hc⟩, hm⟩ := hr1
      obtain ⟨hlt, hsa, hr2⟩ := at_head hra
      have HC := Lib.hid hc
      have HM := Lib.hid hm
      have HT := Lib.hid hr2
      obtain ⟨qS, hqS⟩ : ∃ qS : ByteArray, (⟨#[34]⟩ : ByteArray) = qS := ⟨_, rfl⟩
      have x1 : s.extract a (a + 1) = qS := by rw [ext_one hra, hqS]
      have HPC := Lib.hid (fun (u : World) (h : Rd u X s t E O) => (hqS ▸ HPA.out t ⟨#[34]⟩ (by decide) u h : Calls Tryz.prog 52 #[.pointer (some ⟨X, 0, none⟩), .string qS] u fun e w' => e = .returned (.tuple #[.string ⟨(Lib.cut t [34]).1.toArray⟩, .bool (Lib.cut t [34]).2.2]) ∧ u.grownBy w' (some X) ∧ Rd w' X s (Lib.cut t [34]).2.1 E O))
      have c0 := hc.c0
      have c1 := hc.c1
      have f1 := hc.fr 1
      have i0 : (0 : Int) ≤ (a : Int) := by omega
      have i1 : (a : Int) < (s.size : Int) := by omega
      have i2 : (a : Int) + 1 ≤ (s.size : Int) := by omega
      have i3 : (0 : Int) ≤ (a : Int) + 1 := by omega
      have i4 : (a : Int) ≤ (a : Int) + 1 := by omega
      have n1 : ((a : Int) + 1).toNat = a + 1 := by omega
      have w1' : IntKind.i64.wrap ((a : Int) + 1) = (a : Int) + 1 := IntWalk.i64_in _ (by omega)
      have g0 : decide ((a : Int) < (s.size : Int)) = true := decide_eq_true i1
      have e34 : ((s[a].toNat : Int) == 34) = true := by rw [hsa]; rfl
      have p34 : 34 ≤ s[a].toNat := by rw [hsa]; decide
      have p35 : s[a].toNat ≤ 34 := by rw [hsa]; decide
      clear hg1 hm hra hr2 hqS hsa ha hc
      go_quiet (fail)
      go_upto_region 3 with fail
      go_quiet (fail)
      have HST := Lib.hid fun (k : Nat) => Rd.step (w := w1.drewN k) (n := (a : Int) + 1) (b := a + 1) (by omega) (by omega) HT.out HC.out HM.out
      go_wp2_with (go_at_call 52; refine (HPC.out _ (HST.out _).1).mono ?_; rintro e w2 ⟨rfl, hg2, hr2⟩)
      go_ret
      exact ⟨by rw [HV2.out]; rfl, ((HG1.out.trans (grown_below (tdrewN _ _) _)).trans (HST.out _).2).trans hg2, by rw [HV2.out]; exact hr2⟩
    by_cases h39 : q = 39
    · subst h39
      have HV2 := Lib.hid (show valueF r = ((Lib.cut t [39]).1, (Lib.cut t [39]).2.1) from by rw [HV.out]; exact if_pos (by decide))
      go_enter Tryz.func84, Tryz.ntmps84
      go_upto_region 2 with (go_at_call 55; refine HU1.out.mono ?_; rintro e w1 ⟨rfl, hg1, hr1⟩)
      have HG1 := Lib.hid hg1
      obtain ⟨⟨a, ha, hra, hc⟩, hm⟩ := hr1
      obtain ⟨hlt, hsa, hr2⟩ := at_head hra
      have HC := Lib.hid hc
      have HM := Lib.hid hm
      have HT := Lib.hid hr2
      obtain ⟨qS, hqS⟩ : ∃ qS : ByteArray, (⟨#[39]⟩ : ByteArray) = qS := ⟨_, rfl⟩
      have x1 : s.extract a (a + 1) = qS := by rw [ext_one hra, hqS]
      have HPC := Lib.hid (fun (u : World) (h : Rd u X s t E O) => (hqS ▸ HPA.out t ⟨#[39]⟩ (by decide) u h : Calls Tryz.prog 52 #[.pointer (some ⟨X, 0, none⟩), .string qS] u fun e w' => e = .returned (.tuple #[.string ⟨(Lib.cut t [39]).1.toArray⟩, .bool (Lib.cut t [39]).2.2]) ∧ u.grownBy w' (some X) ∧ Rd w' X s (Lib.cut t [39]).2.1 E O))
      have c0 := hc.c0
      have c1 := hc.c1
      have f1 := hc.fr 1
      have i0 : (0 : Int) ≤ (a : Int) := by omega
      have i1 : (a : Int) < (s.size : Int) := by omega
      have i2 : (a : Int) + 1 ≤ (s.size : Int) := by omega
      have i3 : (0 : Int) ≤ (a : Int) + 1 := by omega
      have i4 : (a : Int) ≤ (a : Int) + 1 := by omega
      have n1 : ((a : Int) + 1).toNat = a + 1 := by omega
      have w1' : IntKind.i64.wrap ((a : Int) + 1) = (a : Int) + 1 := IntWalk.i64_in _ (by omega)
      have g0 : decide ((a : Int) < (s.size : Int)) = true := decide_eq_true i1
      have e34 : ((s[a].toNat : Int) == 34) = false := by rw [hsa]; rfl
      have e39 : ((s[a].toNat : Int) == 39) = true := by rw [hsa]; rfl
      have p36 : ¬ s[a].toNat = 34 := by rw [hsa]; decide
      have p34 : 39 ≤ s[a].toNat := by rw [hsa]; decide
      have p35 : s[a].toNat ≤ 39 := by rw [hsa]; decide
      clear hg1 hm hra hr2 hqS hsa ha hc
      go_quiet (fail)
      go_upto_region 3 with fail
      go_quiet (fail)
      have HST := Lib.hid fun (k : Nat) => Rd.step (w := w1.drewN k) (n := (a : Int) + 1) (b := a + 1) (by omega) (by omega) HT.out HC.out HM.out
      go_wp2_with (go_at_call 52; refine (HPC.out _ (HST.out _).1).mono ?_; rintro e w2 ⟨rfl, hg2, hr2⟩)
      go_ret
      exact ⟨by rw [HV2.out]; rfl, ((HG1.out.trans (grown_below (tdrewN _ _) _)).trans (HST.out _).2).trans hg2, by rw [HV2.out]; exact hr2⟩
    have HV2 := Lib.hid (show valueF r = ((q :: t).takeWhile valB, (q :: t).dropWhile valB) from by rw [HV.out]; exact if_neg (by rintro (h | h); exact h34 h; exact h39 h))
    go_enter Tryz.func84, Tryz.ntmps84
    go_upto_region 2 with (go_at_call 55; refine HU1.out.mono ?_; rintro e w1 ⟨rfl, hg1, hr1⟩)
    have HG1 := Lib.hid hg1
    have HR1 := Lib.hid hr1
    obtain ⟨⟨a, ha, hra, hc⟩, hm⟩ := hr1
    obtain ⟨hlt, hsa, hr2⟩ := at_head hra
    have c0 := hc.c0
    have c1 := hc.c1
    have i0 : (0 : Int) ≤ (a : Int) := by omega
    have i1 : (a : Int) < (s.size : Int) := by omega
    have g0 : decide ((a : Int) < (s.size : Int)) = true := decide_eq_true i1
    have e34 : ((s[a].toNat : Int) == 34) = false := by rw [hsa]; exact u8_ne (c := 34) (by decide) h34
    have e39 : ((s[a].toNat : Int) == 39) = false := by rw [hsa]; exact u8_ne (c := 39) (by decide) h39
    have p34 : ¬ s[a].toNat = 34 := by rw [hsa]; exact fun e => h34 (UInt8.toNat_inj.1 e)
    have p39 : ¬ s[a].toNat = 39 := by rw [hsa]; exact fun e => h39 (UInt8.toNat_inj.1 e)
    clear hg1 hm hra hr2 hsa ha hc h34 h39
    go_quiet (fail)
    go_wp2_with (go_at_call 55; refine (HU2.out (q :: t) _ (HR1.out.next (tdrewN _ _))).mono ?_; rintro e w2 ⟨rfl, hg2, hr2⟩)
    go_ret
    exact ⟨by rw [HV2.out]; rfl, (HG1.out.trans (grown_below (tdrewN _ _) _)).trans hg2, by rw [HV2.out]; exact hr2⟩
end Go.Proofs.YtbddnohbkafagaaGreatDoor

/-
Tokens: the reader's attr.
-/
namespace Go.Proofs.YtbddnohbkafagaaGreatDoor
open Go.RowKit Go.Cl
attribute [local go_sem ↓] Go.wp_at_zero Go.wp_at_succ
/-- A new attribute in its box: its name. -/
def BxA (w3 : World) (nm : ByteArray) (v : Value) (W : World) : Prop := ∃ B, v = .pointer (some ⟨B, 0, none⟩) ∧ w3.heap.size ≤ B ∧ Below w3.heap.size w3 W ∧ W.heap[B]? = some (.cells #[.string nm, .string ⟨#[]⟩] 55 (0, 0))
theorem ext_from {s : ByteArray} {a b : Nat} {x : List UInt8} {r : List UInt8} (hr : s.data.toList.drop a = x ++ r) (hb : b = a + x.length) : s.extract a b = ⟨x.toArray⟩ := by
  apply ByteArray.ext
  apply Array.toList_inj.1
  rw [ByteArray.data_extract, Array.toList_extract, List.extract_eq_take_drop, hr, hb, show a + x.length - a = x.length by omega, List.take_left']
  rfl
theorem grown_at {w W : World} {row : Option Nat} (h : w.grownBy W row) {Z i : Nat} (hZ : w.heap.size ≤ Z) (v : Value) : w.grownBy (W.setCell ⟨Z, i, none⟩ v) row := by
  obtain ⟨h1, h2, h3, h4, h5⟩ := h
  have hg := grown_set W Z i v
  exact ⟨hg.1.trans h1, hg.2.trans h2, hg.3.trans h3, Nat.le_trans h4 hg.size, fun k hk hne => (heap_setCell_other W ⟨Z, i, none⟩ k v (by show k ≠ Z; omega)).trans (h5 k hk hne)⟩
theorem Rd.far {W : World} {X : Nat} {s : ByteArray} {r : List UInt8} {E : Int} {O : Value} (h : Rd W X s r E O) {Z i : Nat} (hX : X ≠ Z) (h0 : Z ≠ 0) (v : Value) : Rd (W.setCell ⟨Z, i, none⟩ v) X s r E O := by
  obtain ⟨⟨a, h1, h2, h3⟩, m, hm⟩ := h
  exact ⟨⟨a, h1, h2, (heap_setCell_other W ⟨Z, i, none⟩ X v hX).trans h3⟩, m, (World.cell?_of_block (a := ⟨0, 0, none⟩) (heap_setCell_other W ⟨Z, i, none⟩ 0 v (fun e => h0 e.symm))).trans hm⟩
theorem tcut_fst (r mark : List UInt8) : (Lib.cut r mark).1.length ≤ r.length := by
  rcases cut_shape r mark with ⟨i, hi, h⟩ | h
  · rw [h]; show (r.take i).length ≤ _; rw [List.length_take]; omega
  · rw [h]; exact Nat.le_refl _
theorem take_le (p : UInt8 → Bool) (r : List UInt8) : (r.takeWhile p).length ≤ r.length := by
  have := congrArg List.length (List.takeWhile_append_dropWhile (p := p) (l := r))
  rw [List.length_append] at this
  omega
theorem valueF_fst (r : List UInt8) : (valueF r).1.length ≤ r.length := by
  have h := dropW_le blankB r
  unfold valueF
  cases hd : r.dropWhile blankB with
  | nil => exact Nat.zero_le _
  | cons q t =>
    rw [hd, List.length_cons] at h
    dsimp only
    split
    · have := tcut_fst t [q]; dsimp only; omega
    · have := take_le valB (q :: t); rw [List.length_cons] at this; dsimp only; omega
set_option maxRecDepth 100000 in
set_option maxHeartbeats 4000000 in
theorem tkAttr_any (X : Nat) (s : ByteArray) (b : UInt8) (t : List UInt8) (E : Int) (O : Value) (w : World) (hs : s.size ≤ 1000000) (h : Rd w X s (b :: t) E O) :
    Calls Tryz.prog 59 #[.pointer (some ⟨X, 0, none⟩)] w fun e w' => e = .returned (.agg #[.string (attrF b t).1.1, .string (attrF b t).1.2]) ∧ w.grownBy w' (some X) ∧ Rd w' X s (attrF b t).2 E O := by
  obtain ⟨⟨a, ha, hra, hc⟩, hm⟩ := h
  obtain ⟨hlt, hsa, hr2⟩ := at_head hra
  obtain ⟨w0, hw0⟩ : ∃ w0, w0 = w.alloc (.cells #[.string ⟨#[]⟩, .string ⟨#[]⟩] 55) := ⟨_, rfl⟩
  have hb0 : Below w.heap.size w w0 := by rw [hw0]; exact tal (Below.refl _ _) _
  have hx0 : w0.heap[w.heap.size]? = some (.cells #[.string ⟨#[]⟩, .string ⟨#[]⟩] 55 (0, 0)) := by rw [hw0]; exact heap_alloc_new w _
  have hc0 := hc.next hb0
  have hm0 := mx_next hm hb0
  have HST := Lib.hid (Rd.step (n := (a : Int) + 1) (b := a + 1) (by omega) (by omega) hr2 hc0 hm0)
  have HU1 := Lib.hid (fun (u : World) (h : Rd u X s t E O) => until_rd 81 anB (enters_of Tryz.func81 (by kernel_rfl) rfl) anStop_any X s t E O u hs h)
  have HU2 := Lib.hid (fun (r' : List UInt8) (u : World) (h : Rd u X s r' E O) => until_rd 82 blankB (enters_of Tryz.func82 (by kernel_rfl) rfl) blankNot_any X s r' E O u hs h)
  have HVA := Lib.hid (fun (r' : List UInt8) (u : World) (h : Rd u X s r' E O) => tkValue_any X s r' E O u hs h)
  have HB0 := Lib.hid hb0
  have HX0 := Lib.hid hx0
  have HDR := Lib.hid hra
  have HLT : Hid (X < w.heap.size) := hc.lt
  have c0 := hc0.c0
  have c1 := hc0.c1
  have f1 := hc0.fr 1
  have i0 : (0 : Int) ≤ (a : Int) := by omega
  have i1 : (a : Int) < (s.size : Int) := by omega
  have HDL := Lib.hid (drop_len ha hra)
  clear hra hc hm hsa hr2 hb0 hx0 hc0 hm0 ha hlt
  go_enter Tryz.func59, Tryz.ntmps59
  go_upto_region 1 with fail
  rw [← hw0]
  clear hw0
  go_upto_region 4 with (go_at_call 55; refine (HU1.out _ HST.out.1).mono ?_; rintro e w3 ⟨rfl, hg3, hr3⟩)
  have HG3 := Lib.hid (((grown_below HB0.out (some X)).trans HST.out.2).trans hg3)
  have HR3 := Lib.hid hr3
  have HX3 := Lib.hid (show w3.heap[w.heap.size]? = some (.cells #[.string ⟨#[]⟩, .string ⟨#[]⟩] 55 (0, 0)) from by
    have hlt := HLT.out
    have h1 := ((HST.out.2).trans hg3).block w.heap.size (Array.getElem?_eq_some_iff.1 HX0.out).1 (by simp; omega)
    exact h1.trans HX0.out)
  obtain ⟨⟨a3, ha3, hra3, hc3⟩, hm3⟩ := hr3
  have hsp := List.takeWhile_append_dropWhile (p := anB) (l := t)
  have hln := congrArg List.length hsp
  rw [List.length_append] at hln
  have h3 := drop_len ha3 hra3
  have h0 := HDL.out
  rw [List.length_cons] at h0
  have hxt : s.extract a a3 = ⟨(b :: t.takeWhile anB).toArray⟩ := ext_from (r := t.dropWhile anB) (by rw [HDR.out, List.cons_append, hsp]) (by rw [List.length_cons]; omega)
  obtain ⟨nS, hnS⟩ : ∃ nS : ByteArray, (⟨(b :: t.takeWhile anB).toArray⟩ : ByteArray) = nS := ⟨_, rfl⟩
  rw [hnS] at hxt
  have HAN := Lib.hid (fun u : World => (show Calls Tryz.prog 36 #[.string nS] u fun e w' => e = .returned (.string (bs (attrL (b :: t.takeWhile anB)))) ∧ Below u.heap.size u w' from by
    have h := tkAttrName_any nS u
    rw [show nS.data.toList = b :: t.takeWhile anB from by rw [← hnS]] at h
    exact h))
  have HCC := Lib.hid hc3
  have i2 : (a : Int) ≤ (a3 : Int) := by omega
  have i3 : (a3 : Int) ≤ (s.size : Int) := by omega
  have i4 : (0 : Int) ≤ (a3 : Int) := by omega
  clear hg3 hra3 hc3 hm3 hsp hln h3 h0 hnS c0 c1 f1 HU1
  go_cut [4] (fun v wx => BxA w3 (bs (attrL (b :: t.takeWhile anB))) v wx)
  case first =>
    refine wp_region_G (S := (fun W : World => W.cell? ⟨X, 0, none⟩ = some (.string s) ∧ W.cell? ⟨X, 1, none⟩ = some (.int .i64 (a3 : Int)))) (T := [13]) (by kernel_rfl) ?_
    have HSW := Lib.hid (fun (u : World) (hu : Below w3.heap.size w3 u) => And.intro (cell_be HCC.out.c0 hu) (cell_be HCC.out.c1 hu))
    have hS : (fun W : World => W.cell? ⟨X, 0, none⟩ = some (.string s) ∧ W.cell? ⟨X, 1, none⟩ = some (.int .i64 (a3 : Int))) w3.drew := HSW.out _ (tdrew w3)
    refine wpAnyG_pure (i := 0) (v := ?_) rfl (by kernel_rfl) (by kernel_rfl) (by kernel_rfl) (fun _ _ _ h => h) rfl ?_ ?_
    rotate_left
    · intro w'
      first | (go_simp; done) | (go_simp; with_reducible rfl)
    refine wpAnyG_pure (i := 1) (v := ?_) rfl (by kernel_rfl) (by kernel_rfl) (by kernel_rfl) (fun _ _ _ h => h) rfl ?_ ?_
    rotate_left
    · intro w'
      first | (go_simp; done) | (go_simp; with_reducible rfl)
    refine wpAnyG_pure (i := 2) (v := ?_) rfl (by kernel_rfl) (by kernel_rfl) (by kernel_rfl) (fun _ _ _ h => h) rfl ?_ ?_
    rotate_left
    · intro w'
      first | (go_simp; done) | (go_simp; with_reducible rfl)
    refine wpAnyG_take (i := 3) (v := ?_) rfl (by kernel_rfl) (by kernel_rfl) (by kernel_rfl) (by kernel_rfl) (fun _ _ _ h => h) hS rfl ?_ ?_
    rotate_left
    · intro w' hSw
      (try dsimp only at hSw)
      first | (go_simp; done) | (go_simp; with_reducible rfl)
    refine wpAnyG_pure (i := 4) (v := ?_) rfl (by kernel_rfl) (by kernel_rfl) (by kernel_rfl) (fun _ _ _ h => h) rfl ?_ ?_
    rotate_left
    · intro w'
      first | (go_simp; done) | (go_simp; with_reducible rfl)
    refine wpAnyG_pure (i := 5) (v := ?_) rfl (by kernel_rfl) (by kernel_rfl) (by kernel_rfl) (fun _ _ _ h => h) rfl ?_ ?_
    rotate_left
    · intro w'
      first | (go_simp; done) | (go_simp; with_reducible rfl)
    refine wpAnyG_pure (i := 6) (v := ?_) rfl (by kernel_rfl) (by kernel_rfl) (by kernel_rfl) (fun _ _ _ h => h) rfl ?_ ?_
    rotate_left
    · intro w'
      first | (go_simp; done) | (go_simp; with_reducible rfl)
    refine wpAnyG_pure (i := 7) (v := ?_) rfl (by kernel_rfl) (by kernel_rfl) (by kernel_rfl) (fun _ _ _ h => h) rfl ?_ ?_
    rotate_left
    · intro w'
      first | (go_simp; done) | (go_simp; with_reducible rfl)
    refine wpAnyG_take (i := 8) (v := ?_) rfl (by kernel_rfl) (by kernel_rfl) (by kernel_rfl) (by kernel_rfl) (fun _ _ _ h => h) hS rfl ?_ ?_
    rotate_left
    · intro w' hSw
      (try dsimp only at hSw)
      first | (go_simp; done) | (go_simp; with_reducible rfl)
    refine wpAnyG_pure (i := 9) (v := ?_) rfl (by kernel_rfl) (by kernel_rfl) (by kernel_rfl) (fun _ _ _ h => h) rfl ?_ ?_
    rotate_left
    · intro w'
      first | (go_simp; done) | (go_simp; with_reducible rfl)
    refine wpAnyG_two (i := 10) (j := 12) (by kernel_rfl) rfl rfl rfl rfl (fun K hK => ?_) (fun K hK => ?_)
    · go_simp
      go_at_call 36
      refine (HAN.out _).mono ?_
      rintro e' V1 ⟨rfl, hv1⟩
      have HV1 := Lib.hid ((tdrew w3).trans hv1)
      clear hv1
      go_wp2_with fail
      refine hK.out _ _ (fun _ _ => HSW.out _ HV1.out) ?_
      clear hK K hS
      have hS : (fun W : World => W.cell? ⟨X, 0, none⟩ = some (.string s) ∧ W.cell? ⟨X, 1, none⟩ = some (.int .i64 (a3 : Int))) V1 := HSW.out _ HV1.out
      refine wpAnyG_pure (i := 11) (v := ?_) rfl (by kernel_rfl) (by kernel_rfl) (by kernel_rfl) (fun _ _ _ h => h) rfl ?_ ?_
      rotate_left
      · intro w'
        first | (go_simp; done) | (go_simp; with_reducible rfl)
      refine wpAnyG_one (i := 12) (by kernel_rfl) rfl rfl (fun K hK => ?_)
      go_simp
      refine hK.out _ _ (fun _ _ => HSW.out _ (tal HV1.out _)) ?_
      clear hK K hS
      refine wpAnyG_one (i := 13) (by kernel_rfl) rfl rfl (fun K hK => ?_)
      go_simp
      refine hK.out _ _ (fun h => absurd (by decide) h) ?_
      clear hK K
      refine wpAnyG_done (by kernel_rfl) ?_ _
      go_simp
      first | go_meet | (go_wp2_with fail; go_meet)
      exact ⟨_, rfl, HV1.out.size, tal HV1.out _, heap_alloc_new V1 _⟩
    · go_simp
      have HVA0 := Lib.hid (tal (tdrew w3) (.cells #[.string ⟨#[]⟩, .string ⟨#[]⟩] 55))
      refine hK.out _ _ (fun _ _ => HSW.out _ HVA0.out) ?_
      clear hK K hS
      have HBX := Lib.hid (show (w3.drew.alloc (.cells #[.string ⟨#[]⟩, .string ⟨#[]⟩] 55)).heap[w3.heap.size]? = some (.cells #[.string ⟨#[]⟩, .string ⟨#[]⟩] 55 (0, 0)) from heap_alloc_new w3.drew _)
      refine wpAnyG_one (i := 10) (by kernel_rfl) rfl rfl (fun K hK => ?_)
      go_simp
      have hS : True := trivial
      go_at_call 36
      refine (HAN.out _).mono ?_
      rintro e' V1 ⟨rfl, hv1⟩
      have HV1 := Lib.hid (tst HVA0.out hv1)
      have HBV := Lib.hid ((hv1.block _ (Array.getElem?_eq_some_iff.1 HBX.out).1).trans HBX.out)
      clear hv1
      go_wp2_with fail
      refine hK.out _ _ (fun _ _ => HSW.out _ HV1.out) ?_
      clear hK K hS
      have hS : (fun W : World => W.cell? ⟨X, 0, none⟩ = some (.string s) ∧ W.cell? ⟨X, 1, none⟩ = some (.int .i64 (a3 : Int))) V1 := HSW.out _ HV1.out
      refine wpAnyG_pure (i := 11) (v := ?_) rfl (by kernel_rfl) (by kernel_rfl) (by kernel_rfl) (fun _ _ _ h => h) rfl ?_ ?_
      rotate_left
      · intro w'
        first | (go_simp; done) | (go_simp; with_reducible rfl)
      have cb0 : V1.cell? ⟨w3.heap.size, 0, none⟩ = some (.string ⟨#[]⟩) := cell_blk (i := 0) HBV.out rfl
      have cb1 : V1.cell? ⟨w3.heap.size, 1, none⟩ = some (.string ⟨#[]⟩) := cell_blk (i := 1) HBV.out rfl
      have fb0 := free_blk (i := 0) HBV.out
      have fb1 := free_blk (i := 1) HBV.out
      refine wpAnyG_one (i := 13) (by kernel_rfl) rfl rfl (fun K hK => ?_)
      go_simp
      refine hK.out _ _ (fun h => absurd (by decide) h) ?_
      clear hK K
      refine wpAnyG_done (by kernel_rfl) ?_ _
      go_simp
      first | go_meet | (go_wp2_with fail; go_meet)
      exact ⟨_, rfl, Nat.le_refl _, (HV1.out.setCell (p := ⟨w3.heap.size, 0, none⟩) (Nat.le_refl _) _).setCell (p := ⟨w3.heap.size, 1, none⟩) (Nat.le_refl _) _, set_blk (set_blk HBV.out _) _⟩
  case rest =>
    obtain ⟨B, rfl, hB, hbc, hbx⟩ := hcut
    have HRC := Lib.hid (HR3.out.next hbc)
    have HGC := Lib.hid (HG3.out.trans (grown_below hbc (some X)))
    have HBB := Lib.hid hB
    have HBX := Lib.hid hbx
    have HZ := Lib.hid (show wc.heap[w.heap.size]? = some (.cells #[.string ⟨#[]⟩, .string ⟨#[]⟩] 55 (0, 0)) from (hbc.block _ (Array.getElem?_eq_some_iff.1 HX3.out).1).trans HX3.out)
    have HXX := Lib.hid (show X < w3.heap.size ∧ w.heap.size < w3.heap.size from ⟨HCC.out.lt, (Array.getElem?_eq_some_iff.1 HX3.out).1⟩)
    clear hB hbc hbx hxt HAN HCC i0 i1 i2 i3 i4
    go_upto_region 6 with (go_at_call 55; refine (HU2.out _ _ HRC.out).mono ?_; rintro e w4 ⟨rfl, hg4, hr4⟩)
    have hz4 := hg4.size
    have HB4 := Lib.hid (show w4.heap[B]? = some (.cells #[.string (bs (attrL (b :: t.takeWhile anB))), .string ⟨#[]⟩] 55 (0, 0)) from (hg4.block B (Array.getElem?_eq_some_iff.1 HBX.out).1 (by have := HXX.out; have := HBB.out; simp; omega)).trans HBX.out)
    have HZ4 := Lib.hid (show w4.heap[w.heap.size]? = some (.cells #[.string ⟨#[]⟩, .string ⟨#[]⟩] 55 (0, 0)) from (hg4.block _ (Array.getElem?_eq_some_iff.1 HZ.out).1 (by have := HLT.out; simp; omega)).trans HZ.out)
    have HG4 := Lib.hid (HGC.out.trans hg4)
    have HR4 := Lib.hid (show Rd w4 X s (attrEnd t) E O from hr4)
    have HAF := Lib.hid (show attrF b t = if (attrEnd t).head? = some 61 then ((bs (attrL (b :: t.takeWhile anB)), bs (entV (valueF (attrEnd t).tail).1)), (valueF (attrEnd t).tail).2) else ((bs (attrL (b :: t.takeWhile anB)), ⟨#[]⟩), attrEnd t) from rfl)
    clear hr4 hg4 hz4
    generalize bs (attrL (b :: t.takeWhile anB)) = nm at *
    cases he : attrEnd t with
    | nil =>
      rw [he] at HR4 HAF
      have HA2 := Lib.hid (show attrF b t = ((nm, ⟨#[]⟩), []) from HAF.out)
      have hc4 := HR4.out.nil
      have c0 := hc4.c0
      have c1 := hc4.c1
      have b0 := cell_blk (i := 0) HB4.out rfl
      have b1 := cell_blk (i := 1) HB4.out rfl
      have z0 := cell_blk (i := 0) HZ4.out rfl
      have z1 := cell_blk (i := 1) HZ4.out rfl
      have fz0 := free_blk (i := 0) HZ4.out
      have fz1 := free_blk (i := 1) HZ4.out
      have g0 : decide ((s.size : Int) < (s.size : Int)) = false := by simp
      clear hc4 he HAF
      go_quiet (fail)
      go_wp2_with fail
      have hF := set_blk (i := 1) (set_blk (i := 0) (w := w4.drewN nq) HZ4.out (.string nm)) (.string ⟨#[]⟩)
      have cF0 := cell_blk (i := 0) hF rfl
      have cF1 := cell_blk (i := 1) hF rfl
      have hX0 := HLT.out
      refine bodyPost_ret (v := .agg #[.string nm, .string ⟨#[]⟩]) ?_ rfl ⟨by rw [HA2.out], grown_at (grown_at (HG4.out.trans (grown_below (tdrewN w4 nq) _)) (Nat.le_refl _) _) (Nat.le_refl _) _, by rw [HA2.out]; exact ((HR4.out.next (tdrewN w4 nq)).far (by omega) (by omega) _).far (by omega) (by omega) _⟩
      clear hF
      simp [results, Tryz.results59, go_sem, cF0, cF1]
    | cons q r' =>
      rw [he] at HR4 HAF
      obtain ⟨⟨a4, ha4, hra4, hc4⟩, hm4⟩ := HR4.out
      obtain ⟨hlt4, hsa4, hr5⟩ := at_head hra4
      have c0 := hc4.c0
      have c1 := hc4.c1
      have j0 : (0 : Int) ≤ (a4 : Int) := by omega
      have j1 : (a4 : Int) < (s.size : Int) := by omega
      have g0 : decide ((a4 : Int) < (s.size : Int)) = true := decide_eq_true j1
      by_cases h61 : q = 61
      · subst h61
        have HA2 := Lib.hid (show attrF b t = ((nm, bs (entV (valueF r').1)), (valueF r').2) from HAF.out)
        have e61 : ((s[a4].toNat : Int) == 61) = true := by rw [hsa4]; rfl
        have p61 : 61 ≤ s[a4].toNat := by rw [hsa4]; decide
        have p62 : s[a4].toNat ≤ 61 := by rw [hsa4]; decide
        have f1 := hc4.fr 1
        have HC4 := Lib.hid hc4
        have HM4 := Lib.hid hm4
        have HRL : Hid (r'.length ≤ 1000000) := by have h := drop_len ha4 hra4; rw [List.length_cons] at h; show _ ≤ _; omega
        have HST4 := Lib.hid fun (k : Nat) => Rd.step (w := w4.drewN k) (n := (a4 : Int) + 1) (b := a4 + 1) (by omega) (by omega) hr5 hc4 hm4
        have HEV := Lib.hid (fun u : World => value_any ⟨(valueF r').1.toArray⟩ u (by have h1 := valueF_fst r'; have h2 := HRL.out; show (valueF r').1.length ≤ _; omega))
        clear hc4 hm4 hra4 hr5 hsa4 ha4 he HAF
        go_quiet (fail)
        go_wp2_with (first
          | (go_at_call 84; refine (HVA.out _ _ (HST4.out _).1).mono ?_; rintro e w5 ⟨rfl, hg5, hr5⟩)
          | (go_at_call 83; refine (HEV.out _).mono ?_; rintro e w6 ⟨rfl, hb6⟩; have hg46 := (((grown_below (tdrewN w4 _) (some X)).trans (HST4.out _).2).trans hg5).trans (grown_below hb6 (some X)); have hB6 := (hg46.block B (Array.getElem?_eq_some_iff.1 HB4.out).1 (by have := HXX.out; have := HBB.out; simp; omega)).trans HB4.out; have hZ6 := (hg46.block _ (Array.getElem?_eq_some_iff.1 HZ4.out).1 (by have := HLT.out; simp; omega)).trans HZ4.out; have fb1 := free_blk (i := 1) hB6; have b0 := cell_blk (i := 0) hB6 rfl; have b1 := cell_blk (i := 1) hB6 rfl; have z0 := cell_blk (i := 0) hZ6 rfl; have z1 := cell_blk (i := 1) hZ6 rfl; have fz0 := free_blk (i := 0) hZ6; have fz1 := free_blk (i := 1) hZ6; have HB6 := Lib.hid hB6; have HZ6 := Lib.hid hZ6; have HG6 := Lib.hid (HG4.out.trans hg46); have HR6 := Lib.hid (hr5.next hb6); have hneBZ : B ≠ w.heap.size := (by have := HXX.out; have := HBB.out; omega); clear hB6 hZ6 hg46 hb6 hr5 hg5))
        obtain ⟨v2, hv2⟩ : ∃ v2 : ByteArray, (⟨(readL ⟨(valueF r').1.toArray⟩ true).toArray⟩ : ByteArray) = v2 := ⟨_, rfl⟩
        have hev : bs (entV (valueF r').1) = v2 := hv2
        rw [hv2]
        have hZ7 := (heap_setCell_other w6 ⟨B, 1, none⟩ w.heap.size (.string v2) (fun e => hneBZ e.symm)).trans HZ6.out
        have hF := set_blk (i := 1) (set_blk (i := 0) hZ7 (.string nm)) (.string v2)
        have cF0 := cell_blk (i := 0) hF rfl
        have cF1 := cell_blk (i := 1) hF rfl
        have hX0 := HLT.out
        have hXX := HXX.out
        have hBB := HBB.out
        refine bodyPost_ret (v := .agg #[.string nm, .string v2]) ?_ rfl ⟨by rw [HA2.out, hev], grown_at (grown_at (grown_at HG6.out (by omega) _) (Nat.le_refl _) _) (Nat.le_refl _) _, by rw [HA2.out]; exact ((HR6.out.far (by omega) (by omega) _).far (by omega) (by omega) _).far (by omega) (by omega) _⟩
        clear hF hZ7
        simp [results, Tryz.results59, go_sem, cF0, cF1]
      · have HA2 := Lib.hid (show attrF b t = ((nm, ⟨#[]⟩), q :: r') from by rw [HAF.out, if_neg (by simpa using h61)])
        have e61 : ((s[a4].toNat : Int) == 61) = false := by rw [hsa4]; exact u8_ne (c := 61) (by decide) h61
        have p61 : ¬ s[a4].toNat = 61 := by rw [hsa4]; exact fun e => h61 (UInt8.toNat_inj.1 e)
        have b0 := cell_blk (i := 0) HB4.out rfl
        have b1 := cell_blk (i := 1) HB4.out rfl
        have z0 := cell_blk (i := 0) HZ4.out rfl
        have z1 := cell_blk (i := 1) HZ4.out rfl
        have fz0 := free_blk (i := 0) HZ4.out
        have fz1 := free_blk (i := 1) HZ4.out
        clear hc4 hm4 hra4 hr5 hsa4 ha4 he HAF h61
        go_quiet (fail)
        go_wp2_with fail
        have hF := set_blk (i := 1) (set_blk (i := 0) (w := w4.drewN nq) HZ4.out (.string nm)) (.string ⟨#[]⟩)
        have cF0 := cell_blk (i := 0) hF rfl
        have cF1 := cell_blk (i := 1) hF rfl
        have hX0 := HLT.out
        refine bodyPost_ret (v := .agg #[.string nm, .string ⟨#[]⟩]) ?_ rfl ⟨by rw [HA2.out], grown_at (grown_at (HG4.out.trans (grown_below (tdrewN w4 nq) _)) (Nat.le_refl _) _) (Nat.le_refl _) _, by rw [HA2.out]; exact ((HR4.out.next (tdrewN w4 nq)).far (by omega) (by omega) _).far (by omega) (by omega) _⟩
        clear hF
        simp [results, Tryz.results59, go_sem, cF0, cF1]
end Go.Proofs.YtbddnohbkafagaaGreatDoor

/-
Tokens: is an attribute's name there already?
-/
namespace Go.Proofs.YtbddnohbkafagaaGreatDoor
open Go.RowKit Go.Cl
attribute [local go_sem ↓] Go.wp_at_zero Go.wp_at_succ
theorem tag3_any (x y : ByteArray) (nm : ByteArray) (g : Nat) (w : World) (hc : w.cell? ⟨g, 0, none⟩ = some (.string nm)) :
    Calls Tryz.prog 61 #[.agg #[.string x, .string y], .pointer (some ⟨g, 0, none⟩)] w fun e w' => e = .returned (.bool (x.toList == nm.toList)) ∧ Below w.heap.size w w' := by
  have hlt := World.block_lt_of_cell? w ⟨g, 0, none⟩ hc
  have c1 : (w.alloc (.cells #[.string x, .string y] 55)).cell? ⟨g, 0, none⟩ = some (.string nm) := cell_al hc _
  go_enter Tryz.func61, Tryz.ntmps61
  go_wp2_with fail
  go_ret
  exact ⟨rfl, tal (Below.refl _ _) _⟩
theorem hasT_idx (g : Nat) (nm : ByteArray) (A : Option Addr) (n c : Nat) (l : List DAttr) (w : World) (B : Nat) (hl : Sl tDA w (lt B) A n c l) (hB : B ≤ w.heap.size) (hc : w.cell? ⟨g, 0, none⟩ = some (.string nm)) :
    Calls Tryz.prog 85 #[.slice A n c, .func (.func 61) #[] #[.pointer (some ⟨g, 0, none⟩)]] w fun e w' => ∃ r : Int, e = .returned (.int .i64 r) ∧ Below w.heap.size w w' ∧ decide (0 ≤ r) = l.any (fun b => b.1.toList == nm.toList) := by
  have hn1 := hl.small
  have HL := Lib.hid hl.hn
  have HC := Lib.hid hc
  clear hc
  go_enter Tryz.func85, Tryz.ntmps85
  go_wp2_with fail
  go_loopw [8] (fun i wr => ∃ k : Nat, k ≤ n ∧ i = .int .i64 (k : Int) ∧ Below w.heap.size w wr ∧ Hid ((l.take k).any (fun b => b.1.toList == nm.toList) = false)) (fun i _ => n - (intOf i).toNat)
  case atStart => exact ⟨0, Nat.zero_le _, rfl, Below.refl _ _, Lib.hid (by simp)⟩
  case round =>
    obtain ⟨k, hk, rfl, hb, HA⟩ := hrel
    by_cases hlt : k < n
    · obtain ⟨x, hx⟩ : ∃ x, l[k]? = some x := get_some (by have := HL.out; omega)
      obtain ⟨b, o, rfl, hD, c1, c2, z1, z2⟩ := da_cells (hl.below hb hB) hx
      have HX := Lib.hid hx
      have HCALL := Lib.hid (tag3_any x.1 x.2 nm g wr (cell_be HC.out hb))
      have HTS := Lib.hid (take_snoc hx)
      clear hx
      cases hpx : (x.1.toList == nm.toList) with
      | true =>
        have HP := Lib.hid hpx
        rw [hpx] at HCALL
        clear hpx
        go_wp2_with fail
        refine HCALL.out.mono ?_
        rintro e w1 ⟨rfl, hb1⟩
        go_wp2_with fail
        go_ret
        exact ⟨k, rfl, hb.trans (hb1.mono hb.size), by
          have h1 : l.any (fun b => b.1.toList == nm.toList) = true := List.any_eq_true.2 ⟨x, List.mem_of_getElem? HX.out, HP.out⟩
          rw [h1]; simp⟩
      | false =>
        have HP := Lib.hid hpx
        rw [hpx] at HCALL
        clear hpx
        go_wp2_with fail
        refine HCALL.out.mono ?_
        rintro e w1 ⟨rfl, hb1⟩
        go_wp2_with fail
        go_roundw
        case rel => exact ⟨k + 1, by omega, by go_num, hb.trans (hb1.mono hb.size), Lib.hid (by rw [HTS.out, List.any_append, HA.out]; simp [HP.out])⟩
        case measure => simp [intOf]; omega
    · go_wp2_with fail
      go_ret
      exact ⟨-1, rfl, hb, by
        have h1 : l.take k = l := List.take_of_length_le (by have := HL.out; omega)
        have h2 := HA.out
        rw [h1] at h2
        rw [h2]; rfl⟩
theorem hasT_any (g : Nat) (nm : ByteArray) (A : Option Addr) (n c : Nat) (l : List DAttr) (w : World) (B : Nat) (hl : Sl tDA w (lt B) A n c l) (hB : B ≤ w.heap.size) (hc : w.cell? ⟨g, 0, none⟩ = some (.string nm)) :
    Calls Tryz.prog 60 #[.slice A n c, .func (.func 61) #[] #[.pointer (some ⟨g, 0, none⟩)]] w fun e w' => e = .returned (.bool (l.any (fun b => b.1.toList == nm.toList))) ∧ Below w.heap.size w w' := by
  have HC := Lib.hid (hasT_idx g nm A n c l w B hl hB hc)
  clear hc
  go_enter Tryz.func60, Tryz.ntmps60
  go_wp2_with fail
  refine HC.out.mono ?_
  rintro e w1 ⟨r, rfl, hb, hr⟩
  have HR := Lib.hid hr
  clear hr
  go_wp2_with fail
  go_ret
  exact ⟨retB HR.out, hb⟩
end Go.Proofs.YtbddnohbkafagaaGreatDoor

/-
Tokens: the reader's tag.
-/
namespace Go.Proofs.YtbddnohbkafagaaGreatDoor
open Go.RowKit Go.Cl
attribute [local go_sem ↓] Go.wp_at_zero Go.wp_at_succ
/-- A token's cells. -/
abbrev tokC (kd : Int) (nm : ByteArray) (v : Value) (tx : ByteArray) (self : Bool) (f t : Int) : Array Value := #[.int .i64 kd, .string nm, v, .string tx, .bool self, .int .i64 f, .int .i64 t]
/-- Between two rounds of tag. -/
structure TgAt (w wr : World) (X : Nat) (s : ByteArray) (kd : Int) (nm : ByteArray) (E : Int) (O : Value) (rk : List UInt8) (acc : List DAttr) (v : Value) : Prop where
  rd : Rd wr X s rk E O
  gr : w.grownBy wr (some X)
  b0 : wr.heap[w.heap.size]? = some (.cells (tokC kd nm v ⟨#[]⟩ false 0 0) 32 (0, 0))
  b1 : wr.heap[w.heap.size + 1]? = some (.cells (tokC 0 ⟨#[]⟩ (.slice none 0 0) ⟨#[]⟩ false 0 0) 32 (0, 0))
  own : OwnF tDA wr (w.heap.size + 2) 55 v acc.length acc
  few : acc.length + rk.length ≤ s.size
  xlt : X < w.heap.size
  sz : w.heap.size + 2 ≤ wr.heap.size
section
variable {w wr W W' : World} {X : Nat} {s : ByteArray} {kd : Int} {nm : ByteArray} {E : Int} {O : Value} {rk r' : List UInt8} {acc : List DAttr} {v : Value}
theorem own_far2 {α : Type} {T : Ty α} {base b : Nat} {e : TypeId} {n : Nat} {xs : List α} (h : OwnF T W base e v n xs) (hb : b < base) : v.ownBlock = none ∨ v.ownBlock ≠ some b := by
  cases hv : v.ownBlock with
  | none => exact .inl rfl
  | some g =>
    right
    intro e'
    have := (Cl.Own.lt h g hv).1
    injection e' with e'
    omega
theorem TgAt.go (h : TgAt w wr X s kd nm E O rk acc v) (hg : wr.grownBy W' (some X)) (hr : Rd W' X s r' E O) (hl : r'.length ≤ rk.length) : TgAt w W' X s kd nm E O r' acc v := by
  have hx := h.xlt
  have hz := h.sz
  exact ⟨hr, h.gr.trans hg, (hg.block _ (by omega) (by simp; omega)).trans h.b0, (hg.block _ (by omega) (by simp; omega)).trans h.b1, Cl.Own.kept h.own hg (own_far2 h.own (by omega)) fun _ h => h.elim, by have := h.few; omega, hx, Nat.le_trans hz hg.size⟩
theorem TgAt.next (h : TgAt w wr X s kd nm E O rk acc v) (hb : Below wr.heap.size wr W') : TgAt w W' X s kd nm E O rk acc v := h.go (grown_below hb _) (h.rd.next hb) (Nat.le_refl _)
theorem TgAt.put (h : TgAt w wr X s kd nm E O rk acc v) {v' : Value} {a : DAttr} (hg : wr.grownBy W' v.ownBlock) (ho : OwnF tDA W' (w.heap.size + 2) 55 v' (acc.length + 1) (acc ++ [a])) (hf : acc.length + 1 + rk.length ≤ s.size) :
    TgAt w (W'.setCell ⟨w.heap.size, 2, none⟩ v') X s kd nm E O rk (acc ++ [a]) v' := by
  have hx := h.xlt
  have hz := h.sz
  have hlo : ∀ g, v.ownBlock = some g → w.heap.size + 2 ≤ g := fun g hv => (Cl.Own.lt h.own g hv).1
  have hblk : ∀ k, k < w.heap.size + 2 → W'.heap[k]? = wr.heap[k]? := fun k hk => hg.block k (by omega) fun e => by have := hlo k e.symm; omega
  have hg2 := grown_set W' w.heap.size 2 v'
  obtain ⟨⟨a0, r1, r2, r3⟩, m, hm⟩ := h.rd
  have hrd : Rd W' X s rk E O := ⟨⟨a0, r1, r2, (hblk X (by omega)).trans r3⟩, m, (World.cell?_of_block (a := ⟨0, 0, none⟩) (hblk 0 (by omega))).trans hm⟩
  have hgr : w.grownBy W' (some X) := by
    obtain ⟨g1, g2, g3, g4, g5⟩ := h.gr
    exact ⟨hg.1.trans g1, hg.2.trans g2, hg.3.trans g3, Nat.le_trans g4 hg.size, fun k hk hne => (hblk k (by omega)).trans (g5 k hk hne)⟩
  exact ⟨hrd.far (by omega) (by omega) _, grown_at hgr (Nat.le_refl _) _, set_blk ((hblk _ (by omega)).trans h.b0) _, (heap_setCell_other W' ⟨w.heap.size, 2, none⟩ _ v' (by show w.heap.size + 1 ≠ w.heap.size; omega)).trans ((hblk _ (by omega)).trans h.b1), by rw [List.length_append]; exact Cl.Own.kept ho hg2 (own_far2 ho (by omega)) fun _ h => h.elim, by rw [List.length_append]; exact hf, hx, Nat.le_trans (Nat.le_trans hz hg.size) hg2.size⟩
theorem TgAt.name (h : TgAt w wr X s kd nm E O rk acc v) (nm' : ByteArray) : TgAt w (wr.setCell ⟨w.heap.size, 1, none⟩ (.string nm')) X s kd nm' E O rk acc v := by
  have hx := h.xlt
  have hz := h.sz
  have hg2 := grown_set wr w.heap.size 1 (.string nm')
  exact ⟨h.rd.far (by omega) (by omega) _, grown_at h.gr (Nat.le_refl _) _, set_blk h.b0 _, (heap_setCell_other wr ⟨w.heap.size, 1, none⟩ _ _ (by show w.heap.size + 1 ≠ w.heap.size; omega)).trans h.b1, Cl.Own.kept h.own hg2 (own_far2 h.own (by omega)) fun _ h => h.elim, h.few, hx, Nat.le_trans hz hg2.size⟩
end
theorem Rd.left {w : World} {X : Nat} {s : ByteArray} {r : List UInt8} {E : Int} {O : Value} (h : Rd w X s r E O) : s.size - atOf w X = r.length := by
  obtain ⟨a, ha, hr, hc⟩ := h.at_
  have := drop_len ha hr
  rw [hc.at_]
  omega
theorem flatTDA : Flat tDA := flatPair flatStr flatStr
theorem elemTDA : ElemOf Tryz.prog 30 55 tDA.size 32 := elemDA
theorem attrL_len (l : List UInt8) : (attrL l).length ≤ 40 := by
  have h := nameL_len l
  unfold attrL
  cases hn : nameL l with
  | nil => exact Nat.zero_le _
  | cons c t =>
    rw [hn, List.length_cons] at h
    dsimp only
    split <;> (rw [List.length_cons]; exact h)
theorem attrF_small (b : UInt8) (t : List UInt8) : (attrF b t).1.1.size ≤ 40 ∧ (attrF b t).1.2.size ≤ 4 * t.length := by
  have h0 := attrL_len (b :: t.takeWhile anB)
  unfold attrF
  split
  · refine ⟨h0, ?_⟩
    have h1 := readL_len (bs (valueF (attrEnd t).tail).1) true
    have h2 := valueF_fst (attrEnd t).tail
    have h3 := dropW_le blankB (t.dropWhile anB)
    have h4 := dropW_le anB t
    rw [List.length_tail] at h2
    unfold attrEnd at h2
    have h5 : (bs (valueF (attrEnd t).tail).1).size = (valueF (attrEnd t).tail).1.length := rfl
    unfold attrEnd at h1 h5 ⊢
    show (ByteArray.mk (readL (bs (valueF ((t.dropWhile anB).dropWhile blankB).tail).1) true).toArray).size ≤ _
    omega
  · exact ⟨h0, Nat.zero_le _⟩
theorem suf47 (l : List UInt8) : Lib.hasSuffix l [47] = (l.getLast? == some 47) := by
  rw [Bool.eq_iff_iff]
  unfold Lib.hasSuffix
  rw [List.isSuffixOf_iff_suffix, beq_iff_eq, List.getLast?_eq_some_iff]
  exact ⟨fun ⟨t, h⟩ => ⟨t, h.symm⟩, fun ⟨t, h⟩ => ⟨t, h.symm⟩⟩
/-- A token is stored in a box. -/
abbrev put7 (W : World) (Z : Nat) (c0 c1 c2 c3 c4 c5 c6 : Value) : World := ((((((W.setCell ⟨Z, 0, none⟩ c0).setCell ⟨Z, 1, none⟩ c1).setCell ⟨Z, 2, none⟩ c2).setCell ⟨Z, 3, none⟩ c3).setCell ⟨Z, 4, none⟩ c4).setCell ⟨Z, 5, none⟩ c5).setCell ⟨Z, 6, none⟩ c6
section
variable {w W : World} {Z : Nat} {c0 c1 c2 c3 c4 c5 c6 x0 x1 x2 x3 x4 x5 x6 : Value}
theorem put7_blk {T : TypeId} (h : W.heap[Z]? = some (.cells #[x0, x1, x2, x3, x4, x5, x6] T (0, 0))) : (put7 W Z c0 c1 c2 c3 c4 c5 c6).heap[Z]? = some (.cells #[c0, c1, c2, c3, c4, c5, c6] T (0, 0)) := by
  have h0 : (W.setCell ⟨Z, 0, none⟩ c0).heap[Z]? = some (.cells #[c0, x1, x2, x3, x4, x5, x6] T (0, 0)) := set_blk (i := 0) h c0
  have h1 : ((W.setCell ⟨Z, 0, none⟩ c0).setCell ⟨Z, 1, none⟩ c1).heap[Z]? = some (.cells #[c0, c1, x2, x3, x4, x5, x6] T (0, 0)) := set_blk (i := 1) h0 c1
  have h2 : (((W.setCell ⟨Z, 0, none⟩ c0).setCell ⟨Z, 1, none⟩ c1).setCell ⟨Z, 2, none⟩ c2).heap[Z]? = some (.cells #[c0, c1, c2, x3, x4, x5, x6] T (0, 0)) := set_blk (i := 2) h1 c2
  have h3 : ((((W.setCell ⟨Z, 0, none⟩ c0).setCell ⟨Z, 1, none⟩ c1).setCell ⟨Z, 2, none⟩ c2).setCell ⟨Z, 3, none⟩ c3).heap[Z]? = some (.cells #[c0, c1, c2, c3, x4, x5, x6] T (0, 0)) := set_blk (i := 3) h2 c3
  have h4 : (((((W.setCell ⟨Z, 0, none⟩ c0).setCell ⟨Z, 1, none⟩ c1).setCell ⟨Z, 2, none⟩ c2).setCell ⟨Z, 3, none⟩ c3).setCell ⟨Z, 4, none⟩ c4).heap[Z]? = some (.cells #[c0, c1, c2, c3, c4, x5, x6] T (0, 0)) := set_blk (i := 4) h3 c4
  have h5 : ((((((W.setCell ⟨Z, 0, none⟩ c0).setCell ⟨Z, 1, none⟩ c1).setCell ⟨Z, 2, none⟩ c2).setCell ⟨Z, 3, none⟩ c3).setCell ⟨Z, 4, none⟩ c4).setCell ⟨Z, 5, none⟩ c5).heap[Z]? = some (.cells #[c0, c1, c2, c3, c4, c5, x6] T (0, 0)) := set_blk (i := 5) h4 c5
  have h6 : (((((((W.setCell ⟨Z, 0, none⟩ c0).setCell ⟨Z, 1, none⟩ c1).setCell ⟨Z, 2, none⟩ c2).setCell ⟨Z, 3, none⟩ c3).setCell ⟨Z, 4, none⟩ c4).setCell ⟨Z, 5, none⟩ c5).setCell ⟨Z, 6, none⟩ c6).heap[Z]? = some (.cells #[c0, c1, c2, c3, c4, c5, c6] T (0, 0)) := set_blk (i := 6) h5 c6
  exact h6
theorem put7_grown {row : Option Nat} (h : w.grownBy W row) (hZ : w.heap.size ≤ Z) : w.grownBy (put7 W Z c0 c1 c2 c3 c4 c5 c6) row :=
  grown_at (grown_at (grown_at (grown_at (grown_at (grown_at (grown_at h hZ _) hZ _) hZ _) hZ _) hZ _) hZ _) hZ _
theorem put7_in : W.grownBy (put7 W Z c0 c1 c2 c3 c4 c5 c6) (some Z) :=
  ((((((grown_set W Z 0 c0).trans (grown_set _ Z 1 c1)).trans (grown_set _ Z 2 c2)).trans (grown_set _ Z 3 c3)).trans (grown_set _ Z 4 c4)).trans (grown_set _ Z 5 c5)).trans (grown_set _ Z 6 c6)
theorem put7_rd {X : Nat} {s : ByteArray} {r : List UInt8} {E : Int} {O : Value} (h : Rd W X s r E O) (hX : X ≠ Z) (h0 : Z ≠ 0) : Rd (put7 W Z c0 c1 c2 c3 c4 c5 c6) X s r E O :=
  ((((((h.far hX h0 _).far hX h0 _).far hX h0 _).far hX h0 _).far hX h0 _).far hX h0 _).far hX h0 _
theorem put7_own {α : Type} {T : Ty α} {base : Nat} {e : TypeId} {v : Value} {n : Nat} {xs : List α} (h : OwnF T W base e v n xs) (hZ : Z < base) : OwnF T (put7 W Z c0 c1 c2 c3 c4 c5 c6) base e v n xs :=
  Cl.Own.kept h put7_in (own_far2 h hZ) fun _ h => h.elim
end
/-- What tag tells. -/
def TagPost (X : Nat) (s : ByteArray) (r : List UInt8) (kd : Int) (E : Int) (O : Value) (w : World) (e : Ending) (w' : World) : Prop :=
  w.grownBy w' (some X) ∧ match tagF [] (r.dropWhile tagB) with
    | none => (∃ nm A n c, e = .returned (.tuple #[.agg (tokC kd nm (.slice A n c) ⟨#[]⟩ false 0 0), .bool false])) ∧ Rd w' X s [] E O
    | some (acc, self, r2) => ∃ v, e = .returned (.tuple #[.agg (tokC kd (bs (nameL (r.takeWhile tagB))) v ⟨#[]⟩ self 0 0), .bool true]) ∧ OwnF tDA w' w.heap.size 55 v acc.length acc ∧ Rd w' X s r2 E O
set_option maxRecDepth 100000 in
set_option maxHeartbeats 4000000 in
theorem tkTag_any (X : Nat) (s : ByteArray) (r : List UInt8) (kd : Int) (E : Int) (O : Value) (w : World) (hs : s.size ≤ 1000000) (h : Rd w X s r E O) :
    Calls Tryz.prog 46 #[.pointer (some ⟨X, 0, none⟩), .agg (tokC kd ⟨#[]⟩ (.slice none 0 0) ⟨#[]⟩ false 0 0)] w (TagPost X s r kd E O w) := by
  obtain ⟨w0, hw0⟩ : ∃ w0, w0 = w.alloc (.cells (tokC kd ⟨#[]⟩ (.slice none 0 0) ⟨#[]⟩ false 0 0) 32) := ⟨_, rfl⟩
  obtain ⟨w1, hw1⟩ : ∃ w1, w1 = w0.alloc (.cells (tokC 0 ⟨#[]⟩ (.slice none 0 0) ⟨#[]⟩ false 0 0) 32) := ⟨_, rfl⟩
  have z0 : w0.heap.size = w.heap.size + 1 := by rw [hw0]; exact World.size_alloc w _
  have z1 : w1.heap.size = w.heap.size + 2 := by rw [hw1, World.size_alloc, z0]
  have hb1 : Below w.heap.size w w1 := by rw [hw1, hw0]; exact tal (tal (Below.refl _ _) _) _
  have hx0 : w1.heap[w.heap.size]? = some (.cells (tokC kd ⟨#[]⟩ (.slice none 0 0) ⟨#[]⟩ false 0 0) 32 (0, 0)) := by rw [hw1, Lib.alloc_old _ _ _ (by omega), hw0]; exact heap_alloc_new w _
  have hx1 : w1.heap[w.heap.size + 1]? = some (.cells (tokC 0 ⟨#[]⟩ (.slice none 0 0) ⟨#[]⟩ false 0 0) 32 (0, 0)) := by rw [hw1, ← z0]; exact heap_alloc_new w0 _
  have hdl : r.length ≤ s.size := by obtain ⟨a, ha, hr, _⟩ := h.at_; have := drop_len ha hr; omega
  have hX : X < w.heap.size := by obtain ⟨a, ha, hr, hc⟩ := h.at_; exact hc.lt
  have HA0 := Lib.hid (show TgAt w w1 X s kd ⟨#[]⟩ E O r [] (.slice none 0 0) from ⟨h.next hb1, grown_below hb1 _, hx0, hx1, OwnF.nil _ _ _, by simpa using hdl, hX, by omega⟩)
  have HU1 := Lib.hid (until_rd 56 tagB (enters_of Tryz.func56 (by kernel_rfl) rfl) tagStop_any X s r E O w1 hs HA0.out.rd)
  have HU2 := Lib.hid (fun (r' : List UInt8) (u : World) (h : Rd u X s r' E O) => until_rd 57 skipB (enters_of Tryz.func57 (by kernel_rfl) rfl) skipNot_any X s r' E O u hs h)
  obtain ⟨nm, hnm⟩ : ∃ nm, nm = bs (nameL (r.takeWhile tagB)) := ⟨_, rfl⟩
  have HNA := Lib.hid (fun (u : World) => (hnm ▸ tkName_any ⟨(r.takeWhile tagB).toArray⟩ u : Calls Tryz.prog 24 #[.string ⟨(r.takeWhile tagB).toArray⟩] u fun e w' => e = .returned (.string nm) ∧ Below u.heap.size u w'))
  have HNM := Lib.hid hnm
  clear hnm
  have HZ := Lib.hid (show w0.heap.size = w.heap.size + 1 ∧ w1.heap.size = w.heap.size + 2 from ⟨z0, z1⟩)
  have HTX : Hid (X < w.heap.size) := hX
  clear z0 z1 hb1 hx0 hx1 hdl h hX
  go_enter Tryz.func46, Tryz.ntmps46
  go_upto_region 1 with fail
  rw [← hw0, ← hw1]
  clear hw0 hw1
  go_upto_region 2 with (first
    | (go_at_call 55; refine HU1.out.mono ?_; rintro e w2 ⟨rfl, hg2, hr2⟩)
    | (go_at_call 24; refine (HNA.out _).mono ?_; rintro e w3 ⟨rfl, hb3⟩; have hA3 := (HA0.out.go hg2 hr2 (dropW_le _ _)).next hb3; have fb1 := free_blk (i := 1) hA3.b0; have cb1 := cell_blk (i := 1) hA3.b0 rfl; have HA3 := Lib.hid hA3; clear hA3 hg2 hr2 hb3))
  have HA4 := Lib.hid (HA3.out.name nm)
  clear cb1 fb1
  go_loopw [] (fun wr => ∃ rk acc v, Hid (TgAt w wr X s kd nm E O rk acc v) ∧ Hid (tagF [] (r.dropWhile tagB) = tagF acc rk)) (fun wr => s.size - atOf wr X)
  case atStart => exact ⟨_, _, _, HA4, Lib.hid rfl⟩
  case round =>
    obtain ⟨rk, acc, v, HA, HT⟩ := hrel
    obtain ⟨A, cp, rfl⟩ := Cl.Own.form HA.out.own
    have HLF := Lib.hid HA.out.rd.left
    have hstep := tagF_step acc rk
    have HUS := Lib.hid (HU2.out rk wr HA.out.rd)
    cases hd : rk.dropWhile skipB with
    | nil =>
      rw [hd] at hstep HUS
      have HN := Lib.hid (show tagF [] (r.dropWhile tagB) = none from by rw [HT.out, hstep])
      clear hstep hd
      go_upto_region 3 with (go_at_call 55; refine HUS.out.mono ?_; rintro e w5 ⟨rfl, hg5, hr5⟩)
      have HA5 := Lib.hid (HA.out.go hg5 hr5 (Nat.zero_le _))
      have hc := hr5.nil
      have c0 := hc.c0
      have c1 := hc.c1
      clear hc hg5 hr5
      go_quiet (fail)
      have b0 := cell_blk (i := 0) HA5.out.b0 rfl
      have b1 := cell_blk (i := 1) HA5.out.b0 rfl
      have b2 := cell_blk (i := 2) HA5.out.b0 rfl
      have b3 := cell_blk (i := 3) HA5.out.b0 rfl
      have b4 := cell_blk (i := 4) HA5.out.b0 rfl
      have b5 := cell_blk (i := 5) HA5.out.b0 rfl
      have b6 := cell_blk (i := 6) HA5.out.b0 rfl
      have d0 := cell_blk (i := 0) HA5.out.b1 rfl
      have d1 := cell_blk (i := 1) HA5.out.b1 rfl
      have d2 := cell_blk (i := 2) HA5.out.b1 rfl
      have d3 := cell_blk (i := 3) HA5.out.b1 rfl
      have d4 := cell_blk (i := 4) HA5.out.b1 rfl
      have d5 := cell_blk (i := 5) HA5.out.b1 rfl
      have d6 := cell_blk (i := 6) HA5.out.b1 rfl
      have fd0 := free_blk (i := 0) HA5.out.b1
      have fd1 := free_blk (i := 1) HA5.out.b1
      have fd2 := free_blk (i := 2) HA5.out.b1
      have fd3 := free_blk (i := 3) HA5.out.b1
      have fd4 := free_blk (i := 4) HA5.out.b1
      have fd5 := free_blk (i := 5) HA5.out.b1
      have fd6 := free_blk (i := 6) HA5.out.b1
      go_wp2_with fail
      have hA6 := HA5.out.next (tdrewN w5 nq)
      have hF := put7_blk (c0 := .int .i64 kd) (c1 := .string nm) (c2 := .slice A acc.length cp) (c3 := .string ⟨#[]⟩) (c4 := .bool false) (c5 := .int .i64 0) (c6 := .int .i64 0) hA6.b1
      have cF0 := cell_blk (i := 0) hF rfl
      have cF1 := cell_blk (i := 1) hF rfl
      have cF2 := cell_blk (i := 2) hF rfl
      have cF3 := cell_blk (i := 3) hF rfl
      have cF4 := cell_blk (i := 4) hF rfl
      have cF5 := cell_blk (i := 5) hF rfl
      have cF6 := cell_blk (i := 6) hF rfl
      have hX0 := HTX.out
      refine bodyPost_ret (v := .tuple #[.agg (tokC kd nm (.slice A acc.length cp) ⟨#[]⟩ false 0 0), .bool false]) ?_ rfl ⟨put7_grown hA6.gr (by omega), by rw [HN.out]; exact ⟨⟨_, _, _, _, rfl⟩, put7_rd hA6.rd (by omega) (by omega)⟩⟩
      clear hF hA6
      simp [results, Tryz.results46, go_sem, cF0, cF1, cF2, cF3, cF4, cF5, cF6]
    | cons q t =>
      rw [hd] at hstep HUS
      have hle := dropW_le skipB rk
      rw [hd] at hle
      have HLE := Lib.hid hle
      have HSP := Lib.hid hstep
      have HAT := Lib.hid (fun (u : World) (h : Rd u X s (q :: t) E O) => tkAttr_any X s q t E O u hs h)
      have HSF := Lib.hid (fun (u : World) => Tryz.strings_HasSuffix ⟨(rk.takeWhile skipB).toArray⟩ ⟨#[47]⟩ u (by have h1 := take_le skipB rk; have h2 := HA.out.few; show (rk.takeWhile skipB).length ≤ _; omega))
      have hsf : Lib.hasSuffix (⟨(rk.takeWhile skipB).toArray⟩ : ByteArray).data.toList (⟨#[47]⟩ : ByteArray).data.toList = ((rk.takeWhile skipB).getLast? == some 47) := suf47 _
      rw [hsf] at HSF
      clear hstep hd hsf
      go_upto_region 3 with (go_at_call 55; refine HUS.out.mono ?_; rintro e w5 ⟨rfl, hg5, hr5⟩)
      have HA5 := Lib.hid (HA.out.go hg5 hr5 hle)
      obtain ⟨⟨a5, ha5, hra5, hc5⟩, hm5⟩ := hr5
      obtain ⟨hlt5, hsa5, hr6⟩ := at_head hra5
      have c0 := hc5.c0
      have c1 := hc5.c1
      have f1 := hc5.fr 1
      have j0 : (0 : Int) ≤ (a5 : Int) := by omega
      have j1 : (a5 : Int) < (s.size : Int) := by omega
      have g1 : ((a5 : Int) == (s.size : Int)) = false := beq_eq_false_iff_ne.2 (by omega)
      have g2 : ¬ (a5 : Int) = (s.size : Int) := by omega
      have g3 : ¬ a5 = s.size := by omega
      have HST6 := Lib.hid fun (k : Nat) => Rd.step (w := w5.drewN k) (n := (a5 : Int) + 1) (b := a5 + 1) (by omega) (by omega) hr6 hc5 hm5
      have HSA := Lib.hid hsa5
      clear hg5 hle ha5 hra5 hc5 hm5 hr6 hsa5
      go_quiet (fail)
      go_upto_region 5 with fail
      by_cases h62 : q = 62
      · subst h62
        have HS2 := Lib.hid (show tagF [] (r.dropWhile tagB) = some (acc, (rk.takeWhile skipB).getLast? == some 47, t) from by rw [HT.out, HSP.out]; rfl)
        have e62 : ((s[a5].toNat : Int) == 62) = true := by rw [HSA.out]; rfl
        have p62 : 62 ≤ s[a5].toNat := by rw [HSA.out]; decide
        have p63 : s[a5].toNat ≤ 62 := by rw [HSA.out]; decide
        generalize ((rk.takeWhile skipB).getLast? == some 47) = self at *
        go_quiet (fail)
        go_upto_region 7 with fail
        go_wp2_with (go_at_call 58; refine (HSF.out _).mono ?_; rintro e w6 ⟨rfl, hw6⟩; have hA6 : TgAt w w6 X s kd nm E O t acc (.slice A acc.length cp) := (by rw [hw6]; exact (HA5.out.next (tdrewN _ _)).go (HST6.out _).2 (HST6.out _).1 (by simp)); clear hw6; have HA6 := Lib.hid hA6; clear hA6 c0 c1 f1; have b0 := cell_blk (i := 0) HA6.out.b0 rfl; have b1 := cell_blk (i := 1) HA6.out.b0 rfl; have b2 := cell_blk (i := 2) HA6.out.b0 rfl; have b3 := cell_blk (i := 3) HA6.out.b0 rfl; have b4 := cell_blk (i := 4) HA6.out.b0 rfl; have b5 := cell_blk (i := 5) HA6.out.b0 rfl; have b6 := cell_blk (i := 6) HA6.out.b0 rfl; have d0 := cell_blk (i := 0) HA6.out.b1 rfl; have d1 := cell_blk (i := 1) HA6.out.b1 rfl; have d2 := cell_blk (i := 2) HA6.out.b1 rfl; have d3 := cell_blk (i := 3) HA6.out.b1 rfl; have d4 := cell_blk (i := 4) HA6.out.b1 rfl; have d5 := cell_blk (i := 5) HA6.out.b1 rfl; have d6 := cell_blk (i := 6) HA6.out.b1 rfl; have fd0 := free_blk (i := 0) HA6.out.b1; have fd1 := free_blk (i := 1) HA6.out.b1; have fd2 := free_blk (i := 2) HA6.out.b1; have fd3 := free_blk (i := 3) HA6.out.b1; have fd4 := free_blk (i := 4) HA6.out.b1; have fd5 := free_blk (i := 5) HA6.out.b1; have fd6 := free_blk (i := 6) HA6.out.b1; have fb4 := free_blk (i := 4) HA6.out.b0)
        have hX0 := HTX.out
        have hg4 := grown_set w6 w.heap.size 4 (.bool self)
        have hF := put7_blk (c0 := .int .i64 kd) (c1 := .string nm) (c2 := .slice A acc.length cp) (c3 := .string ⟨#[]⟩) (c4 := .bool self) (c5 := .int .i64 0) (c6 := .int .i64 0) ((heap_setCell_other w6 ⟨w.heap.size, 4, none⟩ (w.heap.size + 1) (.bool self) (by show w.heap.size + 1 ≠ w.heap.size; omega)).trans HA6.out.b1)
        have cF0 := cell_blk (i := 0) hF rfl
        have cF1 := cell_blk (i := 1) hF rfl
        have cF2 := cell_blk (i := 2) hF rfl
        have cF3 := cell_blk (i := 3) hF rfl
        have cF4 := cell_blk (i := 4) hF rfl
        have cF5 := cell_blk (i := 5) hF rfl
        have cF6 := cell_blk (i := 6) hF rfl
        refine bodyPost_ret (v := .tuple #[.agg (tokC kd nm (.slice A acc.length cp) ⟨#[]⟩ self 0 0), .bool true]) ?_ rfl ⟨put7_grown (grown_at HA6.out.gr (Nat.le_refl _) _) (by omega), by rw [HS2.out]; exact ⟨_, by rw [HNM.out], Cl.Own.down (put7_own (Cl.Own.kept HA6.out.own hg4 (own_far2 HA6.out.own (by omega)) fun _ h => h.elim) (by omega)) (by omega), put7_rd (HA6.out.rd.far (by omega) (by omega) _) (by omega) (by omega)⟩⟩
        clear hF hg4
        simp [results, Tryz.results46, go_sem, cF0, cF1, cF2, cF3, cF4, cF5, cF6]
      · have HS2 := Lib.hid (show tagF [] (r.dropWhile tagB) = tagF (addA acc (attrF q t).1) (attrF q t).2 from by rw [HT.out, HSP.out]; exact if_neg h62)
        have e62 : ((s[a5].toNat : Int) == 62) = false := by rw [HSA.out]; exact u8_ne (c := 62) (by decide) h62
        have p62 : ¬ s[a5].toNat = 62 := by rw [HSA.out]; exact fun e => h62 (UInt8.toNat_inj.1 e)
        have HAL := Lib.hid (attr_le q t)
        have hsm := attrF_small q t
        obtain ⟨⟨aN, aV⟩, aR, haR⟩ : ∃ (x : DAttr) (y : List UInt8), attrF q t = (x, y) := ⟨_, _, rfl⟩
        rw [haR] at HS2 HAT HAL hsm
        have HSM := Lib.hid (show aN.size ≤ 1152921504606846976 ∧ aV.size ≤ 1152921504606846976 from by have h1 := HA5.out.few; rw [List.length_cons] at h1; obtain ⟨h2, h3⟩ := hsm; dsimp only at h2 h3; omega)
        clear haR h62 hsm
        go_quiet (fail)
        go_upto_region 10 with (go_at_call 59; refine (HAT.out _ (HA5.out.rd.next (tdrewN _ _))).mono ?_; rintro e w6 ⟨rfl, hg6, hr6⟩; have hA6 : TgAt w w6 X s kd nm E O aR acc (.slice A acc.length cp) := (HA5.out.next (tdrewN _ _)).go hg6 hr6 (by have := HAL.out; dsimp only at this; rw [List.length_cons]; omega); have HA6 := Lib.hid hA6; clear hg6 hr6 hA6)
        obtain ⟨w7, hw7⟩ : ∃ w7, w7 = w6.alloc (.cells #[.string aN, .string aV] 55) := ⟨_, rfl⟩
        rw [← hw7]
        have hb7 : Below w6.heap.size w6 w7 := by rw [hw7]; exact tal (Below.refl _ _) _
        have HB7 := Lib.hid (show w7.heap[w6.heap.size]? = some (.cells #[.string aN, .string aV] 55 (0, 0)) from by rw [hw7]; exact heap_alloc_new w6 _)
        have HA7 := Lib.hid (HA6.out.next hb7)
        clear hw7 hb7 c0 c1 f1
        have hfew : acc.length ≤ 1000000 := by have := HA7.out.few; omega
        obtain ⟨A', c', e', hsl⟩ := OwnF.sl (T := tDA) HA7.out.own (by decide) (by show acc.length * 32 ≤ _; omega)
        injection e' with e1 e2 e3
        subst e1
        subst e3
        have HCF := Lib.hid (hasT_any w6.heap.size aN A acc.length cp acc w7 w7.heap.size hsl (Nat.le_refl _) (cell_blk (i := 0) HB7.out rfl))
        have b2 := cell_blk (i := 2) HA7.out.b0 rfl
        clear hsl e2
        cases hany : acc.any (fun b => b.1.toList == aN.toList) with
        | true =>
          rw [hany] at HCF
          have HS3 := Lib.hid (show tagF [] (r.dropWhile tagB) = tagF acc aR from by rw [HS2.out]; unfold addA; rw [if_pos hany])
          clear hany
          go_wp2_with (go_at_call 60; refine HCF.out.mono ?_; rintro e w8 ⟨rfl, hb8⟩; have HA8 := Lib.hid (HA7.out.next hb8); clear hb8)
          refine ⟨⟨aR, acc, _, HA8, HS3⟩, ?_⟩
          show s.size - atOf _ X < s.size - atOf wr X
          rw [HA8.out.rd.left, HLF.out]
          have h1 := HAL.out
          have h2 := HLE.out
          rw [List.length_cons] at h2
          show aR.length < rk.length
          have h3 : aR.length ≤ t.length := h1
          omega
        | false =>
          rw [hany] at HCF
          have HS3 := Lib.hid (show tagF [] (r.dropWhile tagB) = tagF (acc ++ [(aN, aV)]) aR from by rw [HS2.out]; unfold addA; rw [if_neg (by rw [hany]; simp)])
          clear hany
          have hTE : ∀ (u : World), Below w7.heap.size w7 u → u.cell? ⟨w6.heap.size, 0, none⟩ = some (.string aN) ∧ u.cell? ⟨w6.heap.size, 1, none⟩ = some (.string aV) := fun u hu => ⟨cell_be (cell_blk (i := 0) HB7.out rfl) hu, cell_be (cell_blk (i := 1) HB7.out rfl) hu⟩
          have HTE := Lib.hid hTE
          clear hTE
          go_wp2_with (first
            | (go_at_call 60; refine HCF.out.mono ?_; rintro e w8 ⟨rfl, hb8⟩; have HA8 := Lib.hid (HA7.out.next hb8); have HT8 := Lib.hid (HTE.out _ hb8); obtain ⟨a0, a1⟩ := HTE.out _ hb8; have b2 := cell_blk (i := 2) HA8.out.b0 rfl; clear hb8)
            | (at_builtin; go_loud (refine wpList_apf _ flatTDA rfl (.tmp 54) (.tmp 56) 30 rfl elemTDA (v := .slice A acc.length cp) rfl (HA8.out.next (tal (Below.refl _ _) _)).own rfl (Sl.one_new flatTDA w8 55 (x := (aN, aV)) (cs := [.string aN, .string aV]) ⟨[_], [_], rfl, ⟨rfl, HSM.out.1⟩, rfl, HSM.out.2⟩ (by decide)) (by omega) (by omega) (HA8.out.next (tal (Below.refl _ _) _)).sz ?_); intro v9 w9 ho9 hg9 hb9 _; have HA9 := Lib.hid (HA8.out.next (tal (Below.refl _ _) (.cells #[.string aN, .string aV] 55))); have hB0 := (hb9.block w.heap.size (by omega)).trans HA9.out.b0; have fb2 := free_blk (i := 2) hB0; have cb2 := cell_blk (i := 2) hB0 rfl; have HO9 := Lib.hid ho9; have HG9 := Lib.hid hg9; obtain ⟨A9, c9, rfl⟩ := Cl.Own.form ho9; clear ho9 hg9 hb9 hB0))
          have h1 := HAL.out
          have h2 := HLE.out
          rw [List.length_cons] at h2
          have h3 : aR.length ≤ t.length := h1
          have HA10 := Lib.hid (HA9.out.put (a := (aN, aV)) HG9.out HO9.out (by have := HA.out.few; omega))
          refine ⟨⟨aR, acc ++ [(aN, aV)], _, HA10, HS3⟩, ?_⟩
          rw [HA10.out.rd.left, HLF.out]
          omega
end Go.Proofs.YtbddnohbkafagaaGreatDoor

/-
Tokens: the reader's comment and markup.
-/
namespace Go.Proofs.YtbddnohbkafagaaGreatDoor
open Go.RowKit Go.Cl
attribute [local go_sem ↓] Go.wp_at_zero Go.wp_at_succ
set_option maxRecDepth 100000 in
set_option maxHeartbeats 4000000 in
theorem tkComment_any (X : Nat) (s : ByteArray) (r : List UInt8) (mark : ByteArray) (E : Int) (O : Value) (w : World) (hs : s.size ≤ 1000000) (hmk : mark.size ≤ 1000) (h : Rd w X s r E O) :
    Calls Tryz.prog 45 #[.pointer (some ⟨X, 0, none⟩), .string mark] w fun e w' => e = .returned (.tuple #[.agg (tokC 4 ⟨#[]⟩ (.slice none 0 0) (bs (Lib.cut r mark.data.toList).1) false 0 0), .bool (Lib.cut r mark.data.toList).2.2]) ∧ w.grownBy w' (some X) ∧ Rd w' X s (Lib.cut r mark.data.toList).2.1 E O := by
  have hX : X < w.heap.size := by obtain ⟨a, ha, hr, hc⟩ := h.at_; exact hc.lt
  have HTX : Hid (X < w.heap.size) := hX
  obtain ⟨w1, hw1⟩ : ∃ w1, w1 = w.alloc (.cells (tokC 4 ⟨#[]⟩ (.slice none 0 0) ⟨#[]⟩ false 0 0) 32) := ⟨_, rfl⟩
  have hb1 : Below w.heap.size w w1 := by rw [hw1]; exact tal (Below.refl _ _) _
  have HX1 := Lib.hid (show w1.heap[w.heap.size]? = some (.cells (tokC 4 ⟨#[]⟩ (.slice none 0 0) ⟨#[]⟩ false 0 0) 32 (0, 0)) from by rw [hw1]; exact heap_alloc_new w _)
  have HB1 := Lib.hid hb1
  have HPA := Lib.hid (past_any X s r mark E O w1 hs hmk (h.next hb1))
  generalize Lib.cut r mark.data.toList = ct at *
  obtain ⟨c1, c2, c3⟩ := ct
  clear hb1 h hX
  go_enter Tryz.func45, Tryz.ntmps45
  go_upto_region 2 with fail
  rw [← hw1]
  clear hw1
  go_wp2_with (go_at_call 52; refine HPA.out.mono ?_; rintro e w2 ⟨rfl, hg2, hr2⟩; have hB2 := (hg2.block w.heap.size (Array.getElem?_eq_some_iff.1 HX1.out).1 (by have := HTX.out; simp; omega)).trans HX1.out; have HB2 := Lib.hid hB2; have HG2 := Lib.hid ((grown_below HB1.out (some X)).trans hg2); have HR2 := Lib.hid hr2; clear hB2 hg2 hr2; have b0 := cell_blk (i := 0) HB2.out rfl; have b1 := cell_blk (i := 1) HB2.out rfl; have b2 := cell_blk (i := 2) HB2.out rfl; have b3 := cell_blk (i := 3) HB2.out rfl; have b4 := cell_blk (i := 4) HB2.out rfl; have b5 := cell_blk (i := 5) HB2.out rfl; have b6 := cell_blk (i := 6) HB2.out rfl; have f0 := free_blk (i := 0) HB2.out; have f1 := free_blk (i := 1) HB2.out; have f2 := free_blk (i := 2) HB2.out; have f3 := free_blk (i := 3) HB2.out; have f4 := free_blk (i := 4) HB2.out; have f5 := free_blk (i := 5) HB2.out; have f6 := free_blk (i := 6) HB2.out)
  have hX0 := HTX.out
  have hF := put7_blk (c0 := .int .i64 4) (c1 := .string ⟨#[]⟩) (c2 := .slice none 0 0) (c3 := .string ⟨c1.toArray⟩) (c4 := .bool false) (c5 := .int .i64 0) (c6 := .int .i64 0) (set_blk (i := 3) HB2.out (.string ⟨c1.toArray⟩))
  have cF0 := cell_blk (i := 0) hF rfl
  have cF1 := cell_blk (i := 1) hF rfl
  have cF2 := cell_blk (i := 2) hF rfl
  have cF3 := cell_blk (i := 3) hF rfl
  have cF4 := cell_blk (i := 4) hF rfl
  have cF5 := cell_blk (i := 5) hF rfl
  have cF6 := cell_blk (i := 6) hF rfl
  refine bodyPost_ret (v := .tuple #[.agg (tokC 4 ⟨#[]⟩ (.slice none 0 0) (bs c1) false 0 0), .bool c3]) ?_ rfl ⟨rfl, put7_grown (grown_at HG2.out (Nat.le_refl _) _) (Nat.le_refl _), put7_rd (HR2.out.far (by omega) (by omega) _) (by omega) (by omega)⟩
  clear hF
  simp [results, Tryz.results45, go_sem, cF0, cF1, cF2, cF3, cF4, cF5, cF6]
  try rfl
end Go.Proofs.YtbddnohbkafagaaGreatDoor

/-
Tokens: the reader's markup.
-/
namespace Go.Proofs.YtbddnohbkafagaaGreatDoor
open Go.RowKit Go.Cl
attribute [local go_sem ↓] Go.wp_at_zero Go.wp_at_succ
theorem tkMarkup_any (X : Nat) (s : ByteArray) (a0 a : Nat) (c : UInt8) (r : List UInt8) (E : Int) (O : Value) (w : World) (hs : s.size ≤ 1000000) (h : Rc w X s a0 E O) (hr : s.data.toList.drop a = c :: r) :
    Calls Tryz.prog 31 #[.pointer (some ⟨X, 0, none⟩), .int .i64 (a : Int)] w fun e w' => e = .returned (.int .u8 ((markF (c :: r)).toNat : Int)) ∧ w' = w := by
  obtain ⟨hlt, hsa, hr1⟩ := at_head hr
  have c0 := h.c0
  have i0 : (0 : Int) ≤ (a : Int) := by omega
  have i1 : (a : Int) < (s.size : Int) := by omega
  have w1 : IntKind.i64.wrap ((a : Int) + 1) = (a : Int) + 1 := IntWalk.i64_in _ (by omega)
  have w2 : IntKind.i64.wrap ((a : Int) + 2) = (a : Int) + 2 := IntWalk.i64_in _ (by omega)
  have n1 : ((a : Int) + 1).toNat = a + 1 := by omega
  have HSA := Lib.hid hsa
  by_cases h60 : c = 60
  · subst h60
    have e60 : ((s[a].toNat : Int) == 60) = true := by rw [hsa]; rfl
    have n60n : ((s[a].toNat : Int) != 60) = false := by rw [hsa]; rfl
    have p60 : 60 ≤ s[a].toNat := by rw [hsa]; decide
    have p602 : s[a].toNat ≤ 60 := by rw [hsa]; decide
    cases r with
    | nil =>
      have HV := Lib.hid (show markF [60] = 0 from rfl)
      have hz : s.size = a + 1 := by have := drop_len (Nat.le_of_lt hlt) hr; simpa using this.symm
      have g1 : ((a : Int) + 1 == (s.size : Int)) = true := by rw [hz]; simp
      have g2 : (s.size : Int) = (a : Int) + 1 := by omega
      clear hr hr1 hsa h hz
      go_enter Tryz.func31, Tryz.ntmps31
      go_wp2_with fail
      go_ret
      exact ⟨by first | (rw [HV.out]; rfl) | rfl | (rw [HV.out]; exact congrArg (fun x : UInt8 => Ending.returned (.int .u8 (x.toNat : Int))) HSB.out), rfl⟩
    | cons b t =>
      obtain ⟨hlt1, hsb, hr2⟩ := at_head hr1
      have i2 : (a : Int) + 1 < (s.size : Int) := by omega
      have i3 : (0 : Int) ≤ (a : Int) + 1 := by omega
      have g1 : ((a : Int) + 1 == (s.size : Int)) = false := beq_eq_false_iff_ne.2 (by omega)
      have g2 : ¬ (a : Int) + 1 = (s.size : Int) := by omega
      have hmk := mark_cons 60 b t
      have HSB := Lib.hid hsb
      rw [if_neg (by decide)] at hmk
      have HLT := Lib.hid (fun u : World => letter_any s[a + 1] u)
      have hz : a + 1 + 1 + t.length = s.size := by have := drop_len (Nat.le_of_lt hlt1) hr1; rw [List.length_cons] at this; omega
      cases hl : letterB b with
      | true =>
        rw [hsb, hl, ← hsb] at HLT
        have HV := Lib.hid (show markF (60 :: b :: t) = 97 from by rw [hmk, if_pos hl])
        clear hr hr1 hr2 hsa hsb h hz hmk hl
        go_enter Tryz.func31, Tryz.ntmps31
        go_wp2_with (go_at_call 35; refine (HLT.out _).mono ?_; rintro e w3 ⟨rfl, rfl⟩)
        go_ret
        exact ⟨by first | (rw [HV.out]; rfl) | rfl | (rw [HV.out]; exact congrArg (fun x : UInt8 => Ending.returned (.int .u8 (x.toNat : Int))) HSB.out), rfl⟩
      | false =>
        rw [hsb, hl, ← hsb] at HLT
        rw [if_neg (by rw [hl]; decide)] at hmk
        by_cases h33 : b = 33
        · subst h33
          have HV := Lib.hid (show markF (60 :: 33 :: t) = 33 from by rw [hmk]; rfl)
          have e33 : ((s[a + 1].toNat : Int) == 33) = true := by rw [hsb]; rfl
          have n33n : ((s[a + 1].toNat : Int) != 33) = false := by rw [hsb]; rfl
          have p33 : 33 ≤ s[a + 1].toNat := by rw [hsb]; decide
          have p332 : s[a + 1].toNat ≤ 33 := by rw [hsb]; decide
          clear hr hr1 hr2 hsa hsb h hz hmk hl
          go_enter Tryz.func31, Tryz.ntmps31
          go_wp2_with (go_at_call 35; refine (HLT.out _).mono ?_; rintro e w3 ⟨rfl, rfl⟩)
          go_ret
          exact ⟨by first | (rw [HV.out]; rfl) | rfl | (rw [HV.out]; exact congrArg (fun x : UInt8 => Ending.returned (.int .u8 (x.toNat : Int))) HSB.out), rfl⟩
        by_cases h63 : b = 63
        · subst h63
          have HV := Lib.hid (show markF (60 :: 63 :: t) = 63 from by rw [hmk]; rfl)
          have e33 : ((s[a + 1].toNat : Int) == 33) = false := by rw [(And.intro hsb (show (63 : UInt8) ≠ 33 by decide)).1]; exact u8_ne (c := 33) (by decide) (And.intro hsb (show (63 : UInt8) ≠ 33 by decide)).2
          have n33n : ((s[a + 1].toNat : Int) != 33) = true := by simp only [bne, e33]; rfl
          have p33 : ¬ s[a + 1].toNat = 33 := by rw [(And.intro hsb (show (63 : UInt8) ≠ 33 by decide)).1]; exact fun e => (And.intro hsb (show (63 : UInt8) ≠ 33 by decide)).2 (UInt8.toNat_inj.1 e)
          have e63 : ((s[a + 1].toNat : Int) == 63) = true := by rw [hsb]; rfl
          have n63n : ((s[a + 1].toNat : Int) != 63) = false := by rw [hsb]; rfl
          have p63 : 63 ≤ s[a + 1].toNat := by rw [hsb]; decide
          have p632 : s[a + 1].toNat ≤ 63 := by rw [hsb]; decide
          clear hr hr1 hr2 hsa hsb h hz hmk hl
          go_enter Tryz.func31, Tryz.ntmps31
          go_wp2_with (go_at_call 35; refine (HLT.out _).mono ?_; rintro e w3 ⟨rfl, rfl⟩)
          go_ret
          exact ⟨by first | (rw [HV.out]; rfl) | rfl | (rw [HV.out]; exact congrArg (fun x : UInt8 => Ending.returned (.int .u8 (x.toNat : Int))) HSB.out), rfl⟩
        rw [if_neg (not_or.2 ⟨h33, h63⟩)] at hmk
        have e33 : ((s[a + 1].toNat : Int) == 33) = false := by rw [(And.intro hsb h33).1]; exact u8_ne (c := 33) (by decide) (And.intro hsb h33).2
        have n33n : ((s[a + 1].toNat : Int) != 33) = true := by simp only [bne, e33]; rfl
        have p33 : ¬ s[a + 1].toNat = 33 := by rw [(And.intro hsb h33).1]; exact fun e => (And.intro hsb h33).2 (UInt8.toNat_inj.1 e)
        have e63 : ((s[a + 1].toNat : Int) == 63) = false := by rw [(And.intro hsb h63).1]; exact u8_ne (c := 63) (by decide) (And.intro hsb h63).2
        have n63n : ((s[a + 1].toNat : Int) != 63) = true := by simp only [bne, e63]; rfl
        have p63 : ¬ s[a + 1].toNat = 63 := by rw [(And.intro hsb h63).1]; exact fun e => (And.intro hsb h63).2 (UInt8.toNat_inj.1 e)
        by_cases h47 : b = 47
        · subst h47
          have e47 : ((s[a + 1].toNat : Int) == 47) = true := by rw [hsb]; rfl
          have n47n : ((s[a + 1].toNat : Int) != 47) = false := by rw [hsb]; rfl
          have p47 : 47 ≤ s[a + 1].toNat := by rw [hsb]; decide
          have p472 : s[a + 1].toNat ≤ 47 := by rw [hsb]; decide
          cases t with
          | nil =>
            have HV := Lib.hid (show markF [60, 47] = 0 from rfl)
            have g3 : ¬ (a : Int) + 2 < (s.size : Int) := by simp at hz; omega
            clear hr hr1 hr2 hsa hsb h hz hmk hl
            go_enter Tryz.func31, Tryz.ntmps31
            go_wp2_with (go_at_call 35; refine (HLT.out _).mono ?_; rintro e w3 ⟨rfl, rfl⟩)
            go_ret
            exact ⟨by first | (rw [HV.out]; rfl) | rfl | (rw [HV.out]; exact congrArg (fun x : UInt8 => Ending.returned (.int .u8 (x.toNat : Int))) HSB.out), rfl⟩
          | cons d t2 =>
            have HV := Lib.hid (show markF (60 :: 47 :: d :: t2) = 47 from rfl)
            have g3 : (a : Int) + 2 < (s.size : Int) := by rw [List.length_cons] at hz; omega
            clear hr hr1 hr2 hsa hsb h hz hmk hl
            go_enter Tryz.func31, Tryz.ntmps31
            go_wp2_with (go_at_call 35; refine (HLT.out _).mono ?_; rintro e w3 ⟨rfl, rfl⟩)
            go_ret
            exact ⟨by first | (rw [HV.out]; rfl) | rfl | (rw [HV.out]; exact congrArg (fun x : UInt8 => Ending.returned (.int .u8 (x.toNat : Int))) HSB.out), rfl⟩
        have HV := Lib.hid (show markF (60 :: b :: t) = 0 from by rw [hmk, if_neg (fun h => h47 h.1)])
        have e47 : ((s[a + 1].toNat : Int) == 47) = false := by rw [(And.intro hsb h47).1]; exact u8_ne (c := 47) (by decide) (And.intro hsb h47).2
        have n47n : ((s[a + 1].toNat : Int) != 47) = true := by simp only [bne, e47]; rfl
        have p47 : ¬ s[a + 1].toNat = 47 := by rw [(And.intro hsb h47).1]; exact fun e => (And.intro hsb h47).2 (UInt8.toNat_inj.1 e)
        clear hr hr1 hr2 hsa hsb h hz hmk hl h33 h63 h47
        go_enter Tryz.func31, Tryz.ntmps31
        go_wp2_with (go_at_call 35; refine (HLT.out _).mono ?_; rintro e w3 ⟨rfl, rfl⟩)
        go_ret
        exact ⟨by first | (rw [HV.out]; rfl) | rfl | (rw [HV.out]; exact congrArg (fun x : UInt8 => Ending.returned (.int .u8 (x.toNat : Int))) HSB.out), rfl⟩
  · have HV := Lib.hid (show markF (c :: r) = 0 from by cases r with | nil => rfl | cons b t => rw [mark_cons, if_pos h60])
    have e60 : ((s[a].toNat : Int) == 60) = false := by rw [(And.intro hsa h60).1]; exact u8_ne (c := 60) (by decide) (And.intro hsa h60).2
    have n60n : ((s[a].toNat : Int) != 60) = true := by simp only [bne, e60]; rfl
    have p60 : ¬ s[a].toNat = 60 := by rw [(And.intro hsa h60).1]; exact fun e => (And.intro hsa h60).2 (UInt8.toNat_inj.1 e)
    clear hr hr1 hsa h h60
    go_enter Tryz.func31, Tryz.ntmps31
    go_wp2_with fail
    go_ret
    exact ⟨by first | (rw [HV.out]; rfl) | rfl | (rw [HV.out]; exact congrArg (fun x : UInt8 => Ending.returned (.int .u8 (x.toNat : Int))) HSB.out), rfl⟩
end Go.Proofs.YtbddnohbkafagaaGreatDoor
