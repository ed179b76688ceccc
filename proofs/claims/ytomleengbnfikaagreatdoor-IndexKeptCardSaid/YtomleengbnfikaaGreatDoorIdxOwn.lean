/-
The walk of own: a list of words with blocks of its own.
-/
import Derived.Test.YtomleengbnfikaaGreatDoorIdxKit
import Derived.Test.YtomleengbnfikaaGreatDoorIdxSame
namespace Go.Proofs.YtomleengbnfikaaGreatDoor
open Go.RowKit Go.Cl
attribute [local go_sem ↓] Go.wp_at_zero Go.wp_at_succ

/-- slices.Clone: a row of its own that reads as the same. -/
theorem cloneR (A : Option Addr) (n c : Nat) (xs : List Ref) (w : World) (B : Nat) (hl : Sl tRef w (lt B) A n c xs) (hB : B ≤ w.heap.size) :
    Calls Tryz.prog 26 #[.slice A n c] w fun e w' => ∃ A' c', e = .returned (.slice A' n c') ∧ Below w.heap.size w w' ∧ Own tRef w' w.heap.size 50 (lt B) (.slice A' n c') n xs := by
  have hn1 := hl.small
  have hbt : n * 40 ≤ 140737488355328 := hl.hb
  have heq := fun (a : Option Addr) (k q : Nat) (wx : World) => Lib.run_eql_slice_nil (P := Tryz.prog) wx 27 50 a k q 0 0 Tryz.underlying27
  cases A with
  | none =>
    obtain rfl : c = 0 := hl.nil_ rfl
    obtain rfl : n = 0 := by have := hl.hc; omega
    obtain rfl : xs = [] := List.eq_nil_of_length_eq_zero hl.hn.symm
    go_enter Tryz.func26, Tryz.ntmps26
    go_wp2_with fail
    go_ret
    exact ⟨none, 0, rfl, Below.refl _ _, Own.nil _ _ _ _⟩
  | some ad =>
    go_enter Tryz.func26, Tryz.ntmps26
    go_wp2_with (at_builtin; refine wpList_apo _ rfl (.tmp 5) (.tmp 6) 27 rfl elemR2 (v := .slice (some ⟨w.heap.size, 0, none⟩) 0 0) (xs := []) (D := fun _ => False) rfl ⟨[], World.ownsRow_made w #[] 0 (Nat.le_refl _) (by simp) (by simp), Row.nil⟩ (fun _ h => h.elim) rfl (hl.al hB _) (fun b hb => ⟨by have h1 : b < B := hb; simp; omega, by have h1 : b < B := hb; simp only [Value.ownBlock, ne_eq, Option.some.injEq]; omega⟩) (by omega) (by omega) (by simp) ?_; intro v1 w1 hown1 hgr1 hbl1 _)
    obtain ⟨A1, c1, rfl⟩ := hown1.form
    have h1 := (hown1.more (D' := lt B) fun b hb => hb.elim False.elim id)
    have h2 := ((Below.refl _ w).alloc (Nat.le_refl _) _).trans hbl1
    rw [Nat.zero_add, List.nil_append] at h1
    clear hown1 hgr1 hbl1
    rw [Nat.zero_add]
    go_wp2_with fail
    go_ret
    exact ⟨A1, c1, rfl, h2, h1⟩

theorem rows_rf {w : World} {D : Nat → Prop} : ∀ (l : List Ref) (cells : List Value), Row tRef w D l cells → ∃ ps : List Value, ps.length = l.length ∧ Row tR2 w (fun _ => False) (List.zipWith rfRow l ps) cells ∧ (∀ r ∈ l, r.1.size ≤ 1152921504606846976) ∧ ∀ (i : Nat) r p, l[i]? = some r → ps[i]? = some p → ∃ Av cv, p = .slice Av r.2.length cv ∧ Sl (tInt .i64) w D Av r.2.length cv r.2
  | [], cells, h => ⟨[], rfl, h, fun r h => by simp at h, fun i r p h => by simp at h⟩
  | r :: l, cells, h => by
    obtain ⟨c1, c2, rfl, ⟨a1, a2, rfl, ⟨rfl, h1⟩, Av, nv, cv, rfl, h2⟩, h3⟩ := h
    obtain rfl : nv = r.2.length := h2.hn
    obtain ⟨ps, g1, g2, g3, g4⟩ := rows_rf l c2 h3
    refine ⟨.slice Av r.2.length cv :: ps, by simp [g1], ⟨rfRow r _, c2, rfl, ⟨rfl, rfRow_ok ⟨_, _, _, rfl⟩⟩, g2⟩, fun z hz => ?_, fun i z p hz hp => ?_⟩
    · rcases List.mem_cons.1 hz with rfl | hz
      · exact h1
      · exact g3 z hz
    · cases i with
      | zero =>
        obtain rfl : r = z := by simpa using hz
        obtain rfl : _ = p := by simpa using hp
        exact ⟨_, _, rfl, h2⟩
      | succ i => exact g4 i z p (by simpa using hz) (by simpa using hp)
/-- Half its own: so many entries have a row of their own. -/
structure RfH (w : World) (base B : Nat) (A : Value) (l : List Ref) (ps : List Value) (k : Nat) : Prop where
  len : ps.length = l.length
  few : l.length ≤ 100000
  row : OwnF tR2 w base 50 A l.length (List.zipWith rfRow l ps)
  done : ∀ (i : Nat) r p, i < k → l[i]? = some r → ps[i]? = some p → OwnF (tInt .i64) w base 3 p r.2.length r.2
  todo : ∀ (i : Nat) r p, k ≤ i → l[i]? = some r → ps[i]? = some p → ∃ Av cv, p = .slice Av r.2.length cv ∧ Sl (tInt .i64) w (lt B) Av r.2.length cv r.2
  words : ∀ r ∈ l, r.1.size ≤ 1152921504606846976 ∧ r.2.length ≤ 100000
  apart : ∀ (i j : Nat) p q, i < k → j < k → ps[i]? = some p → ps[j]? = some q → i ≠ j → p.ownBlock = none ∨ p.ownBlock ≠ q.ownBlock
section
variable {w w1 : World} {base B k : Nat} {l : List Ref} {ps : List Value}
theorem RfH.whole {A : Value} (h : RfH w base B A l ps k) (hk : l.length ≤ k) : Rf w base A l ps :=
  ⟨h.len, h.few, h.row, fun i r p hr hp => h.done i r p (by have := (List.getElem?_eq_some_iff.1 hr).1; omega) hr hp, h.words, fun i j p q hp hq hne => h.apart i j p q (by have := (List.getElem?_eq_some_iff.1 hp).1; have := h.len; omega) (by have := (List.getElem?_eq_some_iff.1 hq).1; have := h.len; omega) hp hq hne⟩
theorem half_rf {A : Value} (h : Own tRef w base 50 (lt B) A l.length l) (hf : l.length ≤ 100000) (hk : ∀ r ∈ l, r.2.length ≤ 100000) : ∃ ps, RfH w base B A l ps 0 := by
  obtain ⟨cells, h1, h2⟩ := h
  obtain ⟨ps, g1, g2, g3, g4⟩ := rows_rf l cells h2
  exact ⟨ps, g1, hf, ⟨cells, h1, g2⟩, fun i r p hi => absurd hi (by omega), fun i r p _ hr hp => g4 i r p hr hp, fun r hr => ⟨g3 r hr, hk r hr⟩, fun i j p q hi => absurd hi (by omega)⟩
theorem RfH.where_ {A : Value} (h : RfH w base B A l ps k) (h0 : 0 < l.length) : ∃ g c, A = .slice (some ⟨g, 0, none⟩) l.length c ∧ base ≤ g ∧ g < w.heap.size ∧ l.length ≤ c ∧ (∀ k, w.frozen? ⟨g, k, none⟩ = false) ∧
    ∀ (i : Nat) r p, l[i]? = some r → ps[i]? = some p → w.cell? ⟨g, i * 2, none⟩ = some (.string r.1) ∧ w.cell? ⟨g, i * 2 + 1, none⟩ = some p := by
  obtain ⟨A0, c, e⟩ := Own.form h.row
  have hrow := h.row
  rw [e] at hrow
  obtain ⟨g, cells, rfl, hb, hl, hr, hc, hf⟩ := Own.block hrow h0
  refine ⟨g, c, e, hb, hl, ?_, hf, fun i r p hx hp => ?_⟩
  · obtain ⟨_, h1, _⟩ := hrow
    rcases h1.2 with ⟨hv, h2⟩ | ⟨g', cap, cur, hv, _, _, hnc, _⟩
    · omega
    · injection hv with _ _ hv
      omega
  · obtain ⟨cs, ⟨rfl, _⟩, hj⟩ := hr.at_ (zipR_at hx hp)
    exact ⟨hc _ _ (hj 0 _ rfl), hc _ _ (hj 1 _ rfl)⟩
/-- One more has a row of its own. -/
theorem RfH.step {g c : Nat} {r : Ref} {p v : Value} (h : RfH w base B (.slice (some ⟨g, 0, none⟩) l.length c) l ps k) (hr : l[k]? = some r) (hp : ps[k]? = some p) (hb : Below w.heap.size w w1) (hv : OwnF (tInt .i64) w1 w.heap.size 3 v r.2.length r.2) (hB : B ≤ base) (hbw : base ≤ w.heap.size) :
    RfH (w1.setCell ⟨g, k * 2 + 1, none⟩ v) base B (.slice (some ⟨g, 0, none⟩) l.length c) l (ps.set k v) (k + 1) := by
  have hrow1 := OwnF.below h.row hb (Nat.le_refl _)
  have hrow : Own tR2 (w1.setCell ⟨g, k * 2 + 1, none⟩ v) base 50 (fun _ => False) (.slice (some ⟨g, 0, none⟩) l.length c) l.length ((List.zipWith rfRow l ps).set k (rfRow r v)) :=
    Own.stored (T := tR2) hrow1 (fun _ h => h.elim) (zipR_at hr hp) (j := 1) (by decide) (fun cs hcs => by
      obtain ⟨rfl, _⟩ := hcs
      refine ⟨rfl, ?_⟩
      exact rfRow_ok (r := r) (by obtain ⟨A, c, e⟩ := Own.form hv; exact ⟨_, _, _, e⟩))
  rw [zipR_set, set_same hr] at hrow
  have hgs := grown_set w1 g (k * 2 + 1) v
  have hpl := (List.getElem?_eq_some_iff.1 hp).1
  have hvd := hv.down hbw
  have hgb := (Own.lt h.row g rfl)
  refine ⟨by rw [List.length_set]; exact h.len, h.few, hrow, fun i z q hi hz hq => ?_, fun i z q hi hz hq => ?_, h.words, fun i j q1 q2 hi hj hq1 hq2 hne => ?_⟩
  · by_cases e : k = i
    · subst e
      rw [List.getElem?_set_self hpl] at hq
      obtain rfl := Option.some.inj hq
      rw [hr] at hz
      obtain rfl := Option.some.inj hz
      exact ownF_kept hvd hgs (own_ne (by decide) hvd hrow1)
    · rw [List.getElem?_set_ne e] at hq
      have h1 := OwnF.below (h.done i z q (by omega) hz hq) hb (Nat.le_refl _)
      exact ownF_kept h1 hgs (own_ne (by decide) h1 hrow1)
  · rw [List.getElem?_set_ne (by omega)] at hq
    obtain ⟨Av, cv, rfl, hs⟩ := h.todo i z q (by omega) hz hq
    refine ⟨Av, cv, rfl, (hs.below hb (by omega)).keep fun a ha => World.cell?_of_block (Below.heap_setCell _ _ _ _ ?_)⟩
    have h1 : a.block < B := ha
    show a.block ≠ g
    omega
  · have side : ∀ (j : Nat) q, j < k → ps[j]? = some q → (v.ownBlock = none ∨ v.ownBlock ≠ q.ownBlock) ∧ (q.ownBlock = none ∨ q.ownBlock ≠ v.ownBlock) := fun j q hj hq => by
      obtain ⟨z, hz⟩ := get_some (l := l) (k := j) (by have := h.len; have := (List.getElem?_eq_some_iff.1 hq).1; omega)
      have h1 := Own.lt (h.done j z q hj hz hq)
      have h2 := Own.lt hv
      cases e : v.ownBlock with
      | none =>
        refine ⟨.inl rfl, ?_⟩
        cases e2 : q.ownBlock with
        | none => exact .inl rfl
        | some b => exact .inr (by simp)
      | some b =>
        have := (h2 b e).1
        refine ⟨.inr fun e2 => ?_, .inr fun e2 => ?_⟩
        · have := (h1 b e2.symm).2; omega
        · have := (h1 b e2).2; omega
    by_cases e1 : k = i
    · subst e1
      rw [List.getElem?_set_self hpl] at hq1
      obtain rfl := Option.some.inj hq1
      rw [List.getElem?_set_ne hne] at hq2
      exact (side j q2 (by omega) hq2).1
    · rw [List.getElem?_set_ne e1] at hq1
      by_cases e2 : k = j
      · subst e2
        rw [List.getElem?_set_self hpl] at hq2
        obtain rfl := Option.some.inj hq2
        exact (side i q1 (by omega) hq1).2
      · rw [List.getElem?_set_ne e2] at hq2
        exact h.apart i j q1 q2 (by omega) (by omega) hq1 hq2 hne
end
set_option maxRecDepth 100000 in
set_option maxHeartbeats 4000000 in
theorem ownR_any (A : Option Addr) (n c : Nat) (l : List Ref) (w : World) (B : Nat) (hl : Sl tRef w (lt B) A n c l) (hB : B ≤ w.heap.size) (hf : l.length ≤ 100000) (hk : ∀ r ∈ l, r.2.length ≤ 100000) :
    Calls Tryz.prog 14 #[.slice A n c] w fun e w' => ∃ v ps, e = .returned v ∧ Below w.heap.size w w' ∧ Rf w' w.heap.size v l ps := by
  have hnl := hl.hn
  subst hnl
  have HCL := Lib.hid (cloneR A l.length c l w B hl hB)
  have HB := Lib.hid hB
  have HF := Lib.hid hf
  have HK := Lib.hid hk
  clear hl hB hf hk
  have hfx : l.length ≤ 100000 := HF.out
  go_enter Tryz.func14, Tryz.ntmps14
  go_upto_region 2 with (go_at_call 26; refine HCL.out.mono ?_; rintro e' w1 ⟨A1, c1, rfl, hb1, ho1⟩)
  obtain ⟨ps0, hh⟩ := half_rf ho1 HF.out HK.out
  have HH0 : Hid (∃ ps, RfH w1 w.heap.size B (.slice A1 l.length c1) l ps 0) := ⟨ps0, hh⟩
  have HB1 := Lib.hid hb1
  clear hh ho1 HCL
  go_wp2_with fail
  clear hb1
  go_loopw [9] (fun s wr => ∃ k : Nat, k ≤ l.length ∧ s = .int .i64 (k : Int) ∧ Below w.heap.size w wr ∧ Hid (∃ ps, RfH wr w.heap.size B (.slice A1 l.length c1) l ps k)) (fun s _ => l.length - (intOf s).toNat)
  case atStart => exact ⟨0, Nat.zero_le _, rfl, HB1.out, HH0⟩
  case round =>
    obtain ⟨k, hk, rfl, hb, HR⟩ := hrel
    obtain ⟨ps, hh⟩ := HR.out
    by_cases hlt : k < l.length
    · obtain ⟨r, hr⟩ : ∃ r, l[k]? = some r := get_some hlt
      obtain ⟨p, hp⟩ : ∃ p, ps[k]? = some p := get_some (by rw [hh.len]; exact hlt)
      obtain ⟨Av, cv, rfl, hs⟩ := hh.todo k r p (Nat.le_refl _) hr hp
      obtain ⟨g, c2, e2, hgb, hgl, hcap, hfz, hcell⟩ := hh.where_ (by omega)
      simp only [Value.slice.injEq, true_and] at e2
      obtain ⟨rfl, rfl⟩ := e2
      obtain ⟨k1, k2⟩ := hcell k r _ hr hp
      have i1 : (0 : Int) ≤ (k : Int) := by omega
      have i2 : (k : Int) < (l.length : Int) := by omega
      have HC := Lib.hid (cloneI Av r.2.length cv r.2 wr B hs (Nat.le_trans HB.out hb.size))
      have HST := Lib.hid (fun w1 v h1 h2 => hh.step (w1 := w1) (v := v) hr hp h1 h2 HB.out hb.size)
      have HBR := Lib.hid hb
      have HFZ := Lib.hid hfz
      have HGL := Lib.hid hgl
      have HGB := Lib.hid hgb
      have HPS : Hid (ps.length = ps.length) := rfl
      clear hr hp hs hh hcell hfz hb HR HH0 k1 hgl hgb
      go_wp2_with (go_at_call 27; refine HC.out.mono ?_; rintro e' w2 ⟨A2, c2', rfl, hb2, ho2⟩; have m2 := cell_be k2 hb2; have f2 : w2.frozen? ⟨g, k * 2 + 1, none⟩ = false := (hb2.frozen (p := ⟨g, k * 2 + 1, none⟩) HGL.out).trans (HFZ.out _))
      have HN := Lib.hid (HST.out w2 _ hb2 (ho2.flat (flatInt _)))
      have HB2 := Lib.hid ((HBR.out.trans (hb2.mono HBR.out.size)).setCell (p := ⟨g, k * 2 + 1, none⟩) HGB.out (.slice A2 r.2.length c2'))
      go_roundw
      case rel => exact ⟨k + 1, by omega, by go_num, HB2.out, ⟨_, HN.out⟩⟩
      case measure => simp [intOf]; omega
    · go_wp2_with fail
      go_ret
      exact ⟨_, ps, rfl, hb, hh.whole (by omega)⟩
end Go.Proofs.YtomleengbnfikaaGreatDoor
