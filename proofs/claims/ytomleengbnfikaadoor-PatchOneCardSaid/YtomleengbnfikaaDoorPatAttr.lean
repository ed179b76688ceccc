/-
Patches: the walks over lists of attributes.
-/
import Derived.Test.YtomleengbnfikaaDoorPatKit
import Derived.Lib.SliceRun
namespace Go.Proofs.YtomleengbnfikaaDoor
open Go.RowKit Go.Cl
attribute [local go_sem ↓] Go.wp_at_zero Go.wp_at_succ

theorem bst {a b c : World} (h1 : Below a.heap.size a b) (h2 : Below b.heap.size b c) : Below a.heap.size a c := h1.trans (h2.mono h1.size)
theorem da_get {w : World} {D : Nat → Prop} {A : Option Addr} {n c : Nat} {l : List DAttr} (h : Sl tDA w D A n c l) {i : Nat} {a : DAttr} (ha : l[i]? = some a) :
    ∃ g o, A = some ⟨g, o, none⟩ ∧ D g ∧ w.cell? ⟨g, o + i * 2, none⟩ = some (.string a.1) ∧ w.cell? ⟨g, o + i * 2 + 1, none⟩ = some (.string a.2) ∧ a.1.size ≤ 1152921504606846976 ∧ a.2.size ≤ 1152921504606846976 := by
  obtain ⟨g, o, cs, rfl, hD, hr, hc⟩ := h.get ha
  obtain ⟨_, _, rfl, ⟨rfl, h1⟩, rfl, h2⟩ := hr
  exact ⟨g, o, rfl, hD, hc 0 _ rfl, by rw [Nat.add_assoc]; exact hc 1 _ rfl, h1, h2⟩
theorem hasD_any (A : Option Addr) (n c : Nat) (l : List DAttr) (nm : ByteArray) (w : World) (B : Nat) (hl : Sl tDA w (lt B) A n c l) (hB : B ≤ w.heap.size) :
    Calls Tryd.prog 47 #[.slice A n c, .string nm] w fun e w' => e = .returned (.bool (hasA l nm)) ∧ Below w.heap.size w w' := by
  have HF := Lib.hid (find_dom A n c l nm w B hl hB)
  have hge : decide ((0 : Int) ≤ findA l nm) = hasA l nm := rfl
  go_enter Tryd.func47, Tryd.ntmps47
  go_wp2_with (go_at_call 60; refine HF.out.mono ?_; rintro e w1 ⟨rfl, hb1⟩)
  go_ret
  exact ⟨by rw [← hge]; rfl, hb1⟩
/-- Is what has that name not in the list? -/
theorem notIn_any (a : DAttr) (X : Nat) (A : Option Addr) (n c : Nat) (l : List DAttr) (w : World) (B : Nat) (hX : w.cell? ⟨X, 0, none⟩ = some (.slice A n c)) (hl : Sl tDA w (lt B) A n c l) (hB : B ≤ w.heap.size) :
    Calls Tryd.prog 46 #[.agg #[.string a.1, .string a.2], .pointer (some ⟨X, 0, none⟩)] w fun e w' => e = .returned (.bool (!hasA l a.1)) ∧ Below w.heap.size w w' := by
  obtain ⟨w0, hw0⟩ : ∃ w0, w0 = w.alloc (.cells #[.string a.1, .string a.2] 37) := ⟨_, rfl⟩
  have hb0 : Below w.heap.size w w0 := by rw [hw0]; exact (Below.refl _ _).alloc (Nat.le_refl _) _
  have hx0 : w0.heap[w.heap.size]? = some (.cells #[.string a.1, .string a.2] 37 (0, 0)) := by rw [hw0]; exact heap_alloc_new w _
  have x0 := cell_be hX hb0
  have y0 := cell_blk (i := 0) hx0 rfl
  have HH := Lib.hid (hasD_any A n c l a.1 w0 B (hl.below hb0 hB) (Nat.le_trans hB hb0.size))
  have HB0 := Lib.hid hb0
  clear hb0 hx0 hl hX hB
  go_enter Tryd.func46, Tryd.ntmps46
  go_upto_region 1 with fail
  rw [← hw0]
  clear hw0
  go_wp2_with (go_at_call 47; refine HH.out.mono ?_; rintro e w1 ⟨rfl, hb1⟩)
  go_ret
  exact ⟨rfl, HB0.out.trans (hb1.mono HB0.out.size)⟩
/-- What of a list goes: the last one, or none. -/
theorem keep_cases {l m : List DAttr} (h : LastA l m) : (keepA l m = l ∧ ∀ a ∈ l, hasA m a.1 = true) ∨ ∃ k a, l.length = k + 1 ∧ l[k]? = some a ∧ hasA m a.1 = false ∧ keepA l m = l.take k ∧ ∀ (i : Nat) b, i < k → l[i]? = some b → hasA m b.1 = true := by
  by_cases hall : ∀ a ∈ l, hasA m a.1 = true
  · exact .inl ⟨List.filter_eq_self.2 hall, hall⟩
  · right
    have hpos : 0 < l.length := by
      cases l with
      | nil => exact absurd (fun a ha => by cases ha) hall
      | cons _ _ => simp
    obtain ⟨k, hk⟩ : ∃ k, l.length = k + 1 := ⟨l.length - 1, by omega⟩
    obtain ⟨a, ha⟩ : ∃ a, l[k]? = some a := get_some (by omega)
    have hno : hasA m a.1 = false := by
      rw [← Bool.not_eq_true]
      intro hya
      refine hall fun b hb => ?_
      obtain ⟨i, hi⟩ := List.mem_iff_getElem?.1 hb
      have hil := (List.getElem?_eq_some_iff.1 hi).1
      by_cases e : i = k
      · subst e
        rw [ha] at hi
        obtain rfl := Option.some.inj hi
        exact hya
      · exact h i b hi (by omega)
    refine ⟨k, a, hk, ha, hno, ?_, fun i b hi hb => h i b hb (by omega)⟩
    have hsp : l = l.take k ++ [a] := by
      rw [← take_snoc ha, show k + 1 = l.length from hk.symm, List.take_length]
    unfold keepA
    conv => lhs; rw [hsp]
    rw [List.filter_append, List.filter_cons_of_neg (by simp [hno]), List.filter_nil, List.append_nil]
    refine List.filter_eq_self.2 fun b hb => ?_
    obtain ⟨i, hi⟩ := List.mem_iff_getElem?.1 hb
    rw [List.getElem?_take] at hi
    split at hi
    · rename_i hik
      exact h i b hi (by omega)
    · cases hi
set_option maxRecDepth 100000 in
set_option maxHeartbeats 2000000 in
theorem idxF_any (X : Nat) (A : Option Addr) (n c : Nat) (l : List DAttr) (A2 : Option Addr) (n2 c2 : Nat) (m : List DAttr) (w : World) (B B2 : Nat) (hX : w.cell? ⟨X, 0, none⟩ = some (.slice A2 n2 c2)) (hl : Sl tDA w (lt B2) A n c l) (hm : Sl tDA w (lt B) A2 n2 c2 m) (hB : B ≤ w.heap.size) (hB2 : B2 ≤ w.heap.size) (hlast : LastA l m) :
    Calls Tryd.prog 68 #[.slice A n c, .func (.func 46) #[] #[.pointer (some ⟨X, 0, none⟩)]] w fun e w' => Below w.heap.size w w' ∧ ((e = .returned (.int .i64 (-1)) ∧ keepA l m = l) ∨ ∃ k : Nat, e = .returned (.int .i64 (k : Int)) ∧ l.length = k + 1 ∧ keepA l m = l.take k) := by
  have hn1 := hl.small
  have HL := Lib.hid hl
  have HLN := Lib.hid hl.hn
  have HX := Lib.hid hX
  have HM := Lib.hid hm
  have HKC := Lib.hid (keep_cases hlast)
  have HBB : Hid (B ≤ w.heap.size ∧ B2 ≤ w.heap.size) := ⟨hB, hB2⟩
  clear hl hX hm hlast hB hB2
  go_enter Tryd.func68, Tryd.ntmps68
  go_wp2_with fail
  go_loopw [8] (fun s wr => ∃ j : Nat, j ≤ n ∧ s = .int .i64 (j : Int) ∧ Hid (Below w.heap.size w wr) ∧ Hid (∀ (i : Nat) b, i < j → l[i]? = some b → hasA m b.1 = true)) (fun s _ => n - (intOf s).toNat)
  case atStart => exact ⟨0, Nat.zero_le _, rfl, Lib.hid (Below.refl _ _), Lib.hid fun i b h => absurd h (by omega)⟩
  case round =>
    obtain ⟨j, hj, rfl, HB, HP⟩ := hrel
    by_cases hlt : j < n
    · obtain ⟨a, ha⟩ : ∃ a, l[j]? = some a := get_some (by have := HLN.out; omega)
      obtain ⟨g, o, rfl, _, s0, s1, _, _⟩ := da_get (HL.out.below HB.out HBB.out.2) ha
      have j1 : (0 : Int) ≤ (j : Int) := by omega
      have j2 : (j : Int) < (n : Int) := by omega
      have HA := Lib.hid ha
      have HC := Lib.hid (notIn_any a X A2 n2 c2 m wr B (cell_be HX.out HB.out) (HM.out.below HB.out HBB.out.1) (Nat.le_trans HBB.out.1 HB.out.size))
      clear ha
      by_cases hh : hasA m a.1 = true
      · have HP2 : Hid (∀ (i : Nat) b, i < j + 1 → l[i]? = some b → hasA m b.1 = true) := fun i b hi hb => by
          by_cases e : i = j
          · subst e
            rw [HA.out] at hb
            obtain rfl := Option.some.inj hb
            exact hh
          · exact HP.out i b (by omega) hb
        go_wp2_with (go_at_call 46; refine HC.out.mono ?_; rintro e w1 ⟨rfl, hb1⟩; rw [hh])
        go_roundw
        case rel => exact ⟨j + 1, by omega, by go_num, Lib.hid (bst HB.out hb1), HP2⟩
        case measure => simp [intOf]; omega
      · have hf : hasA m a.1 = false := by simpa using hh
        clear hh
        go_wp2_with (go_at_call 46; refine HC.out.mono ?_; rintro e w1 ⟨rfl, hb1⟩; rw [hf])
        go_ret
        refine ⟨bst HB.out hb1, ?_⟩
        rcases HKC.out with ⟨_, h⟩ | ⟨k, b, hk, hb, hnb, hkeep, hpre⟩
        · rw [h a (List.mem_of_getElem? HA.out)] at hf
          cases hf
        · have hjk : j = k := by
            by_cases e : j < k
            · rw [hpre j a e HA.out] at hf
              cases hf
            · have := HLN.out; omega
          subst hjk
          exact .inr ⟨j, rfl, hk, hkeep⟩
    · obtain rfl : n = j := by omega
      go_wp2_with fail
      go_ret
      refine ⟨HB.out, .inl ⟨rfl, List.filter_eq_self.2 fun b hb => ?_⟩⟩
      obtain ⟨i, hi⟩ := List.mem_iff_getElem?.1 hb
      exact HP.out i b (by rw [show n = l.length from HLN.out]; exact (List.getElem?_eq_some_iff.1 hi).1) hi
/-- The last element of a row is cleared: what is ahead of it. -/
theorem sl_pre {w : World} {g o n c k : Nat} {l : List DAttr} {D : Nat → Prop} (h : Sl tDA w D (some ⟨g, o, none⟩) n c l) (hk : k ≤ n) {w' : World} (hc : ∀ j, j < k * 2 → w'.cell? ⟨g, o + j, none⟩ = w.cell? ⟨g, o + j, none⟩) : Sl tDA w' D (some ⟨g, o, none⟩) k c (l.take k) := by
  have hb := h.hb
  have hs := h.cut_to hk
  refine ⟨hs.hn, hs.hc, hs.hb, hs.hm, hs.nil_, fun h0 => ?_⟩
  obtain ⟨b, o2, cells, e, hD, hr, hcell⟩ := hs.at_ h0
  injection e with e
  injection e with e1 e2
  subst e1 e2
  have hcl : cells.length = k * 2 := by
    have := hr.len
    rw [hs.hn.symm] at this
    exact this
  refine ⟨g, o, cells, rfl, hD, Row.flat (flatPair flatStr flatStr) hr, fun j u hj => (hc j (by have := (List.getElem?_eq_some_iff.1 hj).1; omega)).trans (hcell j u hj)⟩
set_option maxRecDepth 100000 in
set_option maxHeartbeats 4000000 in
/-- slices.DeleteFunc, where at most the last one goes. -/
theorem delA_any (X : Nat) (A : Option Addr) (n c : Nat) (l : List DAttr) (A2 : Option Addr) (n2 c2 : Nat) (m : List DAttr) (w : World) (base B : Nat) (hown : OwnF tDA w base 37 (.slice A n c) n l) (hX : w.heap[X]? = some (.cells #[.slice A2 n2 c2] 25 (0, 0))) (hm : Sl tDA w (lt B) A2 n2 c2 m) (hB : B ≤ w.heap.size) (hlast : LastA l m) (hn : n ≤ 1000) :
    Calls Tryd.prog 48 #[.slice A n c, .func (.func 46) #[] #[.pointer (some ⟨X, 0, none⟩)]] w fun e w' => ∃ A' c', e = .returned (.slice A' (keepA l m).length c') ∧ Sl tDA w' (rg base w'.heap.size) A' (keepA l m).length c' (keepA l m) ∧ Tou (fun b => (Value.slice A n c).ownBlock = some b) w w' := by
  obtain ⟨_, _, e0, hsl⟩ := OwnF.slr hown (by decide) (by show n * 32 ≤ _; omega)
  injection e0 with e1 _ e2
  subst e1 e2
  have HS := Lib.hid hsl
  have hI := idxF_any X A n c l A2 n2 c2 m w B w.heap.size (cell_blk hX rfl) (Sl.ltr hsl) hm hB (Nat.le_refl _) hlast
  have hcap := hsl.hc
  have hln := hsl.hn
  have hcm := hsl.small
  by_cases hk : keepA l m = l
  · have HK := Lib.hid hk
    have HI := Lib.hid (hI.mono (R' := fun e w' => Below w.heap.size w w' ∧ e = .returned (.int .i64 (-1))) fun e w' h => ⟨h.1, by
      rcases h.2 with ⟨h, _⟩ | ⟨k, _, h1, h2⟩
      · exact h
      · rw [HK.out] at h2
        have := congrArg List.length h2
        rw [List.length_take] at this
        omega⟩)
    have HLN := Lib.hid hln
    rw [hk]
    clear hown hX hm hlast hI hk hsl hln
    go_enter Tryd.func48, Tryd.ntmps48
    go_wp2_with (go_at_call 68; refine HI.out.mono ?_; rintro e w1 ⟨hb1, rfl⟩)
    go_ret
    exact ⟨A, c, by rw [← show n = l.length from HLN.out]; rfl, by rw [← show n = l.length from HLN.out]; exact (HS.out.keep fun p hp => hb1.cell hp.2).more fun b hb => ⟨hb.1, Nat.lt_of_lt_of_le hb.2 hb1.size⟩, Tou.of_below hb1⟩
  · have HK := Lib.hid hk
    have HI := Lib.hid (hI.mono (R' := fun e w' => Below w.heap.size w w' ∧ ∃ k : Nat, e = .returned (.int .i64 (k : Int)) ∧ n = k + 1 ∧ keepA l m = l.take k) fun e w' h => ⟨h.1, by
      rcases h.2 with ⟨_, h⟩ | ⟨k, h0, h1, h2⟩
      · exact absurd h HK.out
      · exact ⟨k, h0, hln.trans h1, h2⟩⟩)
    have hpos : 0 < n := by
      rw [hln]
      cases l with
      | nil => exact absurd rfl hk
      | cons _ _ => simp
    obtain ⟨g, cells, rfl, hbg, hgl, hrw, hcl, hfz⟩ := Own.block hown hpos
    have HO := Lib.hid hown
    have HLN := Lib.hid hln
    have HGL : Hid (g < w.heap.size) := hgl
    clear hown hX hm hlast hI hk hsl hrw hcl hbg hfz hln
    go_enter Tryd.func48, Tryd.ntmps48
    go_upto_region 2 with (go_at_call 68; refine HI.out.mono ?_; rintro e w1 ⟨hb1, k, rfl, hnk, hkeep⟩)
    have hm1 : ((k : Int) == -1) = false := beq_eq_false_iff_ne.2 (by omega)
    have hS1 := HS.out.keep fun p hp => hb1.cell hp.2
    have hO1 := HO.out.below hb1 (Nat.le_refl _)
    have HS1 := Lib.hid hS1
    have HB1 := Lib.hid hb1
    have HKP := Lib.hid hkeep
    have hfz : ∀ k, w1.frozen? ⟨g, k, none⟩ = false := by
      obtain ⟨_, _, e5, _, _, _, _, h⟩ := Own.block hO1 hpos
      cases e5
      exact h
    obtain ⟨x, hx⟩ : ∃ x, l[k]? = some x := get_some (by have := HLN.out; omega)
    obtain ⟨_, _, e5, _, c0, c1, _, _⟩ := da_get hS1 hx
    injection e5 with e5
    injection e5 with e6 e7
    subst e6 e7
    have hcl2 : ∀ ty q, (Builtin.clear_ #[25] ty #[.slice (some ⟨g, k * 2, none⟩) 1 q]).run Tryd.prog w1 = .ok (.tuple #[]) (w1.setCells g (k * 2) [.string ⟨#[]⟩, .string ⟨#[]⟩]) := fun ty q => by
      exact run_clear_one w1 _ _ ty _ [.string ⟨#[]⟩, .string ⟨#[]⟩] Tryd.underlying25 Tryd.zeroValue37 (by kernel_rfl) (by simp [Value.oneCell']) g _ q (fun j hj => by
        have hj2 : j < 2 := hj
        rw [Nat.zero_add] at c0 c1
        rcases (by omega : j = 0 ∨ j = 1) with rfl | rfl
        · rw [Nat.add_zero, c0]; rfl
        · rw [c1]; rfl) (fun j _ => hfz _)
    have hck : ¬ c = k := by omega
    have k1 : (0 : Int) ≤ (k : Int) := by omega
    have k2 : (k : Int) ≤ (n : Int) := by omega
    have k3 : k ≤ n := by omega
    have k4 : k ≤ c := by omega
    have HKL : Hid ((keepA l m).length = k) := by show _ = _; rw [hkeep, List.length_take]; have := HLN.out; omega
    have HNK := Lib.hid hnk
    have hge : (n : Int) ≤ (k : Int) + 1 := by omega
    clear hb1 hS1 hO1 hkeep hfz hx c0 c1 hnk
    go_wp2_with fail
    go_loopw [5, 6] (fun s5 s6 wr => s5 = .int .i64 (k : Int) ∧ s6 = .int .i64 ((k : Int) + 1) ∧ wr = w1) (fun _ _ _ => 0)
    case atStart => exact ⟨rfl, by go_num, rfl⟩
    case round =>
      obtain ⟨rfl, rfl, rfl⟩ := hrel
      go_wp2_with fail
      go_ret
      refine ⟨some ⟨g, 0, none⟩, c, by rw [HKL.out]; rfl, ?_, ?_⟩
      · rw [HKL.out, HKP.out]
        have hne : ∀ j, j < k * 2 → ∀ i, k * 2 ≤ i → ({ block := g, off := 0 + j } : Addr) ≠ { block := g, off := i } := fun j hj i hi e => by
          injection e with _ e
          omega
        have hp := sl_pre (w' := wr.setCells g (k * 2) [.string ⟨#[]⟩, .string ⟨#[]⟩]) HS1.out (k := k) k3 fun j hj => by
          show ((wr.setCell ⟨g, k * 2, none⟩ _).setCell ⟨g, k * 2 + 1, none⟩ _).cell? _ = _
          rw [World.cell?_setCell_other _ _ _ _ (hne j hj _ (by omega)).symm, World.cell?_setCell_other _ _ _ _ (hne j hj _ (by omega)).symm]
        have hsz := (grown_setCells g [.string ⟨#[]⟩, .string ⟨#[]⟩] (k * 2) wr).size
        exact hp.more fun b hb => ⟨hb.1, Nat.lt_of_lt_of_le hb.2 (Nat.le_trans HB1.out.size hsz)⟩
      · exact (Tou.of_below HB1.out).trans (Tou.of_grown (grown_setCells g _ _ wr)) fun b _ h => by
          injection h with h
          show some g = some b
          rw [h]
theorem nameEq_any (a b : DAttr) (w : World) :
    Calls Tryd.prog 49 #[.agg #[.string a.1, .string a.2], .agg #[.string b.1, .string b.2]] w fun e w' => e = .returned (.bool (a.1.toList == b.1.toList)) ∧ Below w.heap.size w w' := by
  go_enter Tryd.func49, Tryd.ntmps49
  go_wp2_with fail
  go_ret
  exact ⟨rfl, ((Below.refl _ _).alloc (Nat.le_refl _) _).alloc (by simp) _⟩
theorem names_take {l l2 : List DAttr} {j : Nat} {a b : DAttr} (h : namesA (l.take j) = namesA (l2.take j)) (ha : l[j]? = some a) (hb : l2[j]? = some b) : namesA (l.take (j + 1)) = namesA (l2.take (j + 1)) ↔ a.1 = b.1 := by
  rw [take_snoc ha, take_snoc hb]
  unfold namesA at h ⊢
  rw [List.map_append, List.map_append, h]
  simp
set_option maxRecDepth 100000 in
set_option maxHeartbeats 2000000 in
/-- slices.EqualFunc by names. -/
theorem eqNames_any (A : Option Addr) (n c : Nat) (l : List DAttr) (A2 : Option Addr) (n2 c2 : Nat) (l2 : List DAttr) (w : World) (B B2 : Nat) (h1 : Sl tDA w (lt B) A n c l) (h2 : Sl tDA w (lt B2) A2 n2 c2 l2) (hB : B ≤ w.heap.size) (hB2 : B2 ≤ w.heap.size) :
    Calls Tryd.prog 50 #[.slice A n c, .slice A2 n2 c2, .func (.func 49) #[] #[]] w fun e w' => (∃ r, e = .returned (.bool r) ∧ (r = true ↔ namesA l = namesA l2)) ∧ Below w.heap.size w w' := by
  have hn1 := h1.small
  have hc1 := h1.hc
  have hc2 := h2.hc
  have HN1 := Lib.hid h1.hn
  have HN2 := Lib.hid h2.hn
  have HBB : Hid (B ≤ w.heap.size ∧ B2 ≤ w.heap.size) := ⟨hB, hB2⟩
  have H1 := Lib.hid h1
  have H2 := Lib.hid h2
  clear hB hB2 h1 h2
  by_cases hnn0 : n = n2
  · subst hnn0
    have hnn : ((n : Int) != (n : Int)) = false := by simp
    go_enter Tryd.func50, Tryd.ntmps50
    go_upto_region 4 with fail
    go_loopw [17] (fun s wr => ∃ j : Nat, j ≤ n ∧ s = .int .i64 (j : Int) ∧ Hid (Below w.heap.size w wr) ∧ Hid (namesA (l.take j) = namesA (l2.take j))) (fun s _ => n - (intOf s).toNat)
    case atStart => exact ⟨0, Nat.zero_le _, rfl, Lib.hid (Below.refl _ _), Lib.hid rfl⟩
    case round =>
      obtain ⟨j, hj, rfl, HB, HT⟩ := hrel
      by_cases hlt : j < n
      · obtain ⟨a, ha⟩ : ∃ a, l[j]? = some a := get_some (by have := HN1.out; omega)
        obtain ⟨b, hb⟩ : ∃ b, l2[j]? = some b := get_some (by have := HN2.out; omega)
        obtain ⟨g, o, rfl, _, s0, s1, _, _⟩ := da_get (H1.out.below HB.out HBB.out.1) ha
        obtain ⟨g2, o2, rfl, _, t0, t1, _, _⟩ := da_get (H2.out.below HB.out HBB.out.2) hb
        have j1 : (0 : Int) ≤ (j : Int) := by omega
        have j2 : (j : Int) < (n : Int) := by omega
        have HST := Lib.hid (names_take HT.out ha hb)
        have HW := Lib.hid (fun W => nameEq_any a b W)
        obtain ⟨w3, hw3⟩ : ∃ w3, w3 = wr.alloc (.cells #[.string a.1, .string a.2] 37) := ⟨_, rfl⟩
        have hb3 : Below wr.heap.size wr w3 := by rw [hw3]; exact (Below.refl _ _).alloc (Nat.le_refl _) _
        have hx3 : w3.heap[wr.heap.size]? = some (.cells #[.string a.1, .string a.2] 37 (0, 0)) := by rw [hw3]; exact heap_alloc_new wr _
        have z3 : w3.heap.size = wr.heap.size + 1 := by rw [hw3]; exact World.size_alloc wr _
        have u0 := cell_be t0 hb3
        have u1 := cell_be t1 hb3
        have HX3 := Lib.hid hx3
        have HB3 := Lib.hid hb3
        have HZ3 := Lib.hid z3
        clear ha hb hx3 hb3 z3
        go_upto_region 6 with fail
        rw [← hw3]
        clear hw3
        obtain ⟨w4, hw4⟩ : ∃ w4, w4 = w3.alloc (.cells #[.string b.1, .string b.2] 37) := ⟨_, rfl⟩
        have hb4 : Below w3.heap.size w3 w4 := by rw [hw4]; exact (Below.refl _ _).alloc (Nat.le_refl _) _
        have hx4 : w4.heap[w3.heap.size]? = some (.cells #[.string b.1, .string b.2] 37 (0, 0)) := by rw [hw4]; exact heap_alloc_new w3 _
        have hy4 := (hb4.block wr.heap.size (by have := HZ3.out; omega)).trans HX3.out
        have v0 := cell_blk (i := 0) hy4 rfl
        have v1 := cell_blk (i := 1) hy4 rfl
        have v2 := cell_blk (i := 0) hx4 rfl
        have v3 := cell_blk (i := 1) hx4 rfl
        have HB4 := Lib.hid (bst HB.out (bst HB3.out hb4))
        clear s0 s1 t0 t1 hx4 hy4 hb4
        go_upto_region 7 with fail
        rw [← hw4]
        clear hw4 u0 u1
        by_cases he : a.1 = b.1
        · have hf := beq_str he
          have HT2 := Lib.hid (HST.out.2 he)
          clear he
          go_wp2_with (go_at_call 49; refine (HW.out _).mono ?_; rintro e w5 ⟨rfl, hb5⟩; rw [hf])
          go_roundw
          case rel => exact ⟨j + 1, by omega, by go_num, Lib.hid (bst HB4.out hb5), HT2⟩
          case measure => simp [intOf]; omega
        · have hf := bne_str he
          have HT2 := Lib.hid (fun h => he (HST.out.1 h))
          have HJ : Hid (namesA l = namesA l2 → namesA (l.take (j + 1)) = namesA (l2.take (j + 1))) := fun h => by
            unfold namesA at h ⊢
            rw [List.map_take, List.map_take, h]
          clear he
          go_wp2_with (go_at_call 49; refine (HW.out _).mono ?_; rintro e w5 ⟨rfl, hb5⟩; rw [hf])
          go_ret
          exact ⟨⟨false, rfl, no_like fun h => HT2.out (HJ.out h)⟩, bst HB4.out hb5⟩
      · obtain rfl : n = j := by omega
        go_wp2_with fail
        go_ret
        refine ⟨⟨true, rfl, ⟨fun _ => ?_, fun _ => rfl⟩⟩, HB.out⟩
        have := HT.out
        rw [show n = l.length from HN1.out, List.take_length] at this
        rw [this, ← show n = l.length from HN1.out, show n = l2.length from HN2.out, List.take_length]
  · have hnn : ((n : Int) != (n2 : Int)) = true := by
      rw [bne_iff_ne]
      omega
    have HNE : Hid (namesA l ≠ namesA l2) := fun h => hnn0 (by
      have := congrArg List.length h
      unfold namesA at this
      rw [List.length_map, List.length_map] at this
      rw [show n = l.length from HN1.out, show n2 = l2.length from HN2.out, this])
    clear hnn0
    go_enter Tryd.func50, Tryd.ntmps50
    go_wp2_with fail
    go_ret
    exact ⟨⟨false, rfl, no_like HNE.out⟩, Below.refl _ _⟩
theorem in_take {l : List DAttr} {a : DAttr} {j : Nat} {b : DAttr} (hb : l[j]? = some b) : a ∈ l.take (j + 1) ↔ a ∈ l.take j ∨ a = b := by
  rw [take_snoc hb, List.mem_append, List.mem_singleton]
set_option maxRecDepth 100000 in
set_option maxHeartbeats 2000000 in
/-- slices.Contains of an attribute. -/
theorem inA_any (A : Option Addr) (n c : Nat) (l : List DAttr) (a : DAttr) (w : World) (B : Nat) (hl : Sl tDA w (lt B) A n c l) (hB : B ≤ w.heap.size) :
    Calls Tryd.prog 51 #[.slice A n c, .agg #[.string a.1, .string a.2]] w fun e w' => e = .returned (.bool (inA l a)) ∧ Below w.heap.size w w' := by
  have hidx : ∀ (u : World) (hu : Below w.heap.size w u), Calls Tryd.prog 69 #[.slice A n c, .agg #[.string a.1, .string a.2]] u fun e w' => (∃ i : Int, e = .returned (.int .i64 i) ∧ (0 ≤ i ↔ a ∈ l)) ∧ Below u.heap.size u w' := by
    intro u hu
    obtain ⟨w0, hw0⟩ : ∃ w0, w0 = u.alloc (.cells #[.string a.1, .string a.2] 37) := ⟨_, rfl⟩
    have hb0 : Below u.heap.size u w0 := by rw [hw0]; exact (Below.refl _ _).alloc (Nat.le_refl _) _
    have hx0 : w0.heap[u.heap.size]? = some (.cells #[.string a.1, .string a.2] 37 (0, 0)) := by rw [hw0]; exact heap_alloc_new u _
    have HL := Lib.hid ((hl.below hu hB).below hb0 (Nat.le_trans hB hu.size))
    have HBS : Hid (B ≤ w0.heap.size) := Nat.le_trans (Nat.le_trans hB hu.size) hb0.size
    have HN := Lib.hid hl.hn
    have hn1 := hl.small
    have HX0 := Lib.hid hx0
    have HB0 := Lib.hid hb0
    have hux : u.heap.size < w0.heap.size := (Array.getElem?_eq_some_iff.1 hx0).1
    clear hb0 hx0 hl hB hu
    go_enter Tryd.func69, Tryd.ntmps69
    go_upto_region 2 with fail
    rw [← hw0]
    clear hw0
    go_loopw [8] (fun s wr => ∃ j : Nat, j ≤ n ∧ s = .int .i64 (j : Int) ∧ Hid (Below w0.heap.size w0 wr) ∧ Hid (a ∉ l.take j)) (fun s _ => n - (intOf s).toNat)
    case atStart => exact ⟨0, Nat.zero_le _, rfl, Lib.hid (Below.refl _ _), Lib.hid (by simp)⟩
    case round =>
      obtain ⟨j, hj, rfl, HB, HT⟩ := hrel
      by_cases hlt : j < n
      · obtain ⟨b, hb⟩ : ∃ b, l[j]? = some b := get_some (by have := HN.out; omega)
        obtain ⟨g, o, rfl, _, s0, s1, _, _⟩ := da_get (HL.out.below HB.out HBS.out) hb
        have hx := (HB.out.block u.heap.size hux).trans HX0.out
        have v0 := cell_blk (i := 0) hx rfl
        have v1 := cell_blk (i := 1) hx rfl
        have j1 : (0 : Int) ≤ (j : Int) := by omega
        have j2 : (j : Int) < (n : Int) := by omega
        have HIT := Lib.hid (in_take (a := a) hb)
        have HMB := Lib.hid (List.mem_of_getElem? hb)
        clear hb hx
        by_cases he1 : a.1 = b.1
        · by_cases he2 : a.2 = b.2
          · have f1 := beq_str he1
            have f2 := beq_str he2
            have HE : Hid (a = b) := Prod.ext he1 he2
            clear he1 he2
            go_upto_region 4 with fail
            go_quiet (fail)
            generalize hwz : wr.drewN _ = wz
            have HBZ := Lib.hid (show Below w0.heap.size w0 wz from by rw [← hwz]; exact below_dN HB.out _)
            clear hwz
            go_wp2_with fail
            go_ret
            exact ⟨⟨(j : Int), rfl, ⟨fun _ => by rw [HE.out]; exact HMB.out, fun _ => j1⟩⟩, HB0.out.trans (HBZ.out.mono HB0.out.size)⟩
          · have f1 := beq_str he1
            have f2 := bne_str he2
            have HT2 : Hid (a ∉ l.take (j + 1)) := fun h => (HIT.out.1 h).elim HT.out fun e => he2 (by rw [e])
            clear he1 he2
            go_upto_region 4 with fail
            go_quiet (fail)
            generalize hwz : wr.drewN _ = wz
            have HBZ := Lib.hid (show Below w0.heap.size w0 wz from by rw [← hwz]; exact below_dN HB.out _)
            clear hwz
            go_wp2_with fail
            go_roundw
            case rel => exact ⟨j + 1, by omega, by go_num, HBZ, HT2⟩
            case measure => simp [intOf]; omega
        · have f1 := bne_str he1
          have HT2 : Hid (a ∉ l.take (j + 1)) := fun h => (HIT.out.1 h).elim HT.out fun e => he1 (by rw [e])
          clear he1
          go_upto_region 4 with fail
          go_quiet (fail)
          generalize hwz : wr.drewN _ = wz
          have HBZ := Lib.hid (show Below w0.heap.size w0 wz from by rw [← hwz]; exact below_dN HB.out _)
          clear hwz
          go_wp2_with fail
          go_roundw
          case rel => exact ⟨j + 1, by omega, by go_num, HBZ, HT2⟩
          case measure => simp [intOf]; omega
      · obtain rfl : n = j := by omega
        have HT2 : Hid (a ∉ l) := by
          have := HT.out
          rw [show n = l.length from HN.out, List.take_length] at this
          exact this
        go_wp2_with fail
        go_ret
        exact ⟨⟨-1, rfl, ⟨fun h => absurd h (by decide), fun h => absurd h HT2.out⟩⟩, HB0.out.trans (HB.out.mono HB0.out.size)⟩
  obtain ⟨w0, hw0⟩ : ∃ w0, w0 = w.alloc (.cells #[.string a.1, .string a.2] 37) := ⟨_, rfl⟩
  have hb0 : Below w.heap.size w w0 := by rw [hw0]; exact (Below.refl _ _).alloc (Nat.le_refl _) _
  have hx0 : w0.heap[w.heap.size]? = some (.cells #[.string a.1, .string a.2] 37 (0, 0)) := by rw [hw0]; exact heap_alloc_new w _
  have HI := Lib.hid (hidx w0 hb0)
  have HB0 := Lib.hid hb0
  have v0 := cell_blk (i := 0) hx0 rfl
  have v1 := cell_blk (i := 1) hx0 rfl
  clear hidx hl hB hb0 hx0
  go_enter Tryd.func51, Tryd.ntmps51
  go_upto_region 1 with fail
  rw [← hw0]
  clear hw0
  go_wp2_with (go_at_call 69; refine HI.out.mono ?_; rintro e w1 ⟨⟨i, rfl, hi⟩, hb1⟩; have HII := Lib.hid hi; clear hi)
  go_ret
  refine ⟨?_, HB0.out.trans (hb1.mono HB0.out.size)⟩
  have : decide (0 ≤ i) = inA l a := by
    rw [Bool.eq_iff_iff, decide_eq_true_eq, in_iff]
    exact HII.out
  rw [← this]
  rfl
end Go.Proofs.YtomleengbnfikaaDoor
