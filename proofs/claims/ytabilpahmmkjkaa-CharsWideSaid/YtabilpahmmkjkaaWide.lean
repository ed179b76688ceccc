/-
The walks of CharsWide: From at two bytes a sign; the closure that writes them.
-/
import Derived.Test.YtabilpahmmkjkaaPaired
import Derived.Laws.BytesArg
import Derived.Deep.DeepCutAuto
namespace Go.Proofs.Ytabilpahmmkjkaa
open Go.RowKit Go.Cl

theorem i32_join8 (x y : Int) (h0 : 0 ≤ x) (h1 : x < 256) (h2 : 0 ≤ y) (h3 : y < 256) : unitN x y = x * 256 + y :=
  bits_join .i32 31 (by decide) wraps_i32 8 (x * 256) y (by omega) (by omega) (by omega) h2 (by omega) (by omega)
theorem unit_eq (a b : UInt8) : unitN a.toNat b.toNat = (a.toNat : Int) * 256 + b.toNat := by
  have := a.toNat_lt
  have := b.toNat_lt
  exact i32_join8 _ _ (by omega) (by omega) (by omega) (by omega)
theorem units_range (h : Nat) (l : List UInt8) : ∀ x ∈ unitsL h l, 0 ≤ x ∧ x ≤ 65535 := by
  fun_induction unitsL h l with
  | case1 a b r ih =>
    intro x hx
    have := a.toNat_lt
    have := b.toNat_lt
    rw [List.mem_cons] at hx
    rcases hx with rfl | hx
    · split
      · rw [unit_eq]; omega
      · rw [unit_eq]; omega
    · exact ih x hx
  | case2 l hl => intro x hx; cases hx
theorem units_len (h : Nat) (l : List UInt8) : (unitsL h l).length ≤ l.length := by
  fun_induction unitsL h l with
  | case1 a b r ih => simp only [List.length_cons]; omega
  | case2 l hl => exact Nat.zero_le _
theorem paired_len (l : List Int) : (pairedL l).length ≤ l.length := by
  fun_induction pairedL l with
  | case1 a b r hp ih => simp only [List.length_cons]; omega
  | case2 a b r hp ih => simp only [List.length_cons] at *; omega
  | case3 a => exact Nat.le_refl _
  | case4 => exact Nat.le_refl _

set_option maxRecDepth 100000 in
theorem from_2 (s : ByteArray) (w : World) (hs : s.size ≤ 4000) (h2 : s.size % 2 = 0) :
    Calls Try.prog 27 #[.string s, .int .i64 2] w fun e w' => e = .returned (.tuple #[.string ⟨(encB (pairedL (unitsL 0 s.data.toList))).toArray⟩, .int .i64 0]) ∧ Below w.heap.size w w' := by
  have HU := Lib.hid (fun W => units_0 s W (by omega))
  have HR := Lib.hid (units_range 0 s.data.toList)
  have HN := Lib.hid (show (unitsL 0 s.data.toList).length ≤ 4000 from Nat.le_trans (units_len _ _) (by simpa using hs))
  have hm : (s.size : Int) % 2 = 0 := by omega
  have hm2 : ((s.size : Int) % 2 == 1) = false := by rw [hm]; rfl
  have HM := Lib.hid hm
  clear hm
  go_enter Try.func27, Try.ntmps27
  go_wp2_with fail
  refine (HU.out _).mono ?_
  rintro e w1 ⟨v, l, rfl, el, hown, hb1⟩
  have EL := Lib.hid el
  have hll : l.length ≤ 4000 := by rw [el]; exact HN.out
  clear el
  obtain ⟨A, c, rfl, hsl⟩ := OwnF.sl hown (by decide) (by show l.length * 4 ≤ _; omega)
  have HP := Lib.hid (paired_any A l.length c l w1 w1.heap.size hsl (Nat.le_refl _) (by rw [EL.out]; exact HR.out) (by omega))
  have hz1 := hb1.size
  clear hown hsl
  go_wp2_with fail
  refine HP.out.mono ?_
  rintro e w2 ⟨v, m, rfl, em, hown, hb2⟩
  have hml : m.length ≤ 4000 := by rw [em]; exact Nat.le_trans (paired_len _) hll
  have EM := Lib.hid em
  clear em
  obtain ⟨A2, c2, rfl, hsl⟩ := OwnF.sl hown (by decide) (by show m.length * 4 ≤ _; omega)
  have HE := Lib.hid (encode_any A2 m.length c2 m w2 w2.heap.size hsl (Nat.le_refl _))
  have hz2 := hb2.size
  clear hown hsl
  go_wp2_with fail
  refine HE.out.mono ?_
  rintro e w3 ⟨rfl, hb3⟩
  go_wp2_with fail
  go_ret2
  exact ⟨by rw [EM.out, EL.out]; rfl, (hb1.trans (hb2.mono hz1)).trans (hb3.mono (by omega))⟩

set_option maxRecDepth 100000 in
theorem from_3 (s : ByteArray) (w : World) (hs : s.size ≤ 4000) (h2 : s.size % 2 = 0) :
    Calls Try.prog 27 #[.string s, .int .i64 3] w fun e w' => e = .returned (.tuple #[.string ⟨(encB (pairedL (unitsL 1 s.data.toList))).toArray⟩, .int .i64 0]) ∧ Below w.heap.size w w' := by
  have HU := Lib.hid (fun W => units_1 s W (by omega))
  have HR := Lib.hid (units_range 1 s.data.toList)
  have HN := Lib.hid (show (unitsL 1 s.data.toList).length ≤ 4000 from Nat.le_trans (units_len _ _) (by simpa using hs))
  have hm : (s.size : Int) % 2 = 0 := by omega
  have hm2 : ((s.size : Int) % 2 == 1) = false := by rw [hm]; rfl
  have HM := Lib.hid hm
  clear hm
  go_enter Try.func27, Try.ntmps27
  go_wp2_with fail
  refine (HU.out _).mono ?_
  rintro e w1 ⟨v, l, rfl, el, hown, hb1⟩
  have EL := Lib.hid el
  have hll : l.length ≤ 4000 := by rw [el]; exact HN.out
  clear el
  obtain ⟨A, c, rfl, hsl⟩ := OwnF.sl hown (by decide) (by show l.length * 4 ≤ _; omega)
  have HP := Lib.hid (paired_any A l.length c l w1 w1.heap.size hsl (Nat.le_refl _) (by rw [EL.out]; exact HR.out) (by omega))
  have hz1 := hb1.size
  clear hown hsl
  go_wp2_with fail
  refine HP.out.mono ?_
  rintro e w2 ⟨v, m, rfl, em, hown, hb2⟩
  have hml : m.length ≤ 4000 := by rw [em]; exact Nat.le_trans (paired_len _) hll
  have EM := Lib.hid em
  clear em
  obtain ⟨A2, c2, rfl, hsl⟩ := OwnF.sl hown (by decide) (by show m.length * 4 ≤ _; omega)
  have HE := Lib.hid (encode_any A2 m.length c2 m w2 w2.heap.size hsl (Nat.le_refl _))
  have hz2 := hb2.size
  clear hown hsl
  go_wp2_with fail
  refine HE.out.mono ?_
  rintro e w3 ⟨rfl, hb3⟩
  go_wp2_with fail
  go_ret2
  exact ⟨by rw [EM.out, EL.out]; rfl, (hb1.trans (hb2.mono hz1)).trans (hb3.mono (by omega))⟩


theorem elemByte : ElemOf Try.prog 54 5 1 1 := mkElem Try.underlying54 (by kernel_rfl) (z := .int .u8 0) rfl (by decide)
theorem flatInt (k : IntKind) : Flat (tInt k) := fun h => h
/-- A variable that the call made, and the bytes in it. -/
def BytesIn (w : World) (base b : Nat) (v : Value) (l : List Int) : Prop := base ≤ b ∧ w.heap[b]? = some (.cells #[v] 54 (0, 0)) ∧ OwnF (tInt .u8) w base 5 v l.length l
theorem BytesIn.block {w : World} {base b : Nat} {v : Value} {l : List Int} (h : BytesIn w base b v l) : b < w.heap.size := (Array.getElem?_eq_some_iff.1 h.2.1).1
/-- What such a row owns is no variable. -/
theorem own_ne {w : World} {base b n : Nat} {v u : Value} {l : List Int} (h : OwnF (tInt .u8) w base 5 v n l) (hb : w.heap[b]? = some (.cells #[u] 54 (0, 0))) : v.ownBlock = none ∨ v.ownBlock ≠ some b := by
  obtain ⟨cs, h1, _⟩ := h
  rcases h1.2 with ⟨rfl, _⟩ | ⟨g, cap, cur, rfl, _, hc, _⟩
  · exact Or.inl rfl
  · refine Or.inr fun e => ?_
    simp only [Value.ownBlock, Option.some.injEq] at e
    subst e
    rw [hb] at hc
    have := Option.some.inj hc
    injection this with _ h2
    exact absurd h2 (by decide)
theorem own_kept {w w' : World} {base n : Nat} {v : Value} {l : List Int} {row : Option Nat} (h : OwnF (tInt .u8) w base 5 v n l) (hg : w.grownBy w' row) (hne : v.ownBlock = none ∨ v.ownBlock ≠ row) : OwnF (tInt .u8) w' base 5 v n l :=
  Own.kept h hg hne fun _ h => h.elim
theorem grown_set (w : World) (b i : Nat) (v : Value) : w.grownBy (w.setCell ⟨b, i, none⟩ v) (some b) :=
  ⟨rfl, rfl, rfl, by simp [World.setCell], fun k _ hk => Below.heap_setCell w ⟨b, i, none⟩ v k (fun e => hk (by rw [show k = b from e]))⟩
theorem box_grown {w w2 : World} {base b : Nat} {v : Value} {l : List Int} {o : Obj} (h : BytesIn w base b v l) (hg : (w.alloc o).grownBy w2 v.ownBlock) : w2.heap[b]? = some (.cells #[v] 54 (0, 0)) := by
  have hlt := h.block
  have hne := own_ne h.2.2 h.2.1
  have h3 : some b ≠ v.ownBlock := fun e => by
    rcases hne with hn | hn
    · rw [hn] at e; cases e
    · exact hn e.symm
  rw [hg.block b (by rw [World.size_alloc]; omega) h3]
  exact (Lib.alloc_old w o b hlt).trans h.2.1
/-- Two bytes put behind, and back into the variable. -/
theorem put_one {w w2 : World} {base b : Nat} {v v2 : Value} {l l2 : List Int} {o : Obj} (h : BytesIn w base b v l) (hg : (w.alloc o).grownBy w2 v.ownBlock) (hown : OwnF (tInt .u8) w2 base 5 v2 l2.length l2) :
    BytesIn (w2.setCell ⟨b, 0, none⟩ v2) base b v2 l2 := by
  have e1 := box_grown h hg
  refine ⟨h.1, by rw [set_blk e1]; rfl, own_kept hown (grown_set w2 b 0 v2) (own_ne hown e1)⟩
/-- The other variable is as it was. -/
theorem put_other {w w2 : World} {base b c : Nat} {v u x : Value} {l : List Int} {o : Obj} (h : BytesIn w base c u l) (hg : (w.alloc o).grownBy w2 v.ownBlock) (hne : b ≠ c) (hvu : u.ownBlock = none ∨ u.ownBlock ≠ v.ownBlock) (hvc : v.ownBlock ≠ some c) (hbu : u.ownBlock = none ∨ u.ownBlock ≠ some b) :
    BytesIn (w2.setCell ⟨b, 0, none⟩ x) base c u l := by
  have hlt := h.block
  have e1 : w2.heap[c]? = some (.cells #[u] 54 (0, 0)) := by
    rw [hg.block c (by rw [World.size_alloc]; omega) (fun e => hvc e.symm)]
    exact (Lib.alloc_old w o c hlt).trans h.2.1
  refine ⟨h.1, ?_, own_kept (own_kept (OwnF.al h.2.2 o) hg hvu) (grown_set w2 b 0 x) hbu⟩
  rw [Below.heap_setCell w2 ⟨b, 0, none⟩ x c (fun e => hne e.symm)]
  exact e1

theorem wf_u8 {x : Int} (h0 : 0 ≤ x) (h1 : x ≤ 255) : (Lit.int .u8 x).wf = true := by
  have h1 : IntKind.u8.min = 0 := by decide
  have h2 : IntKind.u8.max = 255 := by decide
  simp [Lit.wf, h1, h2]
  omega
theorem two_new (w : World) (a b : Int) (ha : 0 ≤ a ∧ a ≤ 255) (hb : 0 ≤ b ∧ b ≤ 255) : Sl (tInt .u8) (w.alloc (.cells #[.int .u8 a, .int .u8 b] 5)) (lt (w.heap.size + 1)) (some ⟨w.heap.size, 0, none⟩) 2 2 [a, b] :=
  Sl.fresh (T := tInt .u8) (B := w.heap.size) (cells := [.int .u8 a, .int .u8 b]) 5 ⟨[_], [_], rfl, ⟨rfl, wf_u8 ha.1 ha.2⟩, [_], [], rfl, ⟨rfl, wf_u8 hb.1 hb.2⟩, rfl⟩ (Nat.le_refl _) rfl (by decide)
theorem apart_of {w : World} {v v' u : Value} {base n : Nat} {l : List Int} (hu : OwnF (tInt .u8) w base 5 u n l) (h : v'.ownBlock = v.ownBlock ∨ v'.ownBlock = some w.heap.size) (hvu : u.ownBlock = none ∨ u.ownBlock ≠ v.ownBlock) : u.ownBlock = none ∨ u.ownBlock ≠ v'.ownBlock := by
  rcases hvu with h0 | h0
  · exact Or.inl h0
  · rcases h with h1 | h1
    · exact Or.inr (by rw [h1]; exact h0)
    · refine Or.inr fun e => ?_
      rw [h1] at e
      have := (Own.lt hu _ e).2
      omega

set_option maxRecDepth 100000 in
theorem put_any (n : Int) (hn : 0 ≤ n ∧ n ≤ 65535) (base b1 b2 : Nat) (v1 v2 : Value) (l1 l2 : List Int) (w : World) (h1 : BytesIn w base b1 v1 l1) (h2 : BytesIn w base b2 v2 l2) (hne : b1 ≠ b2) (hap : v2.ownBlock = none ∨ v2.ownBlock ≠ v1.ownBlock) (hl1 : l1.length ≤ 100000) (hl2 : l2.length ≤ 100000) :
    Calls Try.prog 25 #[.int .i32 n, .pointer (some ⟨b1, 0, none⟩), .pointer (some ⟨b2, 0, none⟩)] w fun e w' => e = .returned (.tuple #[]) ∧ ∃ u1 u2, BytesIn w' base b1 u1 (l1 ++ [n / 256, n % 256]) ∧ BytesIn w' base b2 u2 (l2 ++ [n % 256, n / 256]) ∧ (u2.ownBlock = none ∨ u2.ownBlock ≠ u1.ownBlock) ∧ Below base w w' := by
  have k1 : w.cell? ⟨b1, 0, none⟩ = some v1 := cell_blk h1.2.1 rfl
  have k2 : w.cell? ⟨b2, 0, none⟩ = some v2 := cell_blk h2.2.1 rfl
  have c1 : IntKind.u8.wrap (n / 256) = n / 256 := IntWalk.u8_in _ (by omega)
  have c2 : IntKind.u8.wrap n = n % 256 := IntKind.wrap_u8 n
  have t1 := two_new w (n / 256) (n % 256) (by omega) (by omega)
  have hz := h1.block
  have hz0 := h1.1
  have hz2 := h2.1
  go_enter Try.func25, Try.ntmps25
  have hvc : v1.ownBlock ≠ some b2 := by
    rcases own_ne h1.2.2 h2.2.1 with h | h
    · rw [h]; exact fun e => by cases e
    · exact h
  go_upto_region 1 with (at_builtin; refine wpList_apf _ (flatInt _) rfl (.tmp 4) (.tmp 10) 54 rfl elemByte (v := v1) rfl (OwnF.al h1.2.2 _) rfl t1 (by omega) (by omega) (by rw [World.size_alloc]; omega) ?_; intro x1 w1 hx1 hg1 hbl1 hbo1; obtain ⟨A1, a1, rfl⟩ := Own.form hx1; have hx1' : OwnF (tInt .u8) w1 base 5 (.slice A1 (l1.length + 2) a1) (l1 ++ [n / 256, n % 256]).length (l1 ++ [n / 256, n % 256]) := (by rw [List.length_append]; exact hx1); have hB1 := Lib.hid (put_one h1 hg1 hx1'); have hB2 := Lib.hid (put_other (x := .slice A1 (l1.length + 2) a1) h2 hg1 hne hap hvc (own_ne h2.2.2 h1.2.1)); have hAp := Lib.hid (apart_of (OwnF.al h2.2.2 _) hbo1 hap); have hBl := Lib.hid (((Below.refl base w).alloc (by omega) _).trans hbl1); have e1 := box_grown h1 hg1; have d1 : w1.cell? ⟨b1, 0, none⟩ = some v1 := cell_blk e1 rfl; have f1 : w1.frozen? ⟨b1, 0, none⟩ = false := free_blk e1; clear hx1 hx1' hg1 hbl1 hbo1 e1)
  obtain ⟨W, hW⟩ : ∃ W, W = w1.setCell ⟨b1, 0, none⟩ (.slice A1 (l1.length + 2) a1) := ⟨_, rfl⟩
  have g1 : BytesIn W base b1 (.slice A1 (l1.length + 2) a1) (l1 ++ [n / 256, n % 256]) := by rw [hW]; exact hB1.out
  have g2 : BytesIn W base b2 v2 l2 := by rw [hW]; exact hB2.out
  have hbW : Below base w W := by rw [hW]; exact hBl.out.setCell (p := ⟨b1, 0, none⟩) hz0 _
  rw [← hW]
  have HbW := Lib.hid hbW
  have t2 := two_new W (n % 256) (n / 256) (by omega) (by omega)
  have hzW := g1.block
  have k3 : W.cell? ⟨b2, 0, none⟩ = some v2 := cell_blk g2.2.1 rfl
  have hvc2 : v2.ownBlock ≠ some b1 := by
    rcases own_ne g2.2.2 g1.2.1 with h | h
    · rw [h]; exact fun e => by cases e
    · exact h
  have hap2 : (Value.slice A1 (l1.length + 2) a1).ownBlock = none ∨ (Value.slice A1 (l1.length + 2) a1).ownBlock ≠ v2.ownBlock := by
    rcases hAp.out with h | h
    · by_cases h0 : (Value.slice A1 (l1.length + 2) a1).ownBlock = none
      · exact Or.inl h0
      · exact Or.inr (by rw [h]; exact h0)
    · exact Or.inr fun e => h e.symm
  clear hW hB1 hB2 hBl hAp hbW d1 f1 k1 k2 t1
  go_wp2_with (at_builtin; refine wpList_apf _ (flatInt _) rfl (.tmp 12) (.tmp 18) 54 rfl elemByte (v := v2) rfl (OwnF.al g2.2.2 _) rfl t2 (by omega) (by omega) (by rw [World.size_alloc]; omega) ?_; intro x2 w2 hx2 hg2 hbl2 hbo2; obtain ⟨A2, a2, rfl⟩ := Own.form hx2; have hx2' : OwnF (tInt .u8) w2 base 5 (.slice A2 (l2.length + 2) a2) (l2 ++ [n % 256, n / 256]).length (l2 ++ [n % 256, n / 256]) := (by rw [List.length_append]; exact hx2); have hB2 := Lib.hid (put_one g2 hg2 hx2'); have hB1 := Lib.hid (put_other (x := .slice A2 (l2.length + 2) a2) g1 hg2 (Ne.symm hne) hap2 hvc2 (own_ne g1.2.2 g2.2.1)); have hAp := Lib.hid (apart_of (OwnF.al g1.2.2 _) hbo2 hap2); have hBl := Lib.hid (((Below.refl base W).alloc (by omega) _).trans hbl2); have e2 := box_grown g2 hg2; have d2 : w2.cell? ⟨b2, 0, none⟩ = some v2 := cell_blk e2 rfl; have f2 : w2.frozen? ⟨b2, 0, none⟩ = false := free_blk e2; clear hx2 hx2' hg2 hbl2 hbo2 e2)
  go_end0
  refine ⟨rfl, _, _, hB1.out, hB2.out, ?_, HbW.out.trans (hBl.out.setCell (p := ⟨b2, 0, none⟩) hz2 _)⟩
  rcases hAp.out with h | h
  · by_cases h0 : (Value.slice A2 (l2.length + 2) a2).ownBlock = none
    · exact Or.inl h0
    · exact Or.inr (by rw [h]; exact h0)
  · exact Or.inr fun e => h e.symm
end Go.Proofs.Ytabilpahmmkjkaa
