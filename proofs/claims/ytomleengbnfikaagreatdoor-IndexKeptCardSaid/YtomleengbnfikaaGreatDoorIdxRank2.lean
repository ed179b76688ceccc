/-
The walk of ranked, told with the nodes that it knows.
-/
import Derived.Test.YtomleengbnfikaaGreatDoorIdxOf
namespace Go.Proofs.YtomleengbnfikaaGreatDoor
open Go.RowKit Go.Cl
open Go.Maps (Keyed IsMap int_keyed keyOf_int_mk)
attribute [local go_sem ↓] Go.wp_at_zero Go.wp_at_succ

/-- .. and which nodes it knows. -/
def RkN2 (w : World) (M k : Nat) (rk : Int → Int) (xs : List Int) : Prop := ∃ X, w.ownsMap Tryz.prog 3 mpE M k X ∧ (∀ n : Int, X.atKey (.int .i64 n) (.lit (.int .i64 0)) = .lit (.int .i64 (rk n))) ∧ ∀ n : Int, Go.Maps.has X (.int .i64 n) = decide (n ∈ xs)
def RkHas (w : World) (M : Nat) (rk : Int → Int) (xs : List Int) : Prop := ∃ im, RkN2 w M im rk xs
set_option maxRecDepth 100000 in
theorem ranked2_any (A : Option Addr) (n c : Nat) (xs : List Int) (w : World) (B : Nat) (hl : Sl (tInt .i64) w (lt B) A n c xs) (hB : B ≤ w.heap.size) (hn : n ≤ 100000) :
    Calls Tryz.prog 12 #[.slice A n c] w fun e w' => ∃ M, e = .returned (.map (some M)) ∧ RkHas w' M (rkF xs xs.length) xs ∧ w.heap.size ≤ M ∧ Below w.heap.size w w' := by
  have hmm := @run_makeMap Tryz.prog
  have HL := Lib.hid hl.hn
  have HS := Lib.hid hl
  have HBW : Hid (B ≤ w.heap.size) := hB
  have hm0 : (w.alloc (.map #[] 0)).ownsMap Tryz.prog 3 mpE w.heap.size 0 (.map []) := World.ownsMap_made _ _ _ _
  have HM0 := Lib.hid (show RkN2 (w.alloc (.map #[] 0)) w.heap.size 0 (rkF xs 0) (xs.take 0) from ⟨_, hm0, fun _ => rfl, fun _ => by rw [List.take_zero]; rfl⟩)
  clear hm0 hl hB
  go_enter Tryz.func12, Tryz.ntmps12
  go_wp2_with fail
  go_loopw [9] (fun s wr => ∃ k : Nat, k ≤ n ∧ s = .int .i64 (k : Int) ∧ Hid (RkN2 wr w.heap.size k (rkF xs k) (xs.take k)) ∧ Below w.heap.size w wr) (fun s _ => n - (intOf s).toNat)
  case atStart => exact ⟨0, Nat.zero_le _, rfl, HM0, (Below.refl _ _).alloc (Nat.le_refl _) _⟩
  case round =>
    obtain ⟨k, hk, rfl, HM, hb⟩ := hrel
    by_cases hlt : k < n
    · obtain ⟨x, hx⟩ : ∃ x, xs[k]? = some x := get_some (by have := HL.out; omega)
      obtain ⟨b, o, rfl, _, c1, hwf⟩ := (HS.out.below hb HBW.out).int hx
      obtain ⟨X, ho, hX, hH⟩ := HM.out
      have HO := Lib.hid ho
      have HH := Lib.hid hH
      have HX := Lib.hid hX
      have HXK := Lib.hid hx
      have hkey : keyOf Tryz.prog 3 (.int .i64 x) = some (.int .i64 x) := keyOf_int_mk Tryz.underlying3 hwf
      have HKEY := Lib.hid hkey
      have HWK : Hid (Lit.wf (.int .i64 (k : Int)) = true) := WalkArith.wf_i64 (by omega)
      clear ho hX hH hx hwf HM hkey
      go_wp2_with (at_mapUpdate; refine wpList_mapUpdate_own _ rfl _ _ _ 55 rfl 3 3 lawI Tryz.underlying55 mpE w.heap.size k X rfl HO.out (by unfold maxLen; omega) _ _ _ rfl rfl HKEY.out _ [] (plainElem_int Tryz.underlying3 HWK.out) ?_; intro w6 hown6 hgrow6)
      go_roundw
      case rel =>
        refine ⟨k + 1, by omega, by go_num, Lib.hid ⟨_, hown6, fun m => ?_, fun m => ?_⟩, hb.grown hgrow6 hb.size (fun j hj => by cases hj; exact Nat.le_refl _)⟩
        · unfold rkF
          rw [show xs[k]? = some x from HXK.out]
          by_cases e : x = m
          · subst e
            rw [if_pos rfl]
            exact Go.Maps.atKey_put_same HO.out.isMap (by simp [WideAt.IsKeyLit]) _ _
          · rw [if_neg (fun e2 => e (Option.some.inj e2)), Go.Maps.atKey_put_other (by simp only [ne_eq, Lit.int.injEq, true_and]; exact fun e2 => e e2.symm)]
            exact HX.out m
        · rw [take_snoc (show xs[k]? = some x from HXK.out)]
          by_cases e : x = m
          · subst e
            rw [Go.Maps.has_put_same HO.out.isMap (by simp [WideAt.IsKeyLit]) _]
            simp
          · rw [Go.Maps.has_put_other (by simp only [ne_eq, Lit.int.injEq, true_and]; exact fun e2 => e e2.symm), HH.out m]
            rw [Bool.eq_iff_iff, decide_eq_true_eq, decide_eq_true_eq, List.mem_append, List.mem_singleton]
            exact ⟨.inl, fun h => h.resolve_right fun e2 => e e2.symm⟩
      case measure => simp [intOf]; omega
    · obtain rfl : n = k := by omega
      go_wp2_with fail
      go_ret
      obtain ⟨X, ho, hX, hH⟩ := HM.out
      exact ⟨_, rfl, ⟨_, X, ho, by rw [← show n = xs.length from HL.out]; exact hX, fun m => by rw [hH m, show n = xs.length from HL.out, List.take_length]⟩, Nat.le_refl _, hb⟩

theorem RkHas.rk {w : World} {M : Nat} {rk : Int → Int} {xs : List Int} (h : RkHas w M rk xs) : RkAt w M rk := by
  obtain ⟨im, X, h1, h2, _⟩ := h
  exact ⟨im, X, h1, h2⟩
theorem RkHas.block {w w' : World} {M : Nat} {rk : Int → Int} {xs : List Int} (h : RkHas w M rk xs) (hb : w'.heap[M]? = w.heap[M]?) : RkHas w' M rk xs := by
  obtain ⟨im, X, ⟨es, clock, h1, F, hs, hD⟩, hr, hh⟩ := h
  exact ⟨im, X, ⟨es, clock, hb.trans h1, F, hs, hD⟩, hr, hh⟩
theorem RkHas.run {w : World} {M : Nat} {rk : Int → Int} {xs : List Int} (h : RkHas w M rk xs) {n : Int} (hn : (Lit.int .i64 n).wf = true) : ∃ v, (Instr.lookup 55 (.map (some M)) (.int .i64 n) true).run Tryz.prog w = .ok (.tuple #[v, .bool (decide (n ∈ xs))]) w := by
  obtain ⟨im, X, ho, hr, hh⟩ := h
  obtain ⟨v, ps, hrun, _⟩ := ho.look_ok lawI Tryz.underlying55 (zeroI w) (plainElem_int Tryz.underlying3 (by decide)) (keyOf_int_mk Tryz.underlying3 hn)
  rw [hh n] at hrun
  exact ⟨v, hrun⟩
end Go.Proofs.YtomleengbnfikaaGreatDoor
