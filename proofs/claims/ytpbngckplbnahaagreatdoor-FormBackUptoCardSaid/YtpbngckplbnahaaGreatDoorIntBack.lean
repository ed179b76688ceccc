/-
slices.Backward of ints, and the rounds of a range over a function.
-/
import Derived.RangeFuncNested
import Derived.RangeFuncBound
import Derived.RangeFuncCalls
import Derived.RangeFuncLeaves
import Derived.RangeFuncBox
import Derived.Shelf.Abstract
import Derived.Shelf.RegionOpen
import Derived.Sort.CutIn
import Derived.WalkKit
import Derived.OwnWalkIn
import Derived.TacticsInMore
import Derived.LoopNIn
import Derived.LoopIn
import Derived.OpenShut
import Derived.Test.YtpbngckplbnahaaGreatDoorBase
import Derived.Test.YtpbngckplbnahaaGreatDoorShelf
namespace Go.Proofs.YtpbngckplbnahaaGreatDoor
open Go.RowKit Go.Cl Go.Shelf
/-- The loops' records and the deferred calls lie as they lay. -/
def isLD : Obj → Bool
  | .loop _ => true
  | .deferred _ => true
  | _ => false
structure KeepsLD (W W' : World) : Prop where
  size : W.heap.size ≤ W'.heap.size
  same : ∀ (k : Nat) (o : Obj), W.heap[k]? = some o → isLD o = true → W'.heap[k]? = some o
theorem KeepsLD.refl (W : World) : KeepsLD W W := ⟨Nat.le_refl _, fun _ _ h _ => h⟩
theorem KeepsLD.trans {a b c : World} (h : KeepsLD a b) (k : KeepsLD b c) : KeepsLD a c := ⟨Nat.le_trans h.size k.size, fun i o h1 h2 => k.same i o (h.same i o h1 h2) h2⟩
theorem KeepsLD.below {a b : World} (h : Below a.heap.size a b) : KeepsLD a b := ⟨h.size, fun i _ h1 _ => (h.block i (Array.getElem?_eq_some_iff.1 h1).1).trans h1⟩
theorem KeepsLD.grown {a b : World} {row : Option Nat} (h : a.grownBy b row) (hr : ∀ r, row = some r → ∀ o, a.heap[r]? = some o → isLD o = false) : KeepsLD a b := ⟨h.size, fun i o h1 h2 => (h.block i (Array.getElem?_eq_some_iff.1 h1).1 (fun e => by have := hr i e.symm o h1; rw [h2] at this; cases this)).trans h1⟩
section
variable {F : Fence} {n : Nat} {P : Program}
/-- Each of N rounds goes on. -/
theorem wpIn_rounds {g : Operand} {ps : Array Tmp} {assign body : Code} {Q : Exit → Act → World → Prop} {a : Act} {w : World} (hro : F.round = none) (h1 : 1 ≤ n) {gf : Nat} {lb : Array Value}
    (hg : a.eval g = .func (.func gf) #[] lb) (hFg : F.fn gf) (eg : ∀ args w, (callFunc gf args).run P w = .ok (.enter gf args) w)
    (N : Nat) (encs : Nat → Array Value) (hps : ∀ k, (encs k).size = ps.size) (I : Nat → World → Prop) (Ax : Nat → Act → World → Prop)
    (hI : ∀ k, OwnFrom w.heap.size (fun (_ : Unit) W => I k W)) (hAx : ∀ k a', OwnFrom w.heap.size (fun (_ : Unit) W => Ax k a' W)) (h0 : I 0 w)
    (hseq : ∀ (l : Nat) (J : Nat → World → Prop) (W : World), (∀ k W, J k W → I k W) →
      (∀ k W1, k < N → J k W1 → YieldAt F (n - 1 - 1) P l (encs k) W1 fun e W' => e = .returned (.bool true) ∧ J (k + 1) W') → J 0 W →
      CallsIn F (n - 1) P gf (#[.func (.yield l) #[] #[]] ++ lb) W fun e W' => (∃ v, e = .returned v) ∧ J N W')
    (hassign : ∀ (l k : Nat) (W : World) (K : Act → World → Prop), k < N → I k W → (∀ a' W', KeepsOthers W W' → Ax k a' W' → K a' W') →
      assign.wpIn (F.inRound l) (n - 1 - 1) P (Exit.then K (fun _ _ _ => False)) { tmps := (ps.zip (encs k)).foldl (fun t (p, v) => t.setIfInBounds p v) a.tmps, defers := [] } W)
    (hbody : ∀ (l k : Nat) (a' : Act) (W : World), k < N → Ax k a' W → body.wpIn (F.inRound l) (n - 1 - 1) P (fun e _ W' => e = .normal ∧ KeepsLD W W' ∧ I (k + 1) W') a' W)
    (hdone : ∀ (D : Nat) (W : World), w.heap.size ≤ D → I N W → W.heap[D]? = some (.deferred (some [])) → Q .normal { a with defers := { target := .collected D, args := #[] } :: a.defers } W) :
    (Code.rangeFunc g ps assign body).wpIn F n P Q a w := by
  refine wpIn_rangeFunc fun fn hfn => ?_
  rw [hro]
  obtain ⟨s, hs⟩ : ∃ s, s = w.heap.size := ⟨_, rfl⟩
  obtain ⟨r, hr⟩ : ∃ r : LoopState → Loop, r = fun st => { state := st, pending := none, fn, tmps := a.tmps, params := ps, assign, body, defers := s } := ⟨_, rfl⟩
  obtain ⟨w1, hw1⟩ : ∃ w1, w1 = (w.alloc (.deferred (some []))).alloc (.loop (r .ready)) := ⟨_, rfl⟩
  have e1 : w1.heap[s + 1]? = some (.loop (r .ready)) := by
    have := World.alloc_heap_new (w.alloc (.deferred (some []))) (.loop (r .ready))
    rw [World.size_alloc, ← hs, ← hw1] at this
    exact this
  have e2 : w1.heap[s]? = some (.deferred (some [])) := by
    have h2 : (w.alloc (.deferred (some []))).heap[s]? = some (.deferred (some [])) := by rw [hs]; exact World.alloc_heap_new w _
    rw [hw1]
    exact (Below.heap_alloc _ _ _ (Array.getElem?_eq_some_iff.1 h2).1).trans h2
  obtain ⟨J, hJ⟩ : ∃ J : Nat → World → Prop, J = fun k W => I k W ∧ W.heap[s + 1]? = some (.loop (r .ready)) ∧ W.heap[s]? = some (.deferred (some [])) := ⟨_, rfl⟩
  have hnew : ∀ {k : Nat} {W : World} (st o : Loop), I k W → W.heap[s + 1]? = some (.loop o) → I k (W.putObj (s + 1) (.loop st)) := fun {k W} st o h1 h2 =>
    OwnFrom.putObj (s := ()) (hI k) (.loop st) h1 (by omega) h2 rfl
  refine ⟨s + 1, [{ target := .collected s, args := #[] }], w1, { target := .fn (.func gf) lb, args := #[.func (.yield (s + 1)) #[] #[]] }, w1, gf, #[.func (.yield (s + 1)) #[] #[]] ++ lb, w1, ?_, ?_, ?_, ?_, fun _ => h1, ?_⟩
  · rw [hw1, hr, hs]
    exact run_enterLoop_outer _ _ _ _ _
  · simp only [resolve, hg]
    simp [go_sem]
  · intro f' hf'
    simp [Target.leads] at hf'
    rw [← hf']
    exact hFg
  · simp [invoke, go_sem, eg]
  · refine (hseq (s + 1) J w1 (fun k W h => by rw [hJ] at h; exact h.1) ?_ (by rw [hJ, hw1]; exact ⟨OwnFrom.alloc (s := ()) (hI 0) _ (OwnFrom.alloc (s := ()) (hI 0) _ h0), by rw [← hw1]; exact e1, by rw [← hw1]; exact e2⟩)).mono ?_
    · intro k W hk h
      rw [hJ] at h ⊢
      obtain ⟨i1, i2, i3⟩ := h
      have hl : s + 1 < W.heap.size := (Array.getElem?_eq_some_iff.1 i2).1
      have hy := run_yield (P := P) (args := encs k) i2 (by rw [hr]; exact hps k)
      rw [hr] at hy
      refine ⟨fn, _, assign, body, hy, roundIn_of_wpIn hfn (hassign _ k W _ hk i1 fun a' W' hk' hx => ?_)⟩
      have j2 := hk'.same _ _ i2 rfl
      have j3 := hk'.same _ _ i3 rfl
      have hb := run_beginRound (P := P) j2 (by rw [hr])
      refine ⟨_, hb, ?_⟩
      have hl' : s + 1 < W'.heap.size := (Array.getElem?_eq_some_iff.1 j2).1
      have k2 := World.putObj_heap_same (o := Obj.loop { r .ready with state := .busy }) hl'
      have k3 : (W'.putObj (s + 1) (.loop { r .ready with state := .busy })).heap[s]? = some (.deferred (some [])) := (World.putObj_heap_other (by omega)).trans j3
      refine wpIn_mono (hbody _ k a' _ hk (OwnFrom.putObj (s := ()) (hAx k a') _ hx (by omega) j2 rfl)) ?_
      rintro e a3 W3 ⟨rfl, hk3, h3⟩
      have l2 := hk3.same _ _ k2 rfl
      have l3 := hk3.same _ _ k3 rfl
      have he := run_endRound (P := P) none l2
      have hrr : ({ ({ r .ready with state := .busy } : Loop) with state := (if (none : Option Code).isNone then LoopState.ready else .done), pending := none } : Loop) = r .ready := by rw [hr]; rfl
      refine ⟨_, _, he, rfl, hnew _ _ h3 l2, ?_, (World.putObj_heap_other (by omega)).trans l3⟩
      refine (World.putObj_heap_same (Array.getElem?_eq_some_iff.1 l2).1).trans ?_
      rw [hr]
      rfl
    · rintro e W ⟨⟨v, rfl⟩, h⟩
      rw [hJ] at h
      obtain ⟨i1, i2, i3⟩ := h
      have he := run_endLoop (P := P) i2 (by rw [hr]; simp)
      rw [hr] at he
      exact ⟨none, _, he, hdone s _ (by omega) (hnew _ _ i1 i2) ((World.putObj_heap_other (by omega)).trans i3)⟩
end
section
variable {F : Fence} {n : Nat} {P : Program}
theorem wpIn_rounds2 {g : Operand} {ps : Array Tmp} {assign body : Code} {Q : Exit → Act → World → Prop} {a : Act} {w : World} (hro : F.round = none) (h1 : 1 ≤ n) {gf : Nat} {lb : Array Value}
    (hg : a.eval g = .func (.func gf) #[] lb) (hFg : F.fn gf) (eg : ∀ args w, (callFunc gf args).run P w = .ok (.enter gf args) w)
    (N : Nat) (encs : Nat → Array Value) (hps : ∀ k, (encs k).size = ps.size) (I : Nat → World → Prop) (s1 s2 : Nat) (E1 E2 : Nat → Value)
    (hI : ∀ k, OwnFrom w.heap.size (fun (_ : Unit) W => I k W)) (h0 : I 0 w)
    (hseq : ∀ (l : Nat) (J : Nat → World → Prop) (W : World), (∀ k W, J k W → I k W) →
      (∀ k W1, k < N → J k W1 → YieldAt F (n - 1 - 1) P l (encs k) W1 fun e W' => e = .returned (.bool true) ∧ J (k + 1) W') → J 0 W →
      CallsIn F (n - 1) P gf (#[.func (.yield l) #[] #[]] ++ lb) W fun e W' => (∃ v, e = .returned v) ∧ J N W')
    (hassign : ∀ (l k : Nat) (W : World) (K : Act → World → Prop), k < N → I k W → (∀ a' W', KeepsOthers W W' → (I k W' ∧ a' = { tmps := (((ps.zip (encs k)).foldl (fun t (p, v) => t.setIfInBounds p v) a.tmps).setIfInBounds s1 (E1 k)).setIfInBounds s2 (E2 k), defers := [] }) → K a' W') →
      assign.wpIn (F.inRound l) (n - 1 - 1) P (Exit.then K (fun _ _ _ => False)) { tmps := (ps.zip (encs k)).foldl (fun t (p, v) => t.setIfInBounds p v) a.tmps, defers := [] } W)
    (hbody : ∀ (l k : Nat) (a' : Act) (W : World), k < N → (I k W ∧ a' = { tmps := (((ps.zip (encs k)).foldl (fun t (p, v) => t.setIfInBounds p v) a.tmps).setIfInBounds s1 (E1 k)).setIfInBounds s2 (E2 k), defers := [] }) → body.wpIn (F.inRound l) (n - 1 - 1) P (fun e _ W' => e = .normal ∧ KeepsLD W W' ∧ I (k + 1) W') a' W)
    (hdone : ∀ (D : Nat) (W : World), w.heap.size ≤ D → I N W → W.heap[D]? = some (.deferred (some [])) → Q .normal { a with defers := { target := .collected D, args := #[] } :: a.defers } W) :
    (Code.rangeFunc g ps assign body).wpIn F n P Q a w :=
  wpIn_rounds hro h1 hg hFg eg N encs hps I (fun k a' W => I k W ∧ a' = { tmps := (((ps.zip (encs k)).foldl (fun t (p, v) => t.setIfInBounds p v) a.tmps).setIfInBounds s1 (E1 k)).setIfInBounds s2 (E2 k), defers := [] }) hI (fun k _ s W W' row h hg hr => ⟨hI k s W W' row h.1 hg hr, h.2⟩) h0 hseq hassign hbody hdone
end
theorem own_blk_cells {α : Type} {T : Ty α} {w : World} {base k : Nat} {e : TypeId} {v : Value} {n : Nat} {l : List α} (h : OwnF T w base e v n l) (hk : v.ownBlock = some k) : ∃ cs, w.heap[k]? = some (.cells cs e (0, 0)) := by
  obtain ⟨cs, h1, _⟩ := h
  rcases h1.2 with ⟨rfl, _⟩ | ⟨g, cap, cur, rfl, _, hc, _⟩
  · cases hk
  · simp only [Value.ownBlock, Option.some.injEq] at hk
    subst hk
    exact ⟨_, hc⟩
attribute [local go_sem] Oper.semAt_some
theorem backI_any (A : Option Addr) (m c : Nat) (w : World) :
    Calls Tryz.prog 26 #[.slice A m c] w fun e w' => e = .returned (.func (.func 59) #[] #[.pointer (some ⟨w.heap.size, 0, none⟩)]) ∧ w' = w.alloc (.cells #[.slice A m c] 23) := by
  go_enter Tryz.func26, Tryz.ntmps26
  go_wp2_with fail
  go_ret
  exact ⟨rfl, rfl⟩
set_option maxRecDepth 100000 in
set_option maxHeartbeats 4000000 in
theorem backI1_in (n : Nat) (hn : 1 ≤ n) (l Bs : Nat) (A : Option Addr) (m c : Nat) (hm : m ≤ 1000) (V : Nat → Int) (J : Nat → World → Prop)
    (hJ : ∀ k W, J k W → W.cell? ⟨Bs, 0, none⟩ = some (.slice A m c) ∧ ∀ i, i < m → ∃ b o, A = some ⟨b, o, none⟩ ∧ W.cell? ⟨b, o + i, none⟩ = some (.int .i64 (V i)))
    (hY : ∀ k i W1, k + 1 + i = m → J k W1 → YieldAt Fence.wide (n - 1) Tryz.prog l #[.int .i64 (i : Int), .int .i64 (V i)] W1 fun e W' => e = .returned (.bool true) ∧ J (k + 1) W')
    (W : World) (h0 : J 0 W) :
    CallsIn Fence.wide n Tryz.prog 59 #[.func (.yield l) #[] #[], .pointer (some ⟨Bs, 0, none⟩)] W fun e W' => (∃ v, e = .returned v) ∧ J m W' := by
  have hc0 := (hJ 0 W h0).1
  refine callsIn_of_wp Tryz.func59 rfl trivial ?_ rfl
  simp only [Tryz.ntmps59, List.size_toArray, List.length_cons, List.length_nil, Nat.reduceAdd, Nat.reduceSub, Array.replicate_succ, Array.replicate_zero, List.push_toArray, List.append_toArray, List.nil_append, List.cons_append]
  gi_wp2
  gi_loopw [3] (fun i wr => ∃ j : Nat, j ≤ m ∧ i = .int .i64 ((j : Int) - 1) ∧ J (m - j) wr)
    (fun i _ => (intOf i + 1).toNat)
  case atStart => exact ⟨m, Nat.le_refl _, by go_num, by rw [Nat.sub_self]; exact h0⟩
  case round =>
    obtain ⟨j, hj, rfl, hJs⟩ := hrel
    cases j with
    | zero =>
      have hz : (((0 : Nat) : Int) - 1) = -1 := rfl
      rw [hz]
      gi_wp2
      go_end0
      exact ⟨⟨_, rfl⟩, hJs⟩
    | succ i =>
      have hji : (((i + 1 : Nat) : Int) - 1) = (i : Int) := by omega
      rw [hji]
      obtain ⟨hc, hcell⟩ := hJ _ _ hJs
      obtain ⟨b, o, rfl, hcs⟩ := hcell i (by omega)
      obtain ⟨fn, tmps, assign, body, hy, hR⟩ := hY (m - (i + 1)) i wr (by omega) hJs
      have i1 : (0 : Int) ≤ (i : Int) := by omega
      have i2 : (i : Int) < (m : Int) := by omega
      clear hcell hJs
      gi_wp2
      refine hR.mono ?_
      rintro e W3 ⟨rfl, hJ3⟩
      gi_wp2
      go_roundw
      case rel => exact ⟨i, by omega, by go_num, by rw [show m - i = m - (i + 1) + 1 from by omega]; exact hJ3⟩
      case measure => simp [intOf]
end Go.Proofs.YtpbngckplbnahaaGreatDoor
