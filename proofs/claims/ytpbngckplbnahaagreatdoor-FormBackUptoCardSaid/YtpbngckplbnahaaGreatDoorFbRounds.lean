/-
The rounds of a range over a function that keeps something of its own between them: what it keeps is a ghost of the invariant.
-/
import Derived.Test.YtpbngckplbnahaaGreatDoorIntBack
namespace Go.Proofs.YtpbngckplbnahaaGreatDoor
open Go.RowKit Go.Cl Go.Shelf
section
variable {F : Fence} {n : Nat} {P : Program}
/-- Each of N rounds goes on; between two rounds the function may turn what is its own (M). -/
theorem wpIn_roundsG {G : Type} {g : Operand} {ps : Array Tmp} {assign body : Code} {Q : Exit → Act → World → Prop} {a : Act} {w : World} (hro : F.round = none) (h1 : 1 ≤ n) {gf : Nat} {lb : Array Value}
    (hg : a.eval g = .func (.func gf) #[] lb) (hFg : F.fn gf) (eg : ∀ args w, (callFunc gf args).run P w = .ok (.enter gf args) w)
    (N : Nat) (encs : Nat → Array Value) (hps : ∀ k, (encs k).size = ps.size) (I : G → Nat → World → Prop) (M : G → G → World → World → Prop) (Ax : G → Nat → Act → World → Prop)
    (hI : ∀ y k, OwnFrom w.heap.size (fun (_ : Unit) W => I y k W)) (hAx : ∀ y k a', OwnFrom w.heap.size (fun (_ : Unit) W => Ax y k a' W))
    (hM : ∀ y z k W W', I y k W → M y z W W' → I z k W' ∧ KeepsLD W W') (y0 : G) (h0 : I y0 0 w)
    (hseq : ∀ (l : Nat) (J : G → Nat → World → Prop) (W : World), (∀ y k W, J y k W → I y k W) →
      (∀ y k W1, k < N → J y k W1 → YieldAt F (n - 1 - 1) P l (encs k) W1 fun e W' => e = .returned (.bool true) ∧ J y (k + 1) W') →
      (∀ y z k W W', J y k W → M y z W W' → J z k W') → J y0 0 W →
      CallsIn F (n - 1) P gf (#[.func (.yield l) #[] #[]] ++ lb) W fun e W' => (∃ v, e = .returned v) ∧ ∃ y, J y N W')
    (hassign : ∀ (l : Nat) (y : G) (k : Nat) (W : World) (K : Act → World → Prop), k < N → I y k W → (∀ a' W', KeepsOthers W W' → Ax y k a' W' → K a' W') →
      assign.wpIn (F.inRound l) (n - 1 - 1) P (Exit.then K (fun _ _ _ => False)) { tmps := (ps.zip (encs k)).foldl (fun t (p, v) => t.setIfInBounds p v) a.tmps, defers := [] } W)
    (hbody : ∀ (l : Nat) (y : G) (k : Nat) (a' : Act) (W : World), k < N → Ax y k a' W → body.wpIn (F.inRound l) (n - 1 - 1) P (fun e _ W' => e = .normal ∧ KeepsLD W W' ∧ I y (k + 1) W') a' W)
    (hdone : ∀ (y : G) (D : Nat) (W : World), w.heap.size ≤ D → I y N W → W.heap[D]? = some (.deferred (some [])) → Q .normal { a with defers := { target := .collected D, args := #[] } :: a.defers } W) :
    (Code.rangeFunc g ps assign body).wpIn F n P Q a w := by
  refine wpIn_rangeFunc fun fn hfn => ?_
  rw [hro]
  obtain ⟨s, hs⟩ : ∃ s, s = w.heap.size := ⟨_, rfl⟩
  obtain ⟨r, hr⟩ : ∃ r : LoopState → Loop, r = fun st => { state := st, pending := none, fn, tmps := a.tmps, params := ps, assign, body, defers := s } := ⟨_, rfl⟩
  obtain ⟨w1, hw1⟩ : ∃ w1, w1 = (w.alloc (.deferred (some []))).alloc (.loop (r .ready)) := ⟨_, rfl⟩
  have e1 : w1.heap[s + 1]? = some (.loop (r .ready)) := by
    have := World.alloc_heap_new (w.alloc (.deferred (some []))) (.loop (r .ready))
    rw [World.size_alloc, ← hs, ← hw1] at this
    exact this
  have e2 : w1.heap[s]? = some (.deferred (some [])) := by
    have h2 : (w.alloc (.deferred (some []))).heap[s]? = some (.deferred (some [])) := by rw [hs]; exact World.alloc_heap_new w _
    rw [hw1]
    exact (Below.heap_alloc _ _ _ (Array.getElem?_eq_some_iff.1 h2).1).trans h2
  obtain ⟨J, hJ⟩ : ∃ J : G → Nat → World → Prop, J = fun y k W => I y k W ∧ W.heap[s + 1]? = some (.loop (r .ready)) ∧ W.heap[s]? = some (.deferred (some [])) := ⟨_, rfl⟩
  have hnew : ∀ {y : G} {k : Nat} {W : World} (st o : Loop), I y k W → W.heap[s + 1]? = some (.loop o) → I y k (W.putObj (s + 1) (.loop st)) := fun {y k W} st o h1 h2 =>
    OwnFrom.putObj (s := ()) (hI y k) (.loop st) h1 (by omega) h2 rfl
  refine ⟨s + 1, [{ target := .collected s, args := #[] }], w1, { target := .fn (.func gf) lb, args := #[.func (.yield (s + 1)) #[] #[]] }, w1, gf, #[.func (.yield (s + 1)) #[] #[]] ++ lb, w1, ?_, ?_, ?_, ?_, fun _ => h1, ?_⟩
  · rw [hw1, hr, hs]
    exact run_enterLoop_outer _ _ _ _ _
  · simp only [resolve, hg]
    simp [go_sem]
  · intro f' hf'
    simp [Target.leads] at hf'
    rw [← hf']
    exact hFg
  · simp [invoke, go_sem, eg]
  · refine (hseq (s + 1) J w1 (fun y k W h => by rw [hJ] at h; exact h.1) ?_ ?_ (by rw [hJ, hw1]; exact ⟨OwnFrom.alloc (s := ()) (hI y0 0) _ (OwnFrom.alloc (s := ()) (hI y0 0) _ h0), by rw [← hw1]; exact e1, by rw [← hw1]; exact e2⟩)).mono ?_
    · intro y k W hk h
      rw [hJ] at h ⊢
      obtain ⟨i1, i2, i3⟩ := h
      have hl : s + 1 < W.heap.size := (Array.getElem?_eq_some_iff.1 i2).1
      have hy := run_yield (P := P) (args := encs k) i2 (by rw [hr]; exact hps k)
      rw [hr] at hy
      refine ⟨fn, _, assign, body, hy, roundIn_of_wpIn hfn (hassign _ y k W _ hk i1 fun a' W' hk' hx => ?_)⟩
      have j2 := hk'.same _ _ i2 rfl
      have j3 := hk'.same _ _ i3 rfl
      have hb := run_beginRound (P := P) j2 (by rw [hr])
      refine ⟨_, hb, ?_⟩
      have hl' : s + 1 < W'.heap.size := (Array.getElem?_eq_some_iff.1 j2).1
      have k2 := World.putObj_heap_same (o := Obj.loop { r .ready with state := .busy }) hl'
      have k3 : (W'.putObj (s + 1) (.loop { r .ready with state := .busy })).heap[s]? = some (.deferred (some [])) := (World.putObj_heap_other (by omega)).trans j3
      refine wpIn_mono (hbody _ y k a' _ hk (OwnFrom.putObj (s := ()) (hAx y k a') _ hx (by omega) j2 rfl)) ?_
      rintro e a3 W3 ⟨rfl, hk3, h3⟩
      have l2 := hk3.same _ _ k2 rfl
      have l3 := hk3.same _ _ k3 rfl
      have he := run_endRound (P := P) none l2
      have hrr : ({ ({ r .ready with state := .busy } : Loop) with state := (if (none : Option Code).isNone then LoopState.ready else .done), pending := none } : Loop) = r .ready := by rw [hr]; rfl
      refine ⟨_, _, he, rfl, hnew _ _ h3 l2, ?_, (World.putObj_heap_other (by omega)).trans l3⟩
      refine (World.putObj_heap_same (Array.getElem?_eq_some_iff.1 l2).1).trans ?_
      rw [hr]
      rfl
    · intro y z k W W' h hm
      rw [hJ] at h ⊢
      obtain ⟨i1, i2, i3⟩ := h
      obtain ⟨m1, m2⟩ := hM y z k W W' i1 hm
      exact ⟨m1, m2.same _ _ i2 rfl, m2.same _ _ i3 rfl⟩
    · rintro e W ⟨⟨v, rfl⟩, y, h⟩
      rw [hJ] at h
      obtain ⟨i1, i2, i3⟩ := h
      have he := run_endLoop (P := P) i2 (by rw [hr]; simp)
      rw [hr] at he
      exact ⟨none, _, he, hdone y s _ (by omega) (hnew _ _ i1 i2) ((World.putObj_heap_other (by omega)).trans i3)⟩
theorem wpIn_roundsG2 {G : Type} {g : Operand} {ps : Array Tmp} {assign body : Code} {Q : Exit → Act → World → Prop} {a : Act} {w : World} (hro : F.round = none) (h1 : 1 ≤ n) {gf : Nat} {lb : Array Value}
    (hg : a.eval g = .func (.func gf) #[] lb) (hFg : F.fn gf) (eg : ∀ args w, (callFunc gf args).run P w = .ok (.enter gf args) w)
    (N : Nat) (encs : Nat → Array Value) (hps : ∀ k, (encs k).size = ps.size) (I : G → Nat → World → Prop) (M : G → G → World → World → Prop) (s1 : Nat) (E1 : Nat → Value)
    (hI : ∀ y k, OwnFrom w.heap.size (fun (_ : Unit) W => I y k W))
    (hM : ∀ y z k W W', I y k W → M y z W W' → I z k W' ∧ KeepsLD W W') (y0 : G) (h0 : I y0 0 w)
    (hseq : ∀ (l : Nat) (J : G → Nat → World → Prop) (W : World), (∀ y k W, J y k W → I y k W) →
      (∀ y k W1, k < N → J y k W1 → YieldAt F (n - 1 - 1) P l (encs k) W1 fun e W' => e = .returned (.bool true) ∧ J y (k + 1) W') →
      (∀ y z k W W', J y k W → M y z W W' → J z k W') → J y0 0 W →
      CallsIn F (n - 1) P gf (#[.func (.yield l) #[] #[]] ++ lb) W fun e W' => (∃ v, e = .returned v) ∧ ∃ y, J y N W')
    (hassign : ∀ (l : Nat) (y : G) (k : Nat) (W : World) (K : Act → World → Prop), k < N → I y k W → (∀ a' W', KeepsOthers W W' → (I y k W' ∧ a' = { tmps := ((ps.zip (encs k)).foldl (fun t (p, v) => t.setIfInBounds p v) a.tmps).setIfInBounds s1 (E1 k), defers := [] }) → K a' W') →
      assign.wpIn (F.inRound l) (n - 1 - 1) P (Exit.then K (fun _ _ _ => False)) { tmps := (ps.zip (encs k)).foldl (fun t (p, v) => t.setIfInBounds p v) a.tmps, defers := [] } W)
    (hbody : ∀ (l : Nat) (y : G) (k : Nat) (a' : Act) (W : World), k < N → (I y k W ∧ a' = { tmps := ((ps.zip (encs k)).foldl (fun t (p, v) => t.setIfInBounds p v) a.tmps).setIfInBounds s1 (E1 k), defers := [] }) → body.wpIn (F.inRound l) (n - 1 - 1) P (fun e _ W' => e = .normal ∧ KeepsLD W W' ∧ I y (k + 1) W') a' W)
    (hdone : ∀ (y : G) (D : Nat) (W : World), w.heap.size ≤ D → I y N W → W.heap[D]? = some (.deferred (some [])) → Q .normal { a with defers := { target := .collected D, args := #[] } :: a.defers } W) :
    (Code.rangeFunc g ps assign body).wpIn F n P Q a w :=
  wpIn_roundsG hro h1 hg hFg eg N encs hps I M (fun y k a' W => I y k W ∧ a' = { tmps := ((ps.zip (encs k)).foldl (fun t (p, v) => t.setIfInBounds p v) a.tmps).setIfInBounds s1 (E1 k), defers := [] }) hI (fun y k _ s W W' row h hg hr => ⟨hI y k s W W' row h.1 hg hr, h.2⟩) hM y0 h0 hseq hassign hbody hdone
end
end Go.Proofs.YtpbngckplbnahaaGreatDoor
