/-
The law BuildPlain: for every input it returns true, and every argument reads as before.
-/
import Derived.Test.YtegcedboeemedaaGreatDoorRows
import Derived.Test.YtegcedboeemedaaGreatDoorK6
import Derived.ProofKit
import Derived.OpenShut
import Derived.ShutString
import Derived.ChangeOld
import Derived.HandedShaped
import Derived.Shelf.Vars
import Derived.Test.YtegcedboeemedaaGreatDoorTie
import Derived.Test.YtegcedboeemedaaGreatDoorCards
import Derived.Lay
import Derived.LaidOnce
import Derived.SevenTiedAt
import Derived.PinnedBridge
import Derived.Lib.LaidU8T
namespace Go.Proofs.YtegcedboeemedaaGreatDoor.buildPlainDone
open Go.ChangeShapes Go.WideShapes Go.ChangeAt Go.RowKit Go.Cl
open Go.ChangeMaps (open_string)
set_option linter.unusedVariables false

theorem own : ownKnob Tryz.prog.godebug = none := by kernel_rfl
theorem laidOut : laidOutB Tryz.prog = true := by kernel_rfl

theorem lifts0 : Lifts Tryz.prog 9 tStr := lifts_str Tryz.underlying9 (by kernel_rfl) (by kernel_rfl)
theorem asciiEq : (Rows.laid_unicode_asciiFold : DataW Unit) = asciiD := by kernel_rfl
theorem orbitEq : (Rows.laid_unicode_caseOrbit : DataW Unit) = orbitD := by kernel_rfl
theorem foldT {W : World} (h : laidMetH Tryz.prog Rows.buildPlainRow.laid W) : FoldTabs W := by
  rw [MakeChecks.laidMetH_plain _ _ _ (by kernel_rfl)] at h
  exact foldTabs_of (asciiEq ▸ Go.Lib.laidMet.reads h (.tail _ (.head _))) (orbitEq ▸ Go.Lib.laidMet.reads h (.tail _ (.tail _ (.head _))))

set_option maxRecDepth 100000 in
theorem lifted (os : Os) (started : os.Started) (H : Type) (enc : TypeId × Value → H) :
    ReturnsInHanded {} Tryz.checked os 6 .any (fun w args => (Rows.buildPlainSpec.pre enc Tryz.prog Tryz.f6 [] false w args ∧ laidMetH Tryz.prog Rows.buildPlainRow.laid w) ∧ sizedMet enc Tryz.prog Tryz.f6 (OpenSpec.ofChange Rows.buildPlainSpec) false w args) (Rows.buildPlainSpec.post enc Tryz.prog Tryz.f6 false true false false) := by
  refine handed_door (C := Tryz.checked) (X := fun w _ => laidMetH Tryz.prog Rows.buildPlainRow.laid w) (fun _ _ _ hh h => h.of_heap hh) own started (by kernel_rfl) Tryz.func6
    (ChangeSpec.witness_shaped (enc := enc) (C := Tryz.checked) (os := os) (X := fun w _ => laidMetH Tryz.prog Rows.buildPlainRow.laid w) false (World.laidAll Tryz.prog os Rows.buildPlainRow.laid) #[.string ⟨#[]⟩] 8 (World.laidAll_os _ _ _)
      (World.shaped_of_ZipB (by kernel_rfl) (by kernel_rfl)) (by kernel_rfl) (by kernel_rfl) (by kernel_rfl)
      (by rw [MakeChecks.laidMetH_plain _ _ _ (by kernel_rfl)]; exact laidMet_laidAll _ (by kernel_rfl) (by kernel_rfl))) ?_
  intro W base args ds gs before hval0 hW hcnd hsz hsh hL _
  have hFT := foldT hL
  have hval : ∀ (j : Nat) t v, Tryz.f6.params[j]? = some t → args[j]? = some v → Value.okWide Tryz.prog W .any base t v := hval0
  have hW' := hW
  obtain ⟨p, q, hA0, hV, rfl, hfz, hnd⟩ := hW
  have hA : DataW.TrodAll enc Tryz.prog W 0 (fun _ => true) true Tryz.f6.params.toList args.toList ds p := hA0
  rw [Tryz.params6] at hA hval
  have hsz1 : (DataW.weightsEach Tryz.prog ([9] ++ Rows.buildPlainSpec.plain.varTypes Tryz.prog) (ds ++ gs)).all (· ≤ reachBytes) = true := by rw [Tryz.params6] at hsz; exact hsz
  obtain ⟨v0, vs0, d0, ds0, p0, q0, hargs, rfl, rfl, h0, r0⟩ := trodAll_cons hA
  obtain ⟨rfl, rfl, rfl⟩ := trodAll_nil r0
  obtain rfl : args = #[v0] := by cases args; simp_all
  obtain ⟨rfl, rfl⟩ := trodVars_none hV
  have k0 := h0
  have lt0 : ∀ x ∈ p0, x.block < W.heap.size := by obtain ⟨m, hm⟩ := k0; exact DataW.trod_lt m _ _ _ hm
  obtain ⟨x0, g0⟩ := lifts0.arg h0 hsz1 (j := 0) rfl rfl
  obtain ⟨b0, rfl⟩ := okWide_string Tryz.underlying9 (hval 0 9 v0 rfl rfl)
  obtain ⟨e', u0⟩ := g0
  simp only [Value.cells, List.cons.injEq, Value.string.injEq, and_true] at e'
  subst e'
  obtain ⟨m, hm⟩ := Go.Proofs.Tryz.laysM144.s1_3 W hsh
  clear hA0 hval0
  refine (buildPlain_walk b0 W m hm hFT).mono fun e W' ⟨he, bel⟩ => ?_
  subst he
  exact ⟨_, rfl, _, _, _, [], _, [], hW', trodAll_mk1 (shut_bool Tryz.underlying4 _), (trodAll_cons_mk (Below.trod laidOut (by kernel_rfl) (of_decide_eq_true (by kernel_rfl)) k0 bel lt0) trodAll_mk0), rfl, bel.frame _, fun h => by cases h⟩

theorem both {a b : Bool} (ha : a = true) (hb : b = true) : (a && b) = true := by rw [ha, hb]; rfl
set_option maxHeartbeats 4000000 in
theorem closed : joinedFacts Tryz.pinned.checked.prog 6 Tryz.f6 Rows.buildPlainSpec Rows.buildPlainRow = true := by
  unfold joinedFacts
  with_reducible repeat' apply both
  all_goals (as_aux_lemma => kernel_rfl)

theorem over : Rows.buildPlainRow.holds Tryz.pinned (OpenSpec.ofChange Rows.buildPlainSpec) :=
  OpenClaim.holds_of_wide 6 Tryz.f6 rfl rfl rfl rfl rfl rfl rfl ⟨rfl, rfl, rfl, rfl, rfl⟩ rfl rfl rfl rfl rfl (by kernel_rfl) Tryz.func6 closed
    (of_decide_eq_true (by kernel_rfl)) (by unfold Func.isWrapper; first | (rw [if_pos (by decide +kernel)]; kernel_rfl) | (rw [if_neg (by decide +kernel)]; exact ⟨rfl, rfl⟩))
    (fun os started H enc _ => lifted os started H enc)

set_option maxHeartbeats 4000000 in
theorem cardText : Rows.buildPlainRow.wfByText (OpenSpec.ofChange Rows.buildPlainSpec) = true := by kernel_rfl
set_option maxHeartbeats 4000000 in
theorem cardMain : Tryz.pinned.checked.prog.mainIs = some (Rows.buildPlainCard.stood.harness.1, Rows.buildPlainCard.stood.harness.2.toList) := by kernel_rfl
set_option maxHeartbeats 4000000 in
theorem cardGoes : false = Rows.buildPlainRow.goesBy Tryz.pinned.checked.prog := by kernel_rfl
set_option maxHeartbeats 4000000 in
theorem cardLooks : true = Tryz.pinned.checked.prog.looks [] := by kernel_rfl
theorem proved : Rows.BuildPlainCardSaid :=
  Claim7.holds_tied_plain_at .later [] [.data, .data, .data, .pinned, .pinned] true Rows.buildPlainCard.stood.harness true over (fun _ h => by cases h) cardText (fun _ h => by cases h) buildPlain_row_tie rfl ⟨rfl, rfl⟩ cardMain rfl
    (fun f fn hf hfn => by
      obtain rfl : f = 6 := Option.some.inj ((show Tryz.prog.funcNamed Rows.buildPlainRow.func = some 6 by kernel_rfl).symm.trans hf) |>.symm
      obtain rfl : fn = Tryz.f6 := (Option.some.inj (Tryz.func6.symm.trans hfn)).symm
      exact ⟨cardLooks, fun j t ht => by
        rw [Tryz.params6] at ht
        have hm : t ∈ [9] := by simpa using Array.mem_of_getElem? ht
        have hall : ([9].all fun u => !Tryz.prog.wantsStandIn u) = true := by kernel_rfl
        exact (show Tryz.prog.wantsStandIn t = false by simpa using List.all_eq_true.1 hall t hm)⟩)
    cardGoes
#print axioms proved
end Go.Proofs.YtegcedboeemedaaGreatDoor.buildPlainDone
