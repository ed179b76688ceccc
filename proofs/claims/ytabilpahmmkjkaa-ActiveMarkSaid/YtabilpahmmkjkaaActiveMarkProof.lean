/-
The law ActiveMark: for every input it returns true, and every argument reads as before.
-/
import Derived.Test.YtabilpahmmkjkaaRows
import Derived.Test.YtabilpahmmkjkaaLift
import Derived.Test.YtabilpahmmkjkaaActiveMark
import Derived.ProofKit
import Derived.OpenShut
import Derived.ShutString
import Derived.ChangeOld
import Derived.HandedShaped
import Derived.Shelf.Vars
namespace Go.Proofs.Ytabilpahmmkjkaa.activeMarkDone
open Go.ChangeShapes Go.WideShapes Go.ChangeAt Go.RowKit Go.Cl
open Go.ChangeMaps (open_string)
set_option linter.unusedVariables false

theorem own : ownKnob Try.prog.godebug = none := by kernel_rfl
theorem laidOut : laidOutB Try.prog = true := by kernel_rfl

theorem lifts0 : Lifts Try.prog 23 (tSlice tItem) := lifts_slice Try.underlying23 (by kernel_rfl) (by kernel_rfl) (lifts_map (fun a => (⟨a.1, a.2.1, a.2.2⟩ : Item)) (fun _ => rfl) (lifts_struct (fs := [_, _, _]) Try.underlying26 (by kernel_rfl) (by kernel_rfl) (liftsF_cons rfl (lifts_int Try.underlying3 (by kernel_rfl) (by kernel_rfl)) (liftsF_cons rfl (lifts_str Try.underlying9 (by kernel_rfl) (by kernel_rfl)) (liftsF_one rfl (lifts_slice Try.underlying24 (by kernel_rfl) (by kernel_rfl) (lifts_struct (fs := [_, _]) Try.underlying80 (by kernel_rfl) (by kernel_rfl) (liftsF_cons rfl (lifts_str Try.underlying9 (by kernel_rfl) (by kernel_rfl)) (liftsF_one rfl (lifts_str Try.underlying9 (by kernel_rfl) (by kernel_rfl))))) (by decide))))))) (by decide)
theorem lifts1 : Lifts Try.prog 23 (tSlice tItem) := lifts_slice Try.underlying23 (by kernel_rfl) (by kernel_rfl) (lifts_map (fun a => (⟨a.1, a.2.1, a.2.2⟩ : Item)) (fun _ => rfl) (lifts_struct (fs := [_, _, _]) Try.underlying26 (by kernel_rfl) (by kernel_rfl) (liftsF_cons rfl (lifts_int Try.underlying3 (by kernel_rfl) (by kernel_rfl)) (liftsF_cons rfl (lifts_str Try.underlying9 (by kernel_rfl) (by kernel_rfl)) (liftsF_one rfl (lifts_slice Try.underlying24 (by kernel_rfl) (by kernel_rfl) (lifts_struct (fs := [_, _]) Try.underlying80 (by kernel_rfl) (by kernel_rfl) (liftsF_cons rfl (lifts_str Try.underlying9 (by kernel_rfl) (by kernel_rfl)) (liftsF_one rfl (lifts_str Try.underlying9 (by kernel_rfl) (by kernel_rfl))))) (by decide))))))) (by decide)
theorem lifts2 : Lifts Try.prog 34 (tSlice (tInt .i64)) := lifts_slice Try.underlying34 (by kernel_rfl) (by kernel_rfl) (lifts_int Try.underlying3 (by kernel_rfl) (by kernel_rfl)) (by decide)

set_option maxRecDepth 100000 in
theorem lifted (os : Os) (started : os.Started) (H : Type) (enc : TypeId × Value → H) :
    ReturnsInHanded {} Try.checked os 4 .any (Rows.activeMarkSpec.pre6 enc Try.prog Try.f4 Rows.activeMarkRow.domain false) (Rows.activeMarkSpec.post enc Try.prog Try.f4 false true false false) := by
  refine returnsInHanded_of_change_shaped (C := Try.checked) own started (by kernel_rfl) Try.func4
    (ChangeSpec.witness6 (enc := enc) (C := Try.checked) false ⟨#[], #[.slice none 0 0, .slice none 0 0, .slice none 0 0], []⟩ 8 (by kernel_rfl) (by kernel_rfl) (by kernel_rfl) (by kernel_rfl)) ?_
  intro W base args ds gs before hval0 hW hcnd hsz hsh _
  have hval : ∀ (j : Nat) t v, Try.f4.params[j]? = some t → args[j]? = some v → Value.okWide Try.prog W .any base t v := hval0
  have hW' := hW
  obtain ⟨p, q, hA0, hV, rfl, hfz, hnd⟩ := hW
  have hA : DataW.TrodAll enc Try.prog W 0 (fun _ => true) true Try.f4.params.toList args.toList ds p := hA0
  rw [Try.params4] at hA hval
  have hsz1 : (DataW.weightsEach Try.prog ([23, 23, 34] ++ Rows.activeMarkSpec.plain.varTypes Try.prog) (ds ++ gs)).all (· ≤ reachBytes) = true := by rw [Try.params4] at hsz; exact hsz
  obtain ⟨v0, vs0, d0, ds0, p0, q0, hargs, rfl, rfl, h0, r0⟩ := trodAll_cons hA
  obtain ⟨v1, vs1, d1, ds1, p1, q1, rfl, rfl, rfl, h1, r1⟩ := trodAll_cons r0
  obtain ⟨v2, vs2, d2, ds2, p2, q2, rfl, rfl, rfl, h2, r2⟩ := trodAll_cons r1
  obtain ⟨rfl, rfl, rfl⟩ := trodAll_nil r2
  obtain rfl : args = #[v0, v1, v2] := by cases args; simp_all
  obtain ⟨rfl, rfl⟩ := trodVars_none hV
  have k0 := h0
  have lt0 : ∀ x ∈ p0, x.block < W.heap.size := by obtain ⟨m, hm⟩ := k0; exact DataW.trod_lt m _ _ _ hm
  obtain ⟨x0, g0⟩ := lifts0.arg h0 hsz1 (j := 0) rfl rfl
  have k1 := h1
  have lt1 : ∀ x ∈ p1, x.block < W.heap.size := by obtain ⟨m, hm⟩ := k1; exact DataW.trod_lt m _ _ _ hm
  obtain ⟨x1, g1⟩ := lifts1.arg h1 hsz1 (j := 1) rfl rfl
  have k2 := h2
  have lt2 : ∀ x ∈ p2, x.block < W.heap.size := by obtain ⟨m, hm⟩ := k2; exact DataW.trod_lt m _ _ _ hm
  obtain ⟨x2, g2⟩ := lifts2.arg h2 hsz1 (j := 2) rfl rfl
  obtain ⟨A0, n0, c0, rfl⟩ := okWide_slice Try.underlying23 (hval 0 23 v0 rfl rfl)
  obtain ⟨A', n', c', e', s0⟩ := g0
  simp only [Value.cells, List.cons.injEq, Value.slice.injEq, and_true] at e'
  obtain ⟨rfl, rfl, rfl⟩ := e'
  obtain ⟨A1, n1, c1, rfl⟩ := okWide_slice Try.underlying23 (hval 1 23 v1 rfl rfl)
  obtain ⟨A', n', c', e', s1⟩ := g1
  simp only [Value.cells, List.cons.injEq, Value.slice.injEq, and_true] at e'
  obtain ⟨rfl, rfl, rfl⟩ := e'
  obtain ⟨A2, n2, c2, rfl⟩ := okWide_slice Try.underlying34 (hval 2 34 v2 rfl rfl)
  obtain ⟨A', n', c', e', s2⟩ := g2
  simp only [Value.cells, List.cons.injEq, Value.slice.injEq, and_true] at e'
  obtain ⟨rfl, rfl, rfl⟩ := e'
  clear hA0 hval0
  refine (activeMark_walk A0 n0 c0 x0 A1 n1 c1 x1 A2 n2 c2 x2 W s0 s1 s2).mono fun e W' ⟨he, bel⟩ => ?_
  subst he
  exact ⟨_, rfl, _, _, _, [], _, [], hW', trodAll_mk1 (shut_bool Try.underlying4 _), (trodAll_cons_mk (Below.trod laidOut (by kernel_rfl) (of_decide_eq_true (by kernel_rfl)) k0 bel lt0) (trodAll_cons_mk (Below.trod laidOut (by kernel_rfl) (of_decide_eq_true (by kernel_rfl)) k1 bel lt1) (trodAll_cons_mk (Below.trod laidOut (by kernel_rfl) (of_decide_eq_true (by kernel_rfl)) k2 bel lt2) trodAll_mk0))), rfl, bel.frame _, fun h => by cases h⟩

theorem over : Rows.activeMarkRow.holds Try.pinned (OpenSpec.ofChange Rows.activeMarkSpec) :=
  OpenClaim.holds_of_wide 4 Try.f4 rfl rfl rfl rfl rfl rfl rfl ⟨rfl, rfl, rfl, rfl, rfl⟩ rfl rfl rfl rfl rfl (by kernel_rfl) Try.func4 (by kernel_rfl)
    (of_decide_eq_true (by kernel_rfl)) (by unfold Func.isWrapper; first | (rw [if_pos (by decide +kernel)]; kernel_rfl) | (rw [if_neg (by decide +kernel)]; exact ⟨rfl, rfl⟩))
    (fun os started H enc _ => lifted os started H enc)

theorem proved : Rows.ActiveMarkSaid := over
#print axioms proved
end Go.Proofs.Ytabilpahmmkjkaa.activeMarkDone
