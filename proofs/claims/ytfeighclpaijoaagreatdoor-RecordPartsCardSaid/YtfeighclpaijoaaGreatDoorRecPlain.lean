/-
Steps that were done: how they part, what they touch. No walk.
-/
import Derived.Test.YtfeighclpaijoaaGreatDoorRedo
import Derived.Test.YtfeighclpaijoaaGreatDoorTouched
import Derived.Test.YtfeighclpaijoaaGreatDoorDomNew
namespace Go.Proofs.YtfeighclpaijoaaGreatDoor
open Go.RowKit Go.Cl

theorem note_edit_eq (l k : List Nd) (e : Edt) : (noteD l k e).edit = e := by
  unfold noteD atNote
  split
  · split <;> rfl
  · split
    · rfl
    · split
      · rfl
      · split
        · rfl
        · split <;> rfl
theorem steps_edits : ∀ (es : List Edt) (l : List Nd), (stepsD l es).map (fun s => s.edit) = es := by
  intro es
  induction es with
  | nil => intro l; rfl
  | cons e r ih =>
    intro l
    show (noteD l (edDo l e) e).edit :: (stepsD (edDo l e) r).map _ = _
    rw [ih, note_edit_eq]
theorem steps_kind : ∀ (es : List Edt) (l d : List Nd), runE l es = some d → ∀ s ∈ stepsD l es, 1 ≤ s.edit.do_ ∧ s.edit.do_ ≤ 6 := by
  intro es
  induction es with
  | nil => intro l d _ s hs; cases hs
  | cons e r ih =>
    intro l d h s hs
    rw [runE] at h
    by_cases he : edErr l e = 0
    · rw [if_pos he] at h
      rcases List.mem_cons.1 hs with rfl | hs
      · rw [note_edit_eq]
        have := edErr_do he
        omega
      · exact ih _ _ h s hs
    · rw [if_neg he] at h; cases h
/-- Where a list of steps is parted. -/
theorem run_part {l d : List Nd} {es : List Edt} (h : runE l es = some d) (k : Nat) : ∃ lk, runE l (es.take k) = some lk ∧ runE lk (es.drop k) = some d := by
  have h1 : runE l (es.take k ++ es.drop k) = some d := by rw [List.take_append_drop]; exact h
  rw [runE_app] at h1
  cases hk : runE l (es.take k) with
  | none => rw [hk] at h1; cases h1
  | some lk =>
    rw [hk] at h1
    exact ⟨lk, rfl, h1⟩
theorem steps_part {l lk : List Nd} {es : List Edt} {k : Nat} (hk : k ≤ es.length) (h : runE l (es.take k) = some lk) : (stepsD l es).take k = stepsD l (es.take k) ∧ (stepsD l es).drop k = stepsD lk (es.drop k) := by
  have h1 : stepsD l es = stepsD l (es.take k) ++ stepsD lk (es.drop k) := by
    rw [← steps_app _ _ _ _ h, List.take_append_drop]
  have h2 : (stepsD l (es.take k)).length = k := by rw [steps_len, List.length_take]; omega
  refine ⟨?_, ?_⟩
  · rw [h1, List.take_left' h2]
  · rw [h1, List.drop_left' h2]
theorem undoes_steps {l d : List Nd} {es : List Edt} (G : Good l) (h : runE l es = some d) : Undoes d (stepsD l es) := by
  intro k hk
  rw [steps_len] at hk
  obtain ⟨lj, h1, h2⟩ := run_part h (es.length - k)
  have hj := steps_part (l := l) (es := es) (k := es.length - k) (by omega) h1
  have hs : stepsD l es = stepsD l (es.take (es.length - k)) ++ stepsD lj (es.drop (es.length - k)) := by
    rw [← hj.1, ← hj.2, List.take_append_drop]
  have Gj := runE_good _ _ _ G h1
  have hl : (stepsD lj (es.drop (es.length - k))).reverse.length = k := by rw [List.length_reverse, steps_len, List.length_drop]; omega
  refine ⟨lj, ?_, Gj⟩
  rw [hs, List.reverse_append, List.take_left' hl]
  exact un_steps _ _ _ Gj h2
/-- What is not touched is as it was. -/
theorem rest_law {l d : List Nd} {es : List Edt} (h : runE l es = some d) {n : Nat} (hn : (n : Int) ∉ touD (stepsD l es)) : d[n]? = l[n]? := by
  have h1 := steps_rest es l d h (n : Int) (fun h2 => hn ((mem_touD (by omega)).2 (List.mem_flatMap.1 h2)))
  rw [nodeAt_nat, nodeAt_nat] at h1
  exact h1
/-! ### what must be in any case -/
def bgN : Nd := ⟨0, ⟨#[]⟩, [], ⟨#[]⟩, 0, []⟩
def bgM : Edt := ⟨4, 0, 0, 0, ⟨#[]⟩, ⟨#[]⟩, ⟨4, ⟨#[]⟩, [], (⟨#[99]⟩ : ByteArray), 0, []⟩⟩
def bgI : Edt := ⟨5, 0, 1, -1, ⟨#[]⟩, ⟨#[]⟩, bgN⟩
theorem bg_ok : (alR [rootNd] [bgM, bgI]).2.2 = 0 ∧ checkD [rootNd] = 0 ∧ (stepsD [rootNd] [bgM, bgI]).flatMap nodesD = [1, 0, 1] := by decide +kernel
theorem bg_run : ∃ d, alR [rootNd] [bgM, bgI] = (d, 0, 0) ∧ runE [rootNd] [bgM, bgI] = some d := by
  obtain ⟨h1, _, _⟩ := bg_ok
  obtain ⟨_, _, h2⟩ := al_run h1
  have h3 : alErr [rootNd] [bgM, bgI] = 0 := by
    by_cases h0 : alErr [rootNd] [bgM, bgI] = 0
    · exact h0
    · unfold alR at h1
      rw [if_pos h0] at h1
      exact absurd h1 h0
  refine ⟨_, ?_, h2⟩
  have e1 : alR [rootNd] [bgM, bgI] = edAll 0 [rootNd] [bgM, bgI] := by unfold alR; rw [if_neg (by simpa using h3)]
  rw [e1] at h2 ⊢
  rw [edAll_run _ _ _ 0 h2]
theorem bg_tou : (touD (stepsD [rootNd] [bgM, bgI])).length = 2 := by
  unfold touD
  rw [bg_ok.2.2]
  have h : (([1, 0, 1] : List Int).mergeSort fun x y => decide (x ≤ y)) = [0, 1, 1] := by simp [List.mergeSort, List.MergeSort.Internal.splitInTwo]
  rw [h]
  decide +kernel
/-- All of a list of edits, where all may be done. -/
theorem al_of_run {l d : List Nd} {es : List Edt} (hc : checkD l = 0) (h40 : es.length ≤ 40) (h : runE l es = some d) : alR l es = (d, 0, 0) := by
  have h0 : alErr l es = 0 := by unfold alErr; rw [if_neg (by rw [hc]; simp), if_neg (by omega)]
  unfold alR
  rw [if_neg (by rw [h0]; simp), edAll_run _ _ _ 0 h]
end Go.Proofs.YtfeighclpaijoaaGreatDoor
