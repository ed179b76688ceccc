/-
The walk of package chars: Clean.
-/
import Derived.Test.YtabilpahmmkjkaaDoorClean
namespace Go.Proofs.YtabilpahmmkjkaaDoor
open Go.RowKit Go.Cl Go.Shelf
attribute [local go_sem] Oper.semAt_some

/-- Between two rounds of Clean. -/
def CleanI (w : World) (s : ByteArray) (pre : List Sg) (W : World) : Prop :=
  Bld w.heap.size w.heap.size (Lib.byteCells (cleanL pre).1) W ∧ W.heap[w.heap.size + 1]? = some (.cells #[.int .i32 (cleanL pre).2] 21 (0, 0)) ∧ W.heap[w.heap.size + 2]? = some (.cells #[.string s] 9 (0, 0)) ∧ Below w.heap.size w W
theorem cleanI_own (w : World) (s : ByteArray) (B : Nat) (hB : w.heap.size ≤ B) : OwnFrom B (CleanI w s) := fun pre W W' row hs hg hr => by
  have hr' : ∀ r, row = some r → ∃ o : Obj, W.heap[r]? = some o ∧ o.isCells = false := fun r e => (hr r e).2
  exact ⟨bld_grown hs.1 hg hr', cells_grown hs.2.1 hg hr', cells_grown hs.2.2.1 hg hr', hs.2.2.2.grown hg hs.2.2.2.size (fun k e => Nat.le_trans hB (hr k e).1)⟩

theorem cleanI_put {w W W2 : World} {s : ByteArray} {pre : List Sg} (hI : CleanI w s pre W) (x : Sg) (hb : Bld w.heap.size w.heap.size (Lib.byteCells (cleanL (pre ++ [x])).1) W2) (hs : Spares W W2) (hbl : Below w.heap.size W W2) :
    KeepsOthers W (W2.setCell ⟨w.heap.size + 1, 0, none⟩ (.int .i32 x.1.2)) ∧ Kept (w.heap.size + 2) W (W2.setCell ⟨w.heap.size + 1, 0, none⟩ (.int .i32 x.1.2)) ∧ CleanI w s (pre ++ [x]) (W2.setCell ⟨w.heap.size + 1, 0, none⟩ (.int .i32 x.1.2)) := by
  have hl := hs.same _ _ hI.2.1 (fun cs t fr e => by cases e; decide)
  have ht := hs.same _ _ hI.2.2.1 (fun cs t fr e => by cases e; decide)
  have ht' : (W2.setCell ⟨w.heap.size + 1, 0, none⟩ (.int .i32 x.1.2)).heap[w.heap.size + 2]? = some (.cells #[.string s] 9 (0, 0)) :=
    (Below.heap_setCell W2 ⟨w.heap.size + 1, 0, none⟩ _ _ (by intro e; have e' : w.heap.size + 2 = w.heap.size + 1 := e; omega)).trans ht
  have hg : W2.grownBy (W2.setCell ⟨w.heap.size + 1, 0, none⟩ (.int .i32 x.1.2)) (some (w.heap.size + 1)) :=
    ⟨rfl, rfl, rfl, by simp [World.setCell], fun k _ hk => Below.heap_setCell W2 ⟨w.heap.size + 1, 0, none⟩ _ _ (fun e => hk (by rw [show k = w.heap.size + 1 from e]))⟩
  have hbld : Bld w.heap.size w.heap.size (Lib.byteCells (cleanL (pre ++ [x])).1) (W2.setCell ⟨w.heap.size + 1, 0, none⟩ (.int .i32 x.1.2)) := by
    have hn : ∀ v : Value, ∀ n xs, W2.ownsRow w.heap.size 5 1 v n xs → v.ownBlock = none ∨ v.ownBlock ≠ some (w.heap.size + 1) := fun v n xs ho => by
      rcases ho.2 with ⟨rfl, _⟩ | ⟨g, cap, cur, rfl, _, hgc, _⟩
      · exact Or.inl rfl
      · refine Or.inr fun e => ?_
        simp only [Value.ownBlock, Option.some.injEq] at e
        subst e
        rw [hl] at hgc
        simp only [Option.some.injEq, Obj.cells.injEq] at hgc
        exact absurd hgc.2.1 (by decide)
    rcases hb with ⟨hB, v, hbk, hown, hv⟩ | ⟨hB, v, hbk, hown, hv⟩
    · exact Or.inl ⟨hB, v, (Below.heap_setCell W2 ⟨w.heap.size + 1, 0, none⟩ _ _ (by intro e; have e' : w.heap.size = w.heap.size + 1 := e; omega)).trans hbk, hown.kept hg (hn v _ _ hown), hv⟩
    · exact Or.inr ⟨hB, v, (Below.heap_setCell W2 ⟨w.heap.size + 1, 0, none⟩ _ _ (by intro e; have e' : w.heap.size = w.heap.size + 1 := e; omega)).trans hbk, hown.kept hg (hn v _ _ hown), hv⟩
  refine ⟨(keeps_of hs).trans (KeepsOthers.setCell _ _ _), ?_, hbld, ?_, ht', (hI.2.2.2.trans hbl).setCell (p := ⟨w.heap.size + 1, 0, none⟩) (by show _ ≤ w.heap.size + 1; omega) _⟩
  · show (W2.setCell _ _).cell? ⟨w.heap.size + 2, 0, none⟩ = W.cell? ⟨w.heap.size + 2, 0, none⟩
    rw [Lib.cell_of_heap ht', Lib.cell_of_heap hI.2.2.1]
  · rw [set_blk hl, clean_snoc]
    rfl

set_option maxRecDepth 100000 in
set_option maxHeartbeats 2000000 in
theorem clean_any (s : ByteArray) (w : World) (hs : s.size ≤ 1000000000) :
    Calls Tryd.prog 8 #[.string s] w fun e w' => e = .returned (.string ⟨(cleanL (signsL 0 s.data.toList)).1.toArray⟩) ∧ Below w.heap.size w w' := by
  refine (callsIn_wide (n := 9)).1 ?_
  refine callsIn_of_wp_marks Tryd.func8 rfl trivial ?_ rfl
  simp only [Tryd.ntmps8, List.size_toArray, List.length_cons, List.length_nil, Nat.reduceAdd, Nat.reduceSub, Array.replicate_succ, Array.replicate_zero, List.push_toArray, List.append_toArray, List.nil_append, List.cons_append]
  gi_wp2
  refine ⟨trivial, callsIn_wide.2 ((signs_any s _).mono ?_)⟩
  rintro e w1 ⟨rfl, rfl⟩
  simp only [World.size_alloc]
  obtain ⟨w3, hw3⟩ : ∃ w3, w3 = ((w.alloc (.cells #[.pointer none, .slice none 0 0] 48)).alloc (.cells #[.int .i32 0] 21)).alloc (.cells #[.string s] 9) := ⟨_, rfl⟩
  have hz3 : w3.heap.size = w.heap.size + 3 := by rw [hw3]; simp
  have hI0 : CleanI w s [] w3 := by
    rw [hw3]
    refine ⟨bld_al (bld_al (bld_new w) _) _, ?_, ?_, (((Below.refl _ w).alloc (Nat.le_refl _) _).alloc (by simp) _).alloc (by simp; omega) _⟩
    · refine (Lib.alloc_old _ _ _ (by simp)).trans ?_
      have := heap_alloc_new (w.alloc (.cells #[.pointer none, .slice none 0 0] 48)) (.cells #[.int .i32 0] 21)
      rwa [World.size_alloc] at this
    · have := heap_alloc_new ((w.alloc (.cells #[.pointer none, .slice none 0 0] 48)).alloc (.cells #[.int .i32 0] 21)) (.cells #[.string s] 9)
      rwa [World.size_alloc, World.size_alloc] at this
  rw [← hw3]
  clear hw3
  gi_wp2
  refine wpIn_rangeFunc_ownF (n := 9) rfl (by decide) (gf := 37) (lb := #[.pointer (some ⟨w.heap.size + 2, 0, none⟩)]) rfl trivial (enters_of Tryd.func37 (by kernel_rfl) rfl)
    (signs_stops 8 (by decide) (w.heap.size + 2) s hs w3 (by omega) (cell_blk hI0.2.2.1 rfl)) kept_t (kept_b (by omega)) (Below.refl _ _) (fun _ => rfl)
    (CleanI w s) (fun _ _ _ => False) (cleanI_own w s w3.heap.size (by omega)) (fun _ _ _ _ _ hs _ _ => hs) hI0
    (fun x => { tmps := #[.string s, undef, .string ⟨#[]⟩, .pointer (some ⟨w.heap.size, 0, none⟩), .pointer (some ⟨w.heap.size + 1, 0, none⟩), undef, .int .i32 x.1.2, .string s, .func (.func 37) #[] #[.pointer (some ⟨w.heap.size + 2, 0, none⟩)], .int .i64 x.1.1, .int .i32 x.1.2, undef, undef, undef, undef, undef, undef, undef, undef, undef, undef, undef, undef, undef, undef, undef, undef, undef, undef, undef, undef, undef], defers := [] }) ?assign ?body ?done ?stop
  case assign =>
    intro l x W K hK
    gi_wp2
    exact hK
  case body =>
    rintro l pre x W hI hlen
    have hcl := clean_le pre
    have hbs : (Lib.byteCells (cleanL pre).1).length + 4 ≤ 140737488355328 := by rw [Lib.byteCells_length]; omega
    have hsz := hI.2.2.2.size
    have c1 : W.cell? ⟨w.heap.size + 1, 0, none⟩ = some (.int .i32 (cleanL pre).2) := cell_blk hI.2.1 rfl
    have HP := Lib.hid (fun W2 => cleanI_put (W2 := W2) hI x)
    have HC := Lib.hid (clean_snoc pre x)
    have hbld := hI.1
    have hl1 := hI.2.1
    by_cases h0 : x.1.2 = 0
    · have HB := Lib.hid (show (cleanL (pre ++ [x])).1 = (cleanL pre).1 ++ Lib.encodeRune 65533 from by rw [HC.out]; unfold cleanB; rw [if_pos h0])
      have HW := Lib.hid (writeRune_sp w.heap.size w.heap.size (Lib.byteCells (cleanL pre).1) 65533 (by omega) (by omega) W hbld hbs hsz)
      gi_wp2
      refine ⟨trivial, CallsIn.inRound l (callsIn_wide.2 (HW.out.mono ?_))⟩
      rintro e W2 ⟨⟨k, rfl⟩, h2, hb2, hs2⟩
      have hl2 := hs2.same _ _ hl1 (fun cs t fr e => by cases e; decide)
      have d1 : W2.cell? ⟨w.heap.size + 1, 0, none⟩ = some (.int .i32 (cleanL pre).2) := cell_blk hl2 rfl
      have f1 : W2.frozen? ⟨w.heap.size + 1, 0, none⟩ = false := free_blk hl2
      gi_wp2
      have HH := HP.out _ (by rw [HB.out, Lib.byteCells_append, Lib.byteCells_encodeRune]; exact h2) hs2 hb2
      rw [h0] at HH
      exact HH
    · by_cases h13 : x.1.2 = 13
      · have HB := Lib.hid (show (cleanL (pre ++ [x])).1 = (cleanL pre).1 ++ [10] from by rw [HC.out]; unfold cleanB; rw [if_neg h0, if_pos (Or.inl h13)])
        have HW := Lib.hid (writeByte_sp w.heap.size w.heap.size (Lib.byteCells (cleanL pre).1) 10 W hbld (by omega) hsz)
        gi_wp2
        refine ⟨trivial, CallsIn.inRound l (callsIn_wide.2 (HW.out.mono ?_))⟩
        rintro e W2 ⟨rfl, h2, hb2, hs2⟩
        have hl2 := hs2.same _ _ hl1 (fun cs t fr e => by cases e; decide)
        have d1 : W2.cell? ⟨w.heap.size + 1, 0, none⟩ = some (.int .i32 (cleanL pre).2) := cell_blk hl2 rfl
        have f1 : W2.frozen? ⟨w.heap.size + 1, 0, none⟩ = false := free_blk hl2
        gi_wp2
        have HH := HP.out _ (by rw [HB.out, Lib.byteCells_append]; exact h2) hs2 hb2
        rw [h13] at HH
        exact HH
      · by_cases h10 : x.1.2 = 10
        · by_cases hla : (cleanL pre).2 = 13
          · have HB := Lib.hid (show (cleanL (pre ++ [x])).1 = (cleanL pre).1 from by
              rw [HC.out]
              unfold cleanB
              rw [if_neg h0, if_neg (by rw [hla]; omega), if_neg (by omega), List.append_nil])
            have f0 : W.frozen? ⟨w.heap.size + 1, 0, none⟩ = false := free_blk hl1
            gi_wp2
            have HH := HP.out W (by rw [HB.out]; exact hbld) (Spares.refl _) (Below.refl _ _)
            rw [h10] at HH
            exact HH
          · have HB := Lib.hid (show (cleanL (pre ++ [x])).1 = (cleanL pre).1 ++ [10] from by rw [HC.out]; unfold cleanB; rw [if_neg h0, if_pos (Or.inr ⟨h10, hla⟩)])
            have HW := Lib.hid (writeByte_sp w.heap.size w.heap.size (Lib.byteCells (cleanL pre).1) 10 W hbld (by omega) hsz)
            gi_wp2
            refine ⟨trivial, CallsIn.inRound l (callsIn_wide.2 (HW.out.mono ?_))⟩
            rintro e W2 ⟨rfl, h2, hb2, hs2⟩
            have hl2 := hs2.same _ _ hl1 (fun cs t fr e => by cases e; decide)
            have d1 : W2.cell? ⟨w.heap.size + 1, 0, none⟩ = some (.int .i32 (cleanL pre).2) := cell_blk hl2 rfl
            have f1 : W2.frozen? ⟨w.heap.size + 1, 0, none⟩ = false := free_blk hl2
            gi_wp2
            have HH := HP.out _ (by rw [HB.out, Lib.byteCells_append]; exact h2) hs2 hb2
            rw [h10] at HH
            exact HH
        · have HB := Lib.hid (show (cleanL (pre ++ [x])).1 = (cleanL pre).1 ++ Lib.encodeRune x.1.2 from by rw [HC.out]; unfold cleanB; rw [if_neg h0, if_neg (by omega), if_pos h10])
          have hr : -2147483648 ≤ x.1.2 ∧ x.1.2 ≤ 2147483647 := by
            have h := x.2
            have h1 : IntKind.i32.min = -2147483648 := by decide
            have h2 : IntKind.i32.max = 2147483647 := by decide
            simp [Lit.wf, h1, h2] at h
            omega
          have HW := Lib.hid (writeRune_sp w.heap.size w.heap.size (Lib.byteCells (cleanL pre).1) x.1.2 hr.1 hr.2 W hbld hbs hsz)
          gi_wp2
          refine ⟨trivial, CallsIn.inRound l (callsIn_wide.2 (HW.out.mono ?_))⟩
          rintro e W2 ⟨⟨k, rfl⟩, h2, hb2, hs2⟩
          have hl2 := hs2.same _ _ hl1 (fun cs t fr e => by cases e; decide)
          have d1 : W2.cell? ⟨w.heap.size + 1, 0, none⟩ = some (.int .i32 (cleanL pre).2) := cell_blk hl2 rfl
          have f1 : W2.frozen? ⟨w.heap.size + 1, 0, none⟩ = false := free_blk hl2
          gi_wp2
          exact HP.out _ (by rw [HB.out, Lib.byteCells_append, Lib.byteCells_encodeRune]; exact h2) hs2 hb2
  case done =>
    rintro D ys W hD rfl hI hK
    have HS := Lib.hid (Tryd.Builder_String_any_k w.heap.size w.heap.size (cleanL (signsL 0 s.data.toList)).1 W (Lib.IsBuilderF.of hI.1) hI.2.2.2.size)
    gi_wp2
    refine ⟨trivial, callsIn_wide.2 (HS.out.mono ?_)⟩
    rintro e W2 ⟨rfl, _, hb2, hok⟩
    have hK2 : W2.heap[D]? = some (.deferred (some [])) := hok D _ hK (by intro e; simp at e; omega) (fun _ _ e => by cases e)
    gi_wp2
    refine ⟨by simp, .inl ⟨_, _, rfl, run_takeDeferred hK2, ?_⟩⟩
    exact ⟨_, results_tmp rfl _ _ _, rfl, (hI.2.2.2.trans hb2).trans (belowK_b (w := w) (Nat.le_refl _) W2 D _ _ (by omega) hK2 rfl rfl)⟩
  case stop =>
    rintro D c pre W _ _ h _
    exact h.elim
end Go.Proofs.YtabilpahmmkjkaaDoor
