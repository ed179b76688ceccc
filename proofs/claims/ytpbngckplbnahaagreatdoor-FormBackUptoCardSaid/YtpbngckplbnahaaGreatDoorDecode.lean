/-
The walk of package chars: Decode.
-/
import Derived.Test.YtpbngckplbnahaaGreatDoorCharsLaw
import Derived.Test.YtpbngckplbnahaaGreatDoorBase
import Derived.OwnWalkIn
namespace Go.Proofs.YtpbngckplbnahaaGreatDoor
open Go.RowKit Go.Cl Go.Shelf
attribute [local go_sem] Oper.semAt_some

/-- append of one element, inside a fence. -/
theorem wpListIn_ap1 {F : Fence} {m : Nat} {P : Program} (w : World) {ops : Array Oper} {rest : List Oper} {o : Oper} {a : Act} {Q : Exit → Act → World → Prop} (hgd : o.guard = none) (s x : Operand) (t : TypeId)
    (ho : o.op = .call { callee := .builtin .append, args := #[s, x], argTypes := #[t, t] })
    {α : Type} {T : Ty α} {e : TypeId} {bytes base : Nat} (hE : ElemOf P t e T.size bytes) {v : Value} {n : Nat} {xs : List α} {D : Nat → Prop} (hv : a.eval s = v) (hown : Cl.Own T w base e D v n xs) (hD : ∀ b, D b → b < w.heap.size ∧ some b ≠ v.ownBlock)
    {b off c : Nat} {y : α} {cs : List Value} (hx : a.eval x = .slice (some ⟨b, off, none⟩) 1 c) (hr : T.rep w D y cs) (hcell : ∀ j u, cs[j]? = some u → w.cell? ⟨b, off + j, none⟩ = some u) (h63 : n + 1 ≤ 140737488355328) (hbytes : (n + 1) * bytes ≤ 140737488355328) (hbase : base ≤ w.heap.size)
    (h : ∀ v' w', Cl.Own T w' base e D v' (n + 1) (xs ++ [y]) → w.grownBy w' v.ownBlock → Below base w w' → (v'.ownBlock = v.ownBlock ∨ v'.ownBlock = some w.heap.size) → wpListIn F m P ops Q rest (a.put o.dst v') w') : wpListIn F m P ops Q (o :: rest) a w := by
  obtain ⟨v', w', hrun, h1, h2, h3, h4⟩ := run_ap1 (P := P) (t := t) (ty := o.type) (c := c) w hE hown hD hr hcell h63 hbytes hbase
  refine wpListIn_plain hgd fun K hK => ?_
  unfold Oper.wpIn
  refine ⟨?_, ?_⟩
  · simp [Oper.about, ho, resolve, Target.leads, Sem.run_pure]
  · rw [Oper.semAt_plain F _ _ (by rw [ho]; intro c hc'; cases hc')]
    simp [execOp, ho, resolve, invoke, builtin, hv, hx, hrun, Result.andThen]
    exact hK _ _ (h v' w' h1 h2 h3 h4)

theorem elemRune : ElemOf Tryz.prog 84 21 1 4 := mkElem Tryz.underlying84 (by kernel_rfl) (z := .int .i32 0) rfl (by decide)
/-- Between two rounds of Decode. -/
def DecI (w : World) (s : ByteArray) (pre : List Sg) (W : World) : Prop :=
  (∃ v, W.heap[w.heap.size]? = some (.cells #[v] 84 (0, 0)) ∧ OwnF (tInt .i32) W w.heap.size 21 v pre.length (pre.map fun x => x.1.2)) ∧ W.heap[w.heap.size + 1]? = some (.cells #[.string s] 9 (0, 0)) ∧ Below w.heap.size w W
theorem own_cells {α : Type} {T : Ty α} {w : World} {base k : Nat} {e : TypeId} {v : Value} {n : Nat} {l : List α} (h : OwnF T w base e v n l) (hk : v.ownBlock = some k) : ∃ cs, w.heap[k]? = some (.cells cs e (0, 0)) := by
  obtain ⟨cs, h1, _⟩ := h
  rcases h1.2 with ⟨rfl, _⟩ | ⟨g, cap, cur, rfl, _, hc, _⟩
  · cases hk
  · simp only [Value.ownBlock, Option.some.injEq] at hk
    subst hk
    exact ⟨_, hc⟩
theorem decF_kept {α : Type} {T : Ty α} {w w' : World} {base n : Nat} {e : TypeId} {v : Value} {l : List α} {row : Option Nat} (h : OwnF T w base e v n l) (hg : w.grownBy w' row) (hne : ∀ r, row = some r → ∀ cs, w.heap[r]? ≠ some (.cells cs e (0, 0))) : OwnF T w' base e v n l := by
  refine Own.kept h hg ?_ fun _ h => h.elim
  cases hv : v.ownBlock with
  | none => exact Or.inl rfl
  | some k =>
    refine Or.inr fun e => ?_
    obtain ⟨cs, hc⟩ := own_cells h hv
    exact hne k e.symm cs hc
theorem decI_own (w : World) (s : ByteArray) (B : Nat) (hB : w.heap.size ≤ B) : OwnFrom B (DecI w s) := fun pre W W' row hs hg hr => by
  have hr' : ∀ r, row = some r → ∃ o : Obj, W.heap[r]? = some o ∧ o.isCells = false := fun r e => (hr r e).2
  obtain ⟨⟨v, h1, h2⟩, h3, h4⟩ := hs
  refine ⟨⟨v, cells_grown h1 hg hr', decF_kept h2 hg fun r e cs hc => ?_⟩, cells_grown h3 hg hr', h4.grown hg h4.size (fun k e => Nat.le_trans hB (hr k e).1)⟩
  obtain ⟨o, ho, hoc⟩ := hr' r e
  rw [hc] at ho
  obtain rfl := Option.some.inj ho
  cases hoc
theorem keeps_own {α : Type} {T : Ty α} {W W' : World} {base n : Nat} {e : TypeId} {v : Value} {l : List α} (h : OwnF T W base e v n l) (hg : W.grownBy W' v.ownBlock) : KeepsOthers W W' :=
  KeepsOthers.of_grownBy hg fun j o hj ho => by
    obtain ⟨cs, hc⟩ := own_cells h hj
    rw [hc] at ho
    obtain rfl := Option.some.inj ho
    rfl
theorem decI_put {w W w9 : World} {s : ByteArray} {pre : List Sg} {v v9 : Value} {o : Obj} (x : Sg) (h1 : W.heap[w.heap.size]? = some (.cells #[v] 84 (0, 0))) (h2 : OwnF (tInt .i32) W w.heap.size 21 v pre.length (pre.map fun x => x.1.2)) (h3 : W.heap[w.heap.size + 1]? = some (.cells #[.string s] 9 (0, 0))) (h4 : Below w.heap.size w W)
    (hown : OwnF (tInt .i32) w9 w.heap.size 21 v9 (pre.length + 1) (pre.map (fun x => x.1.2) ++ [x.1.2])) (hg : (W.alloc o).grownBy w9 v.ownBlock) (hbl : Below w.heap.size (W.alloc o) w9) :
    (w9.heap[w.heap.size]? = some (.cells #[v] 84 (0, 0))) ∧ KeepsOthers W (w9.setCell ⟨w.heap.size, 0, none⟩ v9) ∧ Kept (w.heap.size + 1) W (w9.setCell ⟨w.heap.size, 0, none⟩ v9) ∧ DecI w s (pre ++ [x]) (w9.setCell ⟨w.heap.size, 0, none⟩ v9) := by
  have hl1 := (Array.getElem?_eq_some_iff.1 h1).1
  have hl3 := (Array.getElem?_eq_some_iff.1 h3).1
  have hA : OwnF (tInt .i32) (W.alloc o) w.heap.size 21 v pre.length (pre.map fun x => x.1.2) := OwnF.al h2 o
  have n1 : some w.heap.size ≠ v.ownBlock := fun e => by
    obtain ⟨cs, hc⟩ := own_cells h2 e.symm
    rw [h1] at hc
    have := Option.some.inj hc
    injection this with _ h2
    exact absurd h2 (by decide)
  have n3 : some (w.heap.size + 1) ≠ v.ownBlock := fun e => by
    obtain ⟨cs, hc⟩ := own_cells h2 e.symm
    rw [h3] at hc
    have := Option.some.inj hc
    injection this with _ h2
    exact absurd h2 (by decide)
  have e1 : w9.heap[w.heap.size]? = some (.cells #[v] 84 (0, 0)) := (hg.block _ (by rw [World.size_alloc]; omega) n1).trans ((Lib.alloc_old W o _ hl1).trans h1)
  have e3 : w9.heap[w.heap.size + 1]? = some (.cells #[.string s] 9 (0, 0)) := (hg.block _ (by rw [World.size_alloc]; omega) n3).trans ((Lib.alloc_old W o _ hl3).trans h3)
  have hgs : w9.grownBy (w9.setCell ⟨w.heap.size, 0, none⟩ v9) (some w.heap.size) :=
    ⟨rfl, rfl, rfl, by simp [World.setCell], fun k _ hk => Below.heap_setCell w9 ⟨w.heap.size, 0, none⟩ v9 k (fun e => hk (by rw [show k = w.heap.size from e]))⟩
  have e3' : (w9.setCell ⟨w.heap.size, 0, none⟩ v9).heap[w.heap.size + 1]? = some (.cells #[.string s] 9 (0, 0)) :=
    (Below.heap_setCell w9 ⟨w.heap.size, 0, none⟩ v9 _ (by intro e; have e' : w.heap.size + 1 = w.heap.size := e; omega)).trans e3
  refine ⟨e1, ((KeepsOthers.alloc W o).trans (keeps_own hA hg)).trans (KeepsOthers.setCell _ _ _), ?_, ⟨v9, by rw [set_blk e1]; rfl, ?_⟩, e3', ((h4.alloc h4.size o).trans hbl).setCell (p := ⟨w.heap.size, 0, none⟩) (Nat.le_refl _) _⟩
  · show (w9.setCell _ _).cell? ⟨w.heap.size + 1, 0, none⟩ = W.cell? ⟨w.heap.size + 1, 0, none⟩
    rw [Lib.cell_of_heap e3', Lib.cell_of_heap h3]
  · have hk := decF_kept hown hgs fun r e cs hc => by
      have e' : w.heap.size = r := Option.some.inj e
      subst e'
      rw [e1] at hc
      have := Option.some.inj hc
      injection this with _ h2
      exact absurd h2 (by decide)
    rw [List.length_append, List.map_append]
    exact hk

set_option maxRecDepth 100000 in
set_option maxHeartbeats 2000000 in
theorem decode_any (s : ByteArray) (w : World) (hs : s.size ≤ 1000000000) :
    Calls Tryz.prog 33 #[.string s] w fun e w' => ∃ v, e = .returned v ∧ OwnF (tInt .i32) w' w.heap.size 21 v (signsL 0 s.data.toList).length (runesL s.data.toList) ∧ Below w.heap.size w w' := by
  refine (callsIn_wide (n := 9)).1 ?_
  refine callsIn_of_wp_marks Tryz.func33 rfl trivial ?_ rfl
  simp only [Tryz.ntmps33, List.size_toArray, List.length_cons, List.length_nil, Nat.reduceAdd, Nat.reduceSub, Array.replicate_succ, Array.replicate_zero, List.push_toArray, List.append_toArray, List.nil_append, List.cons_append]
  gi_wp2
  refine ⟨trivial, callsIn_wide.2 ((signs_any s _).mono ?_)⟩
  rintro e w1 ⟨rfl, rfl⟩
  simp only [World.size_alloc]
  obtain ⟨w3, hw3⟩ : ∃ w3, w3 = (w.alloc (.cells #[.slice none 0 0] 84)).alloc (.cells #[.string s] 9) := ⟨_, rfl⟩
  have hz3 : w3.heap.size = w.heap.size + 2 := by rw [hw3]; simp
  have hI0 : DecI w s [] w3 := by
    rw [hw3]
    refine ⟨⟨.slice none 0 0, ?_, OwnF.nil _ _ _⟩, ?_, ((Below.refl _ w).alloc (Nat.le_refl _) _).alloc (by simp) _⟩
    · exact (Lib.alloc_old _ _ _ (by simp)).trans (heap_alloc_new w _)
    · have := heap_alloc_new (w.alloc (.cells #[.slice none 0 0] 84)) (.cells #[.string s] 9)
      rwa [World.size_alloc] at this
  rw [← hw3]
  clear hw3
  gi_wp2
  refine wpIn_rangeFunc_ownF (n := 9) rfl (by decide) (gf := 115) (lb := #[.pointer (some ⟨w.heap.size + 1, 0, none⟩)]) rfl trivial (enters_of Tryz.func115 (by kernel_rfl) rfl)
    (signs_stops 8 (by decide) (w.heap.size + 1) s hs w3 (by omega) (cell_blk hI0.2.1 rfl)) kept_t (kept_b (by omega)) (Below.refl _ _) (fun _ => rfl)
    (DecI w s) (fun _ _ _ => False) (decI_own w s w3.heap.size (by omega)) (fun _ _ _ _ _ hs _ _ => hs) hI0
    (fun x => { tmps := #[.string s, undef, .slice none 0 0, .pointer (some ⟨w.heap.size, 0, none⟩), undef, .int .i32 x.1.2, .string s, .func (.func 115) #[] #[.pointer (some ⟨w.heap.size + 1, 0, none⟩)], .int .i64 x.1.1, .int .i32 x.1.2, undef, undef, undef, undef, undef], defers := [] }) ?assign ?body ?done ?stop
  case assign =>
    intro l x W K hK
    gi_wp2
    exact hK
  case body =>
    rintro l pre x W hI hlen
    obtain ⟨⟨v, h1, h2⟩, h3, h4⟩ := hI
    have hsz := h4.size
    have c1 : W.cell? ⟨w.heap.size, 0, none⟩ = some v := cell_blk h1 rfl
    have HP := Lib.hid (fun (w9 : World) (v9 : Value) (o : Obj) => decI_put (w9 := w9) (v9 := v9) (o := o) x h1 h2 h3 h4)
    gi_wp2_with (gi_at_builtin; refine wpListIn_ap1 _ rfl (.tmp 10) (.tmp 12) 84 rfl elemRune (v := v) (D := fun _ => False) rfl (OwnF.al h2 _) (fun _ h => h.elim) (y := x.1.2) (cs := [.int .i32 x.1.2]) rfl ⟨rfl, x.2⟩ (cell_new W _ _) (by omega) (by omega) (by rw [World.size_alloc]; omega) ?_; intro v9 w9 hown9 hg9 hbl9 _; obtain ⟨A9, a9, rfl⟩ := Own.form hown9; obtain ⟨e9, k9⟩ := HP.out _ _ _ hown9 hg9 hbl9; have K9 := Lib.hid k9; have d9 : w9.cell? ⟨w.heap.size, 0, none⟩ = some v := cell_blk e9 rfl; have f9 : w9.frozen? ⟨w.heap.size, 0, none⟩ = false := free_blk e9; clear hown9 hg9 hbl9 k9 e9)
    exact K9.out
  case done =>
    rintro D ys W hD rfl hI hK
    obtain ⟨⟨v, h1, h2⟩, h3, h4⟩ := hI
    have c1 : W.cell? ⟨w.heap.size, 0, none⟩ = some v := cell_blk h1 rfl
    gi_wp2
    refine ⟨by simp, .inl ⟨_, _, rfl, run_takeDeferred hK, ?_⟩⟩
    refine ⟨_, results_tmp rfl _ _ _, v, rfl, ?_, h4.trans (belowK_b (w := w) (Nat.le_refl _) W D _ _ (by omega) hK rfl rfl)⟩
    have hgp := grownBy_putObj' W D (.deferred none)
    refine (decF_kept h2 hgp fun r e cs hc => ?_)
    have e' : D = r := Option.some.inj e
    subst e'
    rw [hK] at hc
    cases hc
  case stop =>
    rintro D c pre W _ _ h _
    exact h.elim
end Go.Proofs.YtpbngckplbnahaaGreatDoor
