/-
The walk of noted: what a step notes of an edit that was done.
-/
import Derived.Test.YtfeighclpaijoaaGreatDoorRecAttr
import Derived.Deep.DeepCutAuto
import Derived.Deep.CutBlock
namespace Go.Proofs.YtfeighclpaijoaaGreatDoor
open Go.RowKit Go.Cl
attribute [local go_sem ↓] Go.wp_at_zero Go.wp_at_succ

/-- The boxes of noted. -/
structure NB (w : World) (dc oc ce cr : Array Value) (u : World) : Prop where
  below : Below w.heap.size w u
  d : u.heap[w.heap.size]? = some (.cells dc 24 (0, 0))
  o : u.heap[w.heap.size + 1]? = some (.cells oc 24 (0, 0))
  e : u.heap[w.heap.size + 1 + 1]? = some (.cells ce 45 (0, 0))
  r : u.heap[w.heap.size + 1 + 1 + 1]? = some (.cells cr 48 (0, 0))
theorem NB.grown {w : World} {dc oc ce cr : Array Value} {u u' : World} {S : Nat} (h : NB w dc oc ce cr u) (hg : u.grownBy u' (some S)) (hS : S = w.heap.size + 4) : NB w dc oc ce cr u' := by
  subst hS
  have hl := (Array.getElem?_eq_some_iff.1 h.r).1
  have k : ∀ j, j < 4 → u'.heap[w.heap.size + j]? = u.heap[w.heap.size + j]? := fun j hj => hg.block _ (by omega) (by intro e; injection e; omega)
  refine ⟨h.below.grown hg (by omega) (fun k hk => by injection hk; omega), (k 0 (by omega)).trans h.d, (k 1 (by omega)).trans h.o, (k 2 (by omega)).trans h.e, (k 3 (by omega)).trans h.r⟩
theorem ed_at {l : List Nd} {e : Edt} (he : edErr l e = 0) (h : e.do_ = 1 ∨ e.do_ = 2 ∨ e.do_ = 3) : ∃ m x, e.at_ = ((m : Nat) : Int) ∧ l[m]? = some x := by
  cases hx : nodeAt l e.at_ with
  | some x =>
    obtain ⟨m, em, hm⟩ := nodeAt_some hx
    exact ⟨m, x, em, hm⟩
  | none =>
    unfold edErr at he
    rcases h with h | h | h
    · rw [if_pos h] at he
      unfold attrErr at he
      rw [hx] at he
      cases he
    · rw [if_neg (by omega), if_pos h] at he
      unfold dropErr at he
      rw [hx] at he
      cases he
    · rw [if_neg (by omega), if_neg (by omega), if_pos h] at he
      unfold textErr at he
      rw [hx] at he
      cases he
theorem cell_so {u : World} {S i : Nat} {v x : Value} {p : Addr} (h : u.cell? p = some x) (hne : p.block ≠ S) : (u.setCell ⟨S, i, none⟩ v).cell? p = some x := (World.cell?_setCell_other u _ p v (fun e => hne (by rw [← e]))).trans h
theorem sl_far2 {α : Type} {T : Ty α} {w : World} {D : Nat → Prop} {O : Nat} {A : Option Addr} {n c : Nat} {xs : List α} (h : Sl T w D A n c xs) (hO : ¬ D O) (i : Nat) (v : Value) : Sl T (w.setCell ⟨O, i, none⟩ v) D A n c xs :=
  h.keep fun p hp => World.cell?_setCell_other w _ p v (fun e => hO (by rw [← e] at hp; exact hp))
/-- What noted leaves behind. -/
def NtPost (w : World) (s : Stp) (e' : Ending) (w' : World) : Prop :=
  ∃ A5 c5 A6 c6, e' = .returned (.agg (stpCells s A5 s.edit.node.attrs.length c5 A6 s.edit.node.kids.length c6)) ∧ Below w.heap.size w w' ∧ StpOk w' (rg w.heap.size w'.heap.size) s A5 s.edit.node.attrs.length c5 A6 s.edit.node.kids.length c6
theorem note_edit (l k : List Nd) (e : Edt) : (noteD l k e).edit = e := by
  unfold noteD atNote
  split
  · split <;> rfl
  · split
    · rfl
    · split
      · rfl
      · split
        · rfl
        · split <;> rfl
theorem store16 {w : World} {R : Nat} {e : TypeId} {a0 a1 a2 a3 a4 a5 a6 a7 a8 a9 a10 a11 a12 a13 a14 a15 : Value} (h : w.heap[R]? = some (.cells #[a0, a1, a2, a3, a4, a5, a6, a7, a8, a9, a10, a11, a12, a13, a14, a15] e (0, 0))) (v0 v1 v2 v3 v4 v5 v6 v7 v8 v9 v10 v11 v12 v13 v14 v15 : Value) :
    (((((((((((((((((w).setCell ⟨R, 0, none⟩ v0).setCell ⟨R, 1, none⟩ v1).setCell ⟨R, 2, none⟩ v2).setCell ⟨R, 3, none⟩ v3).setCell ⟨R, 4, none⟩ v4).setCell ⟨R, 5, none⟩ v5).setCell ⟨R, 6, none⟩ v6).setCell ⟨R, 7, none⟩ v7).setCell ⟨R, 8, none⟩ v8).setCell ⟨R, 9, none⟩ v9).setCell ⟨R, 10, none⟩ v10).setCell ⟨R, 11, none⟩ v11).setCell ⟨R, 12, none⟩ v12).setCell ⟨R, 13, none⟩ v13).setCell ⟨R, 14, none⟩ v14).setCell ⟨R, 15, none⟩ v15).heap[R]? = some (.cells #[v0, v1, v2, v3, v4, v5, v6, v7, v8, v9, v10, v11, v12, v13, v14, v15] e (0, 0)) ∧ w.grownBy (((((((((((((((((w).setCell ⟨R, 0, none⟩ v0).setCell ⟨R, 1, none⟩ v1).setCell ⟨R, 2, none⟩ v2).setCell ⟨R, 3, none⟩ v3).setCell ⟨R, 4, none⟩ v4).setCell ⟨R, 5, none⟩ v5).setCell ⟨R, 6, none⟩ v6).setCell ⟨R, 7, none⟩ v7).setCell ⟨R, 8, none⟩ v8).setCell ⟨R, 9, none⟩ v9).setCell ⟨R, 10, none⟩ v10).setCell ⟨R, 11, none⟩ v11).setCell ⟨R, 12, none⟩ v12).setCell ⟨R, 13, none⟩ v13).setCell ⟨R, 14, none⟩ v14).setCell ⟨R, 15, none⟩ v15) (some R) := by
  have step : ∀ (u : World) (cs ds : Array Value) (i : Nat) (v : Value), u.heap[R]? = some (.cells cs e (0, 0)) → cs.setIfInBounds i v = ds → (u.setCell ⟨R, i, none⟩ v).heap[R]? = some (.cells ds e (0, 0)) := fun u cs ds i v h1 h2 => h2 ▸ set_blk h1 v
  refine ⟨?_, grownBy.trans' (grownBy.trans' (grownBy.trans' (grownBy.trans' (grownBy.trans' (grownBy.trans' (grownBy.trans' (grownBy.trans' (grownBy.trans' (grownBy.trans' (grownBy.trans' (grownBy.trans' (grownBy.trans' (grownBy.trans' (grownBy.trans' (grown_set _ _ _ _) (grown_set _ _ _ _)) (grown_set _ _ _ _)) (grown_set _ _ _ _)) (grown_set _ _ _ _)) (grown_set _ _ _ _)) (grown_set _ _ _ _)) (grown_set _ _ _ _)) (grown_set _ _ _ _)) (grown_set _ _ _ _)) (grown_set _ _ _ _)) (grown_set _ _ _ _)) (grown_set _ _ _ _)) (grown_set _ _ _ _)) (grown_set _ _ _ _)) (grown_set _ _ _ _)⟩
  have h1 := step (w) _ #[v0, a1, a2, a3, a4, a5, a6, a7, a8, a9, a10, a11, a12, a13, a14, a15] 0 v0 h rfl
  have h2 := step ((w).setCell ⟨R, 0, none⟩ v0) _ #[v0, v1, a2, a3, a4, a5, a6, a7, a8, a9, a10, a11, a12, a13, a14, a15] 1 v1 h1 rfl
  have h3 := step (((w).setCell ⟨R, 0, none⟩ v0).setCell ⟨R, 1, none⟩ v1) _ #[v0, v1, v2, a3, a4, a5, a6, a7, a8, a9, a10, a11, a12, a13, a14, a15] 2 v2 h2 rfl
  have h4 := step ((((w).setCell ⟨R, 0, none⟩ v0).setCell ⟨R, 1, none⟩ v1).setCell ⟨R, 2, none⟩ v2) _ #[v0, v1, v2, v3, a4, a5, a6, a7, a8, a9, a10, a11, a12, a13, a14, a15] 3 v3 h3 rfl
  have h5 := step (((((w).setCell ⟨R, 0, none⟩ v0).setCell ⟨R, 1, none⟩ v1).setCell ⟨R, 2, none⟩ v2).setCell ⟨R, 3, none⟩ v3) _ #[v0, v1, v2, v3, v4, a5, a6, a7, a8, a9, a10, a11, a12, a13, a14, a15] 4 v4 h4 rfl
  have h6 := step ((((((w).setCell ⟨R, 0, none⟩ v0).setCell ⟨R, 1, none⟩ v1).setCell ⟨R, 2, none⟩ v2).setCell ⟨R, 3, none⟩ v3).setCell ⟨R, 4, none⟩ v4) _ #[v0, v1, v2, v3, v4, v5, a6, a7, a8, a9, a10, a11, a12, a13, a14, a15] 5 v5 h5 rfl
  have h7 := step (((((((w).setCell ⟨R, 0, none⟩ v0).setCell ⟨R, 1, none⟩ v1).setCell ⟨R, 2, none⟩ v2).setCell ⟨R, 3, none⟩ v3).setCell ⟨R, 4, none⟩ v4).setCell ⟨R, 5, none⟩ v5) _ #[v0, v1, v2, v3, v4, v5, v6, a7, a8, a9, a10, a11, a12, a13, a14, a15] 6 v6 h6 rfl
  have h8 := step ((((((((w).setCell ⟨R, 0, none⟩ v0).setCell ⟨R, 1, none⟩ v1).setCell ⟨R, 2, none⟩ v2).setCell ⟨R, 3, none⟩ v3).setCell ⟨R, 4, none⟩ v4).setCell ⟨R, 5, none⟩ v5).setCell ⟨R, 6, none⟩ v6) _ #[v0, v1, v2, v3, v4, v5, v6, v7, a8, a9, a10, a11, a12, a13, a14, a15] 7 v7 h7 rfl
  have h9 := step (((((((((w).setCell ⟨R, 0, none⟩ v0).setCell ⟨R, 1, none⟩ v1).setCell ⟨R, 2, none⟩ v2).setCell ⟨R, 3, none⟩ v3).setCell ⟨R, 4, none⟩ v4).setCell ⟨R, 5, none⟩ v5).setCell ⟨R, 6, none⟩ v6).setCell ⟨R, 7, none⟩ v7) _ #[v0, v1, v2, v3, v4, v5, v6, v7, v8, a9, a10, a11, a12, a13, a14, a15] 8 v8 h8 rfl
  have h10 := step ((((((((((w).setCell ⟨R, 0, none⟩ v0).setCell ⟨R, 1, none⟩ v1).setCell ⟨R, 2, none⟩ v2).setCell ⟨R, 3, none⟩ v3).setCell ⟨R, 4, none⟩ v4).setCell ⟨R, 5, none⟩ v5).setCell ⟨R, 6, none⟩ v6).setCell ⟨R, 7, none⟩ v7).setCell ⟨R, 8, none⟩ v8) _ #[v0, v1, v2, v3, v4, v5, v6, v7, v8, v9, a10, a11, a12, a13, a14, a15] 9 v9 h9 rfl
  have h11 := step (((((((((((w).setCell ⟨R, 0, none⟩ v0).setCell ⟨R, 1, none⟩ v1).setCell ⟨R, 2, none⟩ v2).setCell ⟨R, 3, none⟩ v3).setCell ⟨R, 4, none⟩ v4).setCell ⟨R, 5, none⟩ v5).setCell ⟨R, 6, none⟩ v6).setCell ⟨R, 7, none⟩ v7).setCell ⟨R, 8, none⟩ v8).setCell ⟨R, 9, none⟩ v9) _ #[v0, v1, v2, v3, v4, v5, v6, v7, v8, v9, v10, a11, a12, a13, a14, a15] 10 v10 h10 rfl
  have h12 := step ((((((((((((w).setCell ⟨R, 0, none⟩ v0).setCell ⟨R, 1, none⟩ v1).setCell ⟨R, 2, none⟩ v2).setCell ⟨R, 3, none⟩ v3).setCell ⟨R, 4, none⟩ v4).setCell ⟨R, 5, none⟩ v5).setCell ⟨R, 6, none⟩ v6).setCell ⟨R, 7, none⟩ v7).setCell ⟨R, 8, none⟩ v8).setCell ⟨R, 9, none⟩ v9).setCell ⟨R, 10, none⟩ v10) _ #[v0, v1, v2, v3, v4, v5, v6, v7, v8, v9, v10, v11, a12, a13, a14, a15] 11 v11 h11 rfl
  have h13 := step (((((((((((((w).setCell ⟨R, 0, none⟩ v0).setCell ⟨R, 1, none⟩ v1).setCell ⟨R, 2, none⟩ v2).setCell ⟨R, 3, none⟩ v3).setCell ⟨R, 4, none⟩ v4).setCell ⟨R, 5, none⟩ v5).setCell ⟨R, 6, none⟩ v6).setCell ⟨R, 7, none⟩ v7).setCell ⟨R, 8, none⟩ v8).setCell ⟨R, 9, none⟩ v9).setCell ⟨R, 10, none⟩ v10).setCell ⟨R, 11, none⟩ v11) _ #[v0, v1, v2, v3, v4, v5, v6, v7, v8, v9, v10, v11, v12, a13, a14, a15] 12 v12 h12 rfl
  have h14 := step ((((((((((((((w).setCell ⟨R, 0, none⟩ v0).setCell ⟨R, 1, none⟩ v1).setCell ⟨R, 2, none⟩ v2).setCell ⟨R, 3, none⟩ v3).setCell ⟨R, 4, none⟩ v4).setCell ⟨R, 5, none⟩ v5).setCell ⟨R, 6, none⟩ v6).setCell ⟨R, 7, none⟩ v7).setCell ⟨R, 8, none⟩ v8).setCell ⟨R, 9, none⟩ v9).setCell ⟨R, 10, none⟩ v10).setCell ⟨R, 11, none⟩ v11).setCell ⟨R, 12, none⟩ v12) _ #[v0, v1, v2, v3, v4, v5, v6, v7, v8, v9, v10, v11, v12, v13, a14, a15] 13 v13 h13 rfl
  have h15 := step (((((((((((((((w).setCell ⟨R, 0, none⟩ v0).setCell ⟨R, 1, none⟩ v1).setCell ⟨R, 2, none⟩ v2).setCell ⟨R, 3, none⟩ v3).setCell ⟨R, 4, none⟩ v4).setCell ⟨R, 5, none⟩ v5).setCell ⟨R, 6, none⟩ v6).setCell ⟨R, 7, none⟩ v7).setCell ⟨R, 8, none⟩ v8).setCell ⟨R, 9, none⟩ v9).setCell ⟨R, 10, none⟩ v10).setCell ⟨R, 11, none⟩ v11).setCell ⟨R, 12, none⟩ v12).setCell ⟨R, 13, none⟩ v13) _ #[v0, v1, v2, v3, v4, v5, v6, v7, v8, v9, v10, v11, v12, v13, v14, a15] 14 v14 h14 rfl
  have h16 := step ((((((((((((((((w).setCell ⟨R, 0, none⟩ v0).setCell ⟨R, 1, none⟩ v1).setCell ⟨R, 2, none⟩ v2).setCell ⟨R, 3, none⟩ v3).setCell ⟨R, 4, none⟩ v4).setCell ⟨R, 5, none⟩ v5).setCell ⟨R, 6, none⟩ v6).setCell ⟨R, 7, none⟩ v7).setCell ⟨R, 8, none⟩ v8).setCell ⟨R, 9, none⟩ v9).setCell ⟨R, 10, none⟩ v10).setCell ⟨R, 11, none⟩ v11).setCell ⟨R, 12, none⟩ v12).setCell ⟨R, 13, none⟩ v13).setCell ⟨R, 14, none⟩ v14) _ #[v0, v1, v2, v3, v4, v5, v6, v7, v8, v9, v10, v11, v12, v13, v14, v15] 15 v15 h15 rfl
  exact h16
theorem wf_i64 {x : Int} (h0 : -1000000 ≤ x) (h1 : x ≤ 1000000) : (Lit.int .i64 x).wf = true := by
  have h2 : IntKind.i64.min = -9223372036854775808 := by decide
  have h3 : IntKind.i64.max = 9223372036854775807 := by decide
  simp [Lit.wf, h2, h3]
  omega
theorem idxFrom_bd (x : Int) : ∀ (zs : List Int) (i : Nat), -1 ≤ Lib.idxFrom zs x i ∧ Lib.idxFrom zs x i ≤ (i : Int) + zs.length := by
  intro zs
  induction zs with
  | nil => intro i; exact ⟨Int.le_refl _, by show (-1 : Int) ≤ (i : Int) + _; omega⟩
  | cons z zs ih =>
    intro i
    rw [Lib.idxFrom]
    have := ih (i + 1)
    rw [List.length_cons]
    split <;> omega
theorem nodeD_kids {l : List Nd} (G : Good l) (z : Int) : (nodeD l z).kids.length ≤ 200 := by
  unfold nodeD
  cases h : nodeAt l z with
  | none => simp
  | some x =>
    obtain ⟨m, _, hm⟩ := nodeAt_some h
    exact G.kids_few hm
theorem note_ok {l : List Nd} {e : Edt} (G : Good l) (he : edErr l e = 0) : (noteD l (edDo l e) e).was.size ≤ 1152921504606846976 ∧ (Lit.int .i64 (noteD l (edDo l e) e).parent).wf = true ∧ (Lit.int .i64 (noteD l (edDo l e) e).place).wf = true := by
  have hsm := G.small
  have hx : ∀ z : Int, (nodeD l z).text.size ≤ 400 ∧ AttrsOk (nodeD l z).attrs := fun z => by
    unfold nodeD
    cases h : nodeAt l z with
    | none => exact ⟨by decide, ⟨by simp, by simp, by simp⟩⟩
    | some x =>
      obtain ⟨m, _, hm⟩ := nodeAt_some h
      have h1 := (nodeE_iff x).1 (G.each x (List.mem_of_getElem? hm))
      exact ⟨h1.2.2.2.1, h1.2.2.1⟩
  unfold noteD
  split
  · unfold atNote
    split
    · rename_i _ h0
      obtain ⟨i, a, e1, ha, _⟩ := findA_nat h0
      have hal := (List.getElem?_eq_some_iff.1 ha).1
      have h12 := (hx e.at_).2.few
      refine ⟨?_, rfl, by rw [e1]; exact wf_i64 (by show -1000000 ≤ (i : Int); omega) (by show (i : Int) ≤ 1000000; omega)⟩
      rw [e1, Int.toNat_natCast, ha]
      have := ((hx e.at_).2.each a (List.mem_of_getElem? ha)).2
      show a.2.size ≤ _
      omega
    · exact ⟨Nat.zero_le _, rfl, rfl⟩
  · split
    · have := (hx e.at_).1
      exact ⟨by show (nodeD l e.at_).text.size ≤ _; omega, rfl, rfl⟩
    · split
      · exact ⟨Nat.zero_le _, rfl, wf_i64 (by show -1000000 ≤ (l.length : Int); omega) (by show (l.length : Int) ≤ 1000000; omega)⟩
      · split
        · have h1 := idxFrom_bd e.to_ (nodeD (edDo l e) e.at_).kids 0
          have h2 := nodeD_kids (good_ed G he) e.at_
          refine ⟨Nat.zero_le _, rfl, wf_i64 ?_ ?_⟩
          · show -1000000 ≤ Lib.idxOf _ _
            unfold Lib.idxOf
            omega
          · show Lib.idxOf _ _ ≤ 1000000
            unfold Lib.idxOf
            omega
        · split
          · have h1 := idxFrom_bd e.at_ (nodeD l (parD l e.at_)).kids 0
            have h2 := nodeD_kids G (parD l e.at_)
            have h3 : -1 ≤ parD l e.at_ ∧ parD l e.at_ ≤ 200 := by
              cases h : nodeAt l e.at_ with
              | none => rw [parD_none h]; exact ⟨by omega, by omega⟩
              | some x =>
                obtain ⟨m, em, hm⟩ := nodeAt_some h
                rw [em]
                rcases (tree_of (check_of G)).par (List.getElem?_eq_some_iff.1 hm).1 with e1 | ⟨p, e1, hp, _⟩
                · rw [e1]; omega
                · rw [e1]; omega
            refine ⟨Nat.zero_le _, wf_i64 (by show -1000000 ≤ parD l e.at_; omega) (by show parD l e.at_ ≤ 1000000; omega), wf_i64 ?_ ?_⟩
            · show -1000000 ≤ Lib.idxOf _ _
              unfold Lib.idxOf
              omega
            · show Lib.idxOf _ _ ≤ 1000000
              unfold Lib.idxOf
              omega
          · exact ⟨Nat.zero_le _, rfl, rfl⟩
set_option maxRecDepth 100000 in
set_option maxHeartbeats 8000000 in
theorem noted_any (A : Option Addr) (n c : Nat) (l : List Nd) (q : Bool) (A2 : Option Addr) (n2 c2 : Nat) (q2 : Bool) (e : Edt) (Aa : Option Addr) (na ca : Nat) (Ak : Option Addr) (nk ck : Nat) (made : Int) (w : World) (B : Nat) (hl : Sl tNd w (lt B) A n c l) (hl2 : Sl tNd w (lt B) A2 n2 c2 (edDo l e)) (hB : B ≤ w.heap.size) (he : EdtOk w (lt B) e Aa na ca Ak nk ck) (hed : (Lit.int .i64 e.do_).wf = true) (G : Good l) (her : edErr l e = 0) (hm : e.do_ = 4 → made = l.length) :
    Calls Tryz.prog 15 #[.agg #[.slice A n c, .bool q], .agg #[.slice A2 n2 c2, .bool q2], .agg (edtCells e Aa na ca Ak nk ck), .int .i64 made] w (NtPost w (noteD l (edDo l e) e)) := by
  obtain rfl : na = e.node.attrs.length := he.node.attrs.hn
  obtain rfl : nk = e.node.kids.length := he.node.kids.hn
  obtain ⟨na, hna⟩ : ∃ na, e.node.attrs.length = na := ⟨_, rfl⟩
  obtain ⟨nk, hnk⟩ : ∃ nk, e.node.kids.length = nk := ⟨_, rfl⟩
  have hpost : NtPost w (noteD l (edDo l e) e) = fun e' w' => ∃ A5 c5 A6 c6, e' = .returned (.agg (stpCells (noteD l (edDo l e) e) A5 na c5 A6 nk c6)) ∧ Below w.heap.size w w' ∧ StpOk w' (rg w.heap.size w'.heap.size) (noteD l (edDo l e) e) A5 na c5 A6 nk c6 := by
    unfold NtPost
    rw [note_edit, hna, hnk]
  rw [hpost, hna, hnk]
  rw [hna, hnk] at he
  obtain ⟨wa, hwa⟩ : ∃ wa, wa = w.alloc (.cells #[.slice A n c, .bool q] 24) := ⟨_, rfl⟩
  obtain ⟨wb, hwb⟩ : ∃ wb, wb = wa.alloc (.cells #[.slice A2 n2 c2, .bool q2] 24) := ⟨_, rfl⟩
  obtain ⟨wc, hwc⟩ : ∃ wc, wc = wb.alloc (.cells #[.int .i64 e.do_, .int .i64 e.at_, .int .i64 e.to_, .int .i64 e.before, .string e.name, .string e.value, .int .i64 e.node.kind, .string e.node.name, .slice Aa na ca, .string e.node.text, .int .i64 e.node.parent, .slice Ak nk ck] 45) := ⟨_, rfl⟩
  obtain ⟨w0, hw0⟩ : ∃ w0, w0 = wc.alloc (.cells #[.int .i64 0, .int .i64 0, .int .i64 0, .int .i64 0, .string ⟨#[]⟩, .string ⟨#[]⟩, .int .i64 0, .string ⟨#[]⟩, .slice none 0 0, .string ⟨#[]⟩, .int .i64 0, .slice none 0 0, .bool false, .string ⟨#[]⟩, .int .i64 0, .int .i64 0] 48) := ⟨_, rfl⟩
  obtain ⟨w1, hw1⟩ : ∃ w1, w1 = w0.alloc (.cells (stpCells ⟨e, false, ⟨#[]⟩, 0, 0⟩ Aa na ca Ak nk ck) 48) := ⟨_, rfl⟩
  have za : wa.heap.size = w.heap.size + 1 := by rw [hwa]; exact World.size_alloc w _
  have zb : wb.heap.size = w.heap.size + 2 := by rw [hwb, World.size_alloc, za]
  have zc : wc.heap.size = w.heap.size + 3 := by rw [hwc, World.size_alloc, zb]
  have z0 : w0.heap.size = w.heap.size + 4 := by rw [hw0, World.size_alloc, zc]
  have z1 : w1.heap.size = w.heap.size + 5 := by rw [hw1, World.size_alloc, z0]
  have xa : wa.heap[w.heap.size]? = some (.cells #[.slice A n c, .bool q] 24 (0, 0)) := by rw [hwa]; exact heap_alloc_new w _
  have xb : wb.heap[w.heap.size + 1]? = some (.cells #[.slice A2 n2 c2, .bool q2] 24 (0, 0)) := by rw [hwb, ← za]; exact heap_alloc_new wa _
  have xc : wc.heap[w.heap.size + 2]? = some (.cells #[.int .i64 e.do_, .int .i64 e.at_, .int .i64 e.to_, .int .i64 e.before, .string e.name, .string e.value, .int .i64 e.node.kind, .string e.node.name, .slice Aa na ca, .string e.node.text, .int .i64 e.node.parent, .slice Ak nk ck] 45 (0, 0)) := by rw [hwc, ← zb]; exact heap_alloc_new wb _
  have x0 : w0.heap[w.heap.size + 3]? = some (.cells #[.int .i64 0, .int .i64 0, .int .i64 0, .int .i64 0, .string ⟨#[]⟩, .string ⟨#[]⟩, .int .i64 0, .string ⟨#[]⟩, .slice none 0 0, .string ⟨#[]⟩, .int .i64 0, .slice none 0 0, .bool false, .string ⟨#[]⟩, .int .i64 0, .int .i64 0] 48 (0, 0)) := by rw [hw0, ← zc]; exact heap_alloc_new wc _
  have x1 : w1.heap[w.heap.size + 4]? = some (.cells (stpCells ⟨e, false, ⟨#[]⟩, 0, 0⟩ Aa na ca Ak nk ck) 48 (0, 0)) := by rw [hw1, ← z0]; exact heap_alloc_new w0 _
  have k10 : ∀ j, j < 4 → w1.heap[w.heap.size + j]? = w0.heap[w.heap.size + j]? := fun j hj => by rw [hw1]; exact Lib.alloc_old _ _ _ (by omega)
  have k0c : ∀ j, j < 3 → w0.heap[w.heap.size + j]? = wc.heap[w.heap.size + j]? := fun j hj => by rw [hw0]; exact Lib.alloc_old _ _ _ (by omega)
  have kcb : ∀ j, j < 2 → wc.heap[w.heap.size + j]? = wb.heap[w.heap.size + j]? := fun j hj => by rw [hwc]; exact Lib.alloc_old _ _ _ (by omega)
  have kba : ∀ j, j < 1 → wb.heap[w.heap.size + j]? = wa.heap[w.heap.size + j]? := fun j hj => by rw [hwb]; exact Lib.alloc_old _ _ _ (by omega)
  have hb1 : Below w.heap.size w w1 := by rw [hw1, hw0, hwc, hwb, hwa]; exact (((((Below.refl _ _).alloc (Nat.le_refl _) _).alloc (by simp) _).alloc (by simp; omega) _).alloc (by simp; omega) _).alloc (by simp; omega) _
  have N1 : Hid (NB w #[.slice A n c, .bool q] #[.slice A2 n2 c2, .bool q2] #[.int .i64 e.do_, .int .i64 e.at_, .int .i64 e.to_, .int .i64 e.before, .string e.name, .string e.value, .int .i64 e.node.kind, .string e.node.name, .slice Aa na ca, .string e.node.text, .int .i64 e.node.parent, .slice Ak nk ck] #[.int .i64 0, .int .i64 0, .int .i64 0, .int .i64 0, .string ⟨#[]⟩, .string ⟨#[]⟩, .int .i64 0, .string ⟨#[]⟩, .slice none 0 0, .string ⟨#[]⟩, .int .i64 0, .slice none 0 0, .bool false, .string ⟨#[]⟩, .int .i64 0, .int .i64 0] w1) :=
    ⟨hb1, (k10 0 (by omega)).trans ((k0c 0 (by omega)).trans ((kcb 0 (by omega)).trans ((kba 0 (by omega)).trans xa))), (k10 1 (by omega)).trans ((k0c 1 (by omega)).trans ((kcb 1 (by omega)).trans xb)), (k10 2 (by omega)).trans ((k0c 2 (by omega)).trans xc), (k10 3 (by omega)).trans x0⟩
  have xc0 := (k0c 2 (by omega)).trans xc
  have HX1 := Lib.hid x1
  have HL1 := Lib.hid (hl.below hb1 hB)
  have HL2 := Lib.hid (hl2.below hb1 hB)
  have HE1 := Lib.hid (he.below hb1 hB)
  have HZ1 := Lib.hid z1
  have HZ0 := Lib.hid z0
  have HBW : Hid (B ≤ w.heap.size) := hB
  have HG := Lib.hid G
  have HER := Lib.hid her
  have HM := Lib.hid hm
  have HED := Lib.hid hed
  have HNA := Lib.hid hna
  have HNK := Lib.hid hnk
  have v0 := cell_blk (i := 0) xc0 rfl
  have v1 := cell_blk (i := 1) xc0 rfl
  have v2 := cell_blk (i := 2) xc0 rfl
  have v3 := cell_blk (i := 3) xc0 rfl
  have v4 := cell_blk (i := 4) xc0 rfl
  have v5 := cell_blk (i := 5) xc0 rfl
  have v6 := cell_blk (i := 6) xc0 rfl
  have v7 := cell_blk (i := 7) xc0 rfl
  have v8 := cell_blk (i := 8) xc0 rfl
  have v9 := cell_blk (i := 9) xc0 rfl
  have v10 := cell_blk (i := 10) xc0 rfl
  have v11 := cell_blk (i := 11) xc0 rfl
  clear za zb zc z0 z1 xa xb xc x0 k10 k0c kcb kba hb1 hl hl2 he hB G her hm hed hna hnk hpost x1
  go_enter Tryz.func15, Tryz.ntmps15
  unfold edtCells
  go_upto_region 1 with fail
  rw [← hwa, ← hwb, ← hwc, ← hw0]
  clear hwa hwb hwc hw0
  unfold stpCells at hw1
  go_upto_region 2 with fail
  rw [← hw1]
  clear hw1 v0 v1 v2 v3 v4 v5 v6 v7 v8 v9 v10 v11 xc0
  obtain ⟨S, hS⟩ : ∃ S, w0.heap.size = S := ⟨_, rfl⟩
  rw [hS]
  have HSZ : Hid (S = w.heap.size + 4) := hS.symm.trans HZ0.out
  have HX1 : Hid (w1.heap[S]? = some (.cells (stpCells ⟨e, false, ⟨#[]⟩, 0, 0⟩ Aa na ca Ak nk ck) 48 (0, 0))) := by rw [HSZ.out]; exact HX1.out
  clear hS
  have v0 := cell_blk (i := 0) N1.out.e rfl
  have v1 := cell_blk (i := 1) N1.out.e rfl
  have v2 := cell_blk (i := 2) N1.out.e rfl
  have v3 := cell_blk (i := 3) N1.out.e rfl
  have v4 := cell_blk (i := 4) N1.out.e rfl
  have v5 := cell_blk (i := 5) N1.out.e rfl
  have v6 := cell_blk (i := 6) N1.out.e rfl
  have v7 := cell_blk (i := 7) N1.out.e rfl
  have v8 := cell_blk (i := 8) N1.out.e rfl
  have v9 := cell_blk (i := 9) N1.out.e rfl
  have v10 := cell_blk (i := 10) N1.out.e rfl
  have v11 := cell_blk (i := 11) N1.out.e rfl
  have d0 := cell_blk (i := 0) N1.out.d rfl
  have o0 := cell_blk (i := 0) N1.out.o rfl
  have s12 := cell_blk (i := 12) HX1.out rfl
  have s13 := cell_blk (i := 13) HX1.out rfl
  have s14 := cell_blk (i := 14) HX1.out rfl
  have s15 := cell_blk (i := 15) HX1.out rfl
  have f12 := free_blk (i := 12) HX1.out
  have f13 := free_blk (i := 13) HX1.out
  have f14 := free_blk (i := 14) HX1.out
  have f15 := free_blk (i := 15) HX1.out
  go_upto_block 0 with fail
  go_cut [] (fun wx => w1.grownBy wx (some S) ∧ wx.heap[S]? = some (.cells (stpCells (noteD l (edDo l e) e) Aa na ca Ak nk ck) 48 (0, 0)))
  case first =>
    rcases edErr_do HER.out with h | h | h | h | h | h
    · obtain ⟨m, x, em, hx⟩ := ed_at HER.out (Or.inl h)
      have HR := Lib.hid (show noteD l (edDo l e) e = atNote e x.attrs by unfold noteD; rw [if_pos (Or.inl h), em, nodeD_nat hx])
      obtain ⟨b, o, A7, n7, c7, A8, n8, c8, rfl, _, hnd, hcx⟩ := Sl.nd HL1.out hx
      have HAT := Lib.hid (attribute_any x A7 n7 c7 A8 n8 c8 S e Aa na ca Ak nk ck w1 B hnd (Nat.le_trans HBW.out N1.out.below.size) HX1.out)
      have y0 : w1.cell? ⟨b, o + m * 6, none⟩ = some (.int .i64 x.kind) := hcx 0 _ rfl
      have y1 : w1.cell? ⟨b, o + m * 6 + 1, none⟩ = some (.string x.name) := by rw [Nat.add_assoc]; exact hcx 1 _ rfl
      have y2 : w1.cell? ⟨b, o + m * 6 + 2, none⟩ = some (.slice A7 n7 c7) := by rw [Nat.add_assoc]; exact hcx 2 _ rfl
      have y3 : w1.cell? ⟨b, o + m * 6 + 3, none⟩ = some (.string x.text) := by rw [Nat.add_assoc]; exact hcx 3 _ rfl
      have y4 : w1.cell? ⟨b, o + m * 6 + 4, none⟩ = some (.int .i64 x.parent) := by rw [Nat.add_assoc]; exact hcx 4 _ rfl
      have y5 : w1.cell? ⟨b, o + m * 6 + 5, none⟩ = some (.slice A8 n8 c8) := by rw [Nat.add_assoc]; exact hcx 5 _ rfl
      have hmn : m < n := by have := HL1.out.hn; have := (List.getElem?_eq_some_iff.1 hx).1; omega
      have hcap := HL1.out.hc
      have i1 : (0 : Int) ≤ (m : Int) := by omega
      have i2 : (m : Int) < (n : Int) := by omega
      have t1 : (e.do_ == 1) = true := by rw [h]; rfl
      have t2 : (e.do_ == 2) = false := by rw [h]; rfl
      have t3 : (e.do_ == 3) = false := by rw [h]; rfl
      have t4 : (e.do_ == 4) = false := by rw [h]; rfl
      have t5 : (e.do_ == 5) = false := by rw [h]; rfl
      have t6 : (e.do_ == 6) = false := by rw [h]; rfl
      rw [em] at v1
      clear hcx hnd hx h em
      go_wp2_with (go_at_call 27; refine HAT.out.mono ?_; rintro e' w2 ⟨rfl, hg2, hx2⟩)
      go_meet
      case rel => exact ⟨hg2, by rw [HR.out]; exact hx2⟩
    · obtain ⟨m, x, em, hx⟩ := ed_at HER.out (Or.inr (Or.inl h))
      have HR := Lib.hid (show noteD l (edDo l e) e = atNote e x.attrs by unfold noteD; rw [if_pos (Or.inr h), em, nodeD_nat hx])
      obtain ⟨b, o, A7, n7, c7, A8, n8, c8, rfl, _, hnd, hcx⟩ := Sl.nd HL1.out hx
      have HAT := Lib.hid (attribute_any x A7 n7 c7 A8 n8 c8 S e Aa na ca Ak nk ck w1 B hnd (Nat.le_trans HBW.out N1.out.below.size) HX1.out)
      have y0 : w1.cell? ⟨b, o + m * 6, none⟩ = some (.int .i64 x.kind) := hcx 0 _ rfl
      have y1 : w1.cell? ⟨b, o + m * 6 + 1, none⟩ = some (.string x.name) := by rw [Nat.add_assoc]; exact hcx 1 _ rfl
      have y2 : w1.cell? ⟨b, o + m * 6 + 2, none⟩ = some (.slice A7 n7 c7) := by rw [Nat.add_assoc]; exact hcx 2 _ rfl
      have y3 : w1.cell? ⟨b, o + m * 6 + 3, none⟩ = some (.string x.text) := by rw [Nat.add_assoc]; exact hcx 3 _ rfl
      have y4 : w1.cell? ⟨b, o + m * 6 + 4, none⟩ = some (.int .i64 x.parent) := by rw [Nat.add_assoc]; exact hcx 4 _ rfl
      have y5 : w1.cell? ⟨b, o + m * 6 + 5, none⟩ = some (.slice A8 n8 c8) := by rw [Nat.add_assoc]; exact hcx 5 _ rfl
      have hmn : m < n := by have := HL1.out.hn; have := (List.getElem?_eq_some_iff.1 hx).1; omega
      have hcap := HL1.out.hc
      have i1 : (0 : Int) ≤ (m : Int) := by omega
      have i2 : (m : Int) < (n : Int) := by omega
      have t1 : (e.do_ == 1) = false := by rw [h]; rfl
      have t2 : (e.do_ == 2) = true := by rw [h]; rfl
      have t3 : (e.do_ == 3) = false := by rw [h]; rfl
      have t4 : (e.do_ == 4) = false := by rw [h]; rfl
      have t5 : (e.do_ == 5) = false := by rw [h]; rfl
      have t6 : (e.do_ == 6) = false := by rw [h]; rfl
      rw [em] at v1
      clear hcx hnd hx h em
      go_wp2_with (go_at_call 27; refine HAT.out.mono ?_; rintro e' w2 ⟨rfl, hg2, hx2⟩)
      go_meet
      case rel => exact ⟨hg2, by rw [HR.out]; exact hx2⟩
    · obtain ⟨m, x, em, hx⟩ := ed_at HER.out (Or.inr (Or.inr h))
      have HR := Lib.hid (show noteD l (edDo l e) e = ⟨e, false, x.text, 0, 0⟩ by unfold noteD; rw [if_neg (by omega), if_pos h, em, nodeD_nat hx])
      obtain ⟨b, o, A7, n7, c7, A8, n8, c8, rfl, _, hnd, hcx⟩ := Sl.nd HL1.out hx
      have hmn : m < n := by have := HL1.out.hn; have := (List.getElem?_eq_some_iff.1 hx).1; omega
      have hcap := HL1.out.hc
      have i1 : (0 : Int) ≤ (m : Int) := by omega
      have i2 : (m : Int) < (n : Int) := by omega
      have y3 : w1.cell? ⟨b, o + m * 6 + 3, none⟩ = some (.string x.text) := by rw [Nat.add_assoc]; exact hcx 3 _ rfl
      have t1 : (e.do_ == 1) = false := by rw [h]; rfl
      have t2 : (e.do_ == 2) = false := by rw [h]; rfl
      have t3 : (e.do_ == 3) = true := by rw [h]; rfl
      have t4 : (e.do_ == 4) = false := by rw [h]; rfl
      have t5 : (e.do_ == 5) = false := by rw [h]; rfl
      have t6 : (e.do_ == 6) = false := by rw [h]; rfl
      rw [em] at v1
      clear hcx hnd hx h em
      go_wp2_with fail
      go_meet
      case rel => exact ⟨grown_set _ _ _ _, by rw [HR.out]; exact set_blk HX1.out _⟩
    · have HR := Lib.hid (show noteD l (edDo l e) e = ⟨e, false, ⟨#[]⟩, 0, l.length⟩ by unfold noteD; rw [if_neg (by omega), if_neg (by omega), if_pos h])
      have t1 : (e.do_ == 1) = false := by rw [h]; rfl
      have t2 : (e.do_ == 2) = false := by rw [h]; rfl
      have t3 : (e.do_ == 3) = false := by rw [h]; rfl
      have t4 : (e.do_ == 4) = true := by rw [h]; rfl
      have t5 : (e.do_ == 5) = false := by rw [h]; rfl
      have t6 : (e.do_ == 6) = false := by rw [h]; rfl
      obtain rfl := HM.out h
      clear h
      go_wp2_with fail
      go_meet
      case rel => exact ⟨grown_set _ _ _ _, by rw [HR.out]; exact set_blk HX1.out _⟩
    · have her5 : insErr l e.at_ e.to_ e.before = 0 := by
        have := HER.out
        unfold edErr at this
        rw [if_neg (by omega), if_neg (by omega), if_neg (by omega), if_neg (by omega), if_pos h] at this
        exact this
      obtain ⟨m, tt, x, y, em, et, hi⟩ := insErr_iff her5
      have hlen : (edDo l e).length = l.length := by have h2 := (ed_stay l e).1; rw [if_neg (by omega)] at h2; exact h2
      obtain ⟨x2, hx2⟩ : ∃ x2, (edDo l e)[m]? = some x2 := get_some (by rw [hlen]; exact (List.getElem?_eq_some_iff.1 hi.hx).1)
      have HR := Lib.hid (show noteD l (edDo l e) e = ⟨e, false, ⟨#[]⟩, -1, Lib.idxOf x2.kids e.to_⟩ by unfold noteD; rw [if_neg (by omega), if_neg (by omega), if_neg (by omega), if_pos h, em, nodeD_nat hx2])
      have hmn : m < n2 := by have := HL2.out.hn; have := (List.getElem?_eq_some_iff.1 hx2).1; omega
      obtain ⟨b, o, A7, n7, c7, A8, n8, c8, rfl, hbl, hnd, hcx⟩ := Sl.nd HL2.out hx2
      have hcap := HL2.out.hc
      have i1 : (0 : Int) ≤ (m : Int) := by omega
      have i2 : (m : Int) < (n2 : Int) := by omega
      have y5 : w1.cell? ⟨b, o + m * 6 + 5, none⟩ = some (.slice A8 n8 c8) := by rw [Nat.add_assoc]; exact hcx 5 _ rfl
      have HIX := Lib.hid (index_int A8 n8 c8 x2.kids e.to_ w1.drew _ hnd.kids.drew)
      have t1 : (e.do_ == 1) = false := by rw [h]; rfl
      have t2 : (e.do_ == 2) = false := by rw [h]; rfl
      have t3 : (e.do_ == 3) = false := by rw [h]; rfl
      have t4 : (e.do_ == 4) = false := by rw [h]; rfl
      have t5 : (e.do_ == 5) = true := by rw [h]; rfl
      have t6 : (e.do_ == 6) = false := by rw [h]; rfl
      rw [em] at v1
      clear hcx hnd hx2 h em et hi her5 hlen
      go_upto_region 11 with fail
      refine wp_region_G (S := fun w' : World => w'.cell? ⟨w.heap.size + 1, 0, none⟩ = some (.slice (some ⟨b, o, none⟩) n2 c2) ∧ w'.cell? ⟨w.heap.size + 1 + 1, 1, none⟩ = some (.int .i64 (m : Int)) ∧ w'.cell? ⟨w.heap.size + 1 + 1, 2, none⟩ = some (.int .i64 e.to_) ∧ w'.cell? ⟨b, o + m * 6 + 5, none⟩ = some (.slice A8 n8 c8)) (T := []) (by kernel_rfl) ?_
      have hb1 : b ≠ S := by have := HSZ.out; have := HBW.out; have : b < B := hbl; omega
      have hb2 : w.heap.size + 1 ≠ S := by have := HSZ.out; omega
      have hb3 : w.heap.size + 1 + 1 ≠ S := by have := HSZ.out; omega
      have hS : (fun w' : World => w'.cell? ⟨w.heap.size + 1, 0, none⟩ = some (.slice (some ⟨b, o, none⟩) n2 c2) ∧ w'.cell? ⟨w.heap.size + 1 + 1, 1, none⟩ = some (.int .i64 (m : Int)) ∧ w'.cell? ⟨w.heap.size + 1 + 1, 2, none⟩ = some (.int .i64 e.to_) ∧ w'.cell? ⟨b, o + m * 6 + 5, none⟩ = some (.slice A8 n8 c8)) w1.drew := ⟨o0, v1, v2, y5⟩
      refine wpAnyG_pure (i := 0) (v := ?_) rfl (by kernel_rfl) (by kernel_rfl) (by kernel_rfl) (fun _ _ _ h => h) rfl ?_ ?_
      rotate_left
      · intro w'
        first | (go_simp; done) | (go_simp; with_reducible rfl)
      refine wpAnyG_take (i := 1) (v := ?_) rfl (by kernel_rfl) (by kernel_rfl) (by kernel_rfl) (by kernel_rfl) (fun _ _ _ h => h) hS rfl ?_ ?_
      rotate_left
      · intro w' hSw
        (try dsimp only at hSw)
        first | (go_simp; done) | (go_simp; with_reducible rfl)
      refine wpAnyG_pure (i := 2) (v := ?_) rfl (by kernel_rfl) (by kernel_rfl) (by kernel_rfl) (fun _ _ _ h => h) rfl ?_ ?_
      rotate_left
      · intro w'
        first | (go_simp; done) | (go_simp; with_reducible rfl)
      refine wpAnyG_take (i := 3) (v := ?_) rfl (by kernel_rfl) (by kernel_rfl) (by kernel_rfl) (by kernel_rfl) (fun _ _ _ h => h) hS rfl ?_ ?_
      rotate_left
      · intro w' hSw
        (try dsimp only at hSw)
        first | (go_simp; done) | (go_simp; with_reducible rfl)
      refine wpAnyG_pure (i := 4) (v := ?_) rfl (by kernel_rfl) (by kernel_rfl) (by kernel_rfl) (fun _ _ _ h => h) rfl ?_ ?_
      rotate_left
      · intro w'
        first | (go_simp; done) | (go_simp; with_reducible rfl)
      refine wpAnyG_pure (i := 5) (v := ?_) rfl (by kernel_rfl) (by kernel_rfl) (by kernel_rfl) (fun _ _ _ h => h) rfl ?_ ?_
      rotate_left
      · intro w'
        first | (go_simp; done) | (go_simp; with_reducible rfl)
      refine wpAnyG_take (i := 6) (v := ?_) rfl (by kernel_rfl) (by kernel_rfl) (by kernel_rfl) (by kernel_rfl) (fun _ _ _ h => h) hS rfl ?_ ?_
      rotate_left
      · intro w' hSw
        (try dsimp only at hSw)
        first | (go_simp; done) | (go_simp; with_reducible rfl)
      refine wpAnyG_pure (i := 7) (v := ?_) rfl (by kernel_rfl) (by kernel_rfl) (by kernel_rfl) (fun _ _ _ h => h) rfl ?_ ?_
      rotate_left
      · intro w'
        first | (go_simp; done) | (go_simp; with_reducible rfl)
      refine wpAnyG_take (i := 8) (v := ?_) rfl (by kernel_rfl) (by kernel_rfl) (by kernel_rfl) (by kernel_rfl) (fun _ _ _ h => h) hS rfl ?_ ?_
      rotate_left
      · intro w' hSw
        (try dsimp only at hSw)
        first | (go_simp; done) | (go_simp; with_reducible rfl)
      refine wpAnyG_one (i := 9) (by kernel_rfl) rfl rfl (fun K hK => ?_)
      go_simp
      go_at_call 28
      refine HIX.out.mono ?_
      rintro e' w2 ⟨rfl, rfl⟩
      go_wp2_with fail
      refine hK.out _ _ (fun _ _ => ⟨o0, v1, v2, y5⟩) ?_
      clear hK K hS
      refine wpAnyG_pure (i := 10) (v := ?_) rfl (by kernel_rfl) (by kernel_rfl) (by kernel_rfl) (fun _ _ _ h => h) rfl ?_ ?_
      rotate_left
      · intro w'
        first | (go_simp; done) | (go_simp; with_reducible rfl)
      refine wpAnyG_one (i := 11) (by kernel_rfl) rfl rfl (fun K hK => ?_)
      go_simp
      refine hK.out _ _ (fun _ _ => ⟨cell_so (u := w1.drew) o0 hb2, cell_so (u := w1.drew) v1 hb3, cell_so (u := w1.drew) v2 hb3, cell_so (u := w1.drew) y5 hb1⟩) ?_
      clear hK K
      refine wpAnyG_pure (i := 12) (v := ?_) rfl (by kernel_rfl) (by kernel_rfl) (by kernel_rfl) (fun _ _ _ h => h) rfl ?_ ?_
      rotate_left
      · intro w'
        first | (go_simp; done) | (go_simp; with_reducible rfl)
      refine wpAnyG_one (i := 13) (by kernel_rfl) rfl rfl (fun K hK => ?_)
      go_simp
      refine hK.out _ _ (fun _ _ => ⟨cell_so (cell_so (u := w1.drew) o0 hb2) hb2, cell_so (cell_so (u := w1.drew) v1 hb3) hb3, cell_so (cell_so (u := w1.drew) v2 hb3) hb3, cell_so (cell_so (u := w1.drew) y5 hb1) hb1⟩) ?_
      clear hK K
      refine wpAnyG_done (by kernel_rfl) ?_ _
      go_wp2_with fail
      go_meet
      case rel => exact ⟨grownBy.trans' (grownBy.trans' (grown_drew _ _) (grown_set _ _ _ _)) (grown_set _ _ _ _), by rw [HR.out]; exact set_blk (set_blk (w := w1.drew) HX1.out _) _⟩
    · obtain ⟨m, p, i, x, y, em, hr⟩ := remErr_iff HG.out (by
        have := HER.out
        unfold edErr at this
        rw [if_neg (by omega), if_neg (by omega), if_neg (by omega), if_neg (by omega), if_neg (by omega), if_pos h] at this
        exact this)
      have hpar : parD l e.at_ = (p : Int) := by rw [em, parD_at hr.hx, hr.par]
      have HR := Lib.hid (show noteD l (edDo l e) e = ⟨e, false, ⟨#[]⟩, (p : Int), Lib.idxOf y.kids (m : Int)⟩ by unfold noteD; rw [if_neg (by omega), if_neg (by omega), if_neg (by omega), if_neg (by omega), if_pos h, hpar, nodeD_nat hr.hy, em])
      obtain ⟨b, o, _, _, _, _, _, _, rfl, hbl, _, hcx⟩ := Sl.nd HL1.out hr.hx
      obtain ⟨b', o', A7, n7, c7, A8, n8, c8, e', _, hnd, hcy⟩ := Sl.nd HL1.out hr.hy
      simp only [Option.some.injEq, Addr.mk.injEq, and_true] at e'
      obtain ⟨rfl, rfl⟩ := e'
      have hmn : m < n := by have := HL1.out.hn; have := (List.getElem?_eq_some_iff.1 hr.hx).1; omega
      have hpn : p < n := by have := HL1.out.hn; have := (List.getElem?_eq_some_iff.1 hr.hy).1; omega
      have hcap := HL1.out.hc
      have i1 : (0 : Int) ≤ (m : Int) := by omega
      have i2 : (m : Int) < (n : Int) := by omega
      have i3 : (0 : Int) ≤ (p : Int) := by omega
      have i4 : (p : Int) < (n : Int) := by omega
      have y4 : w1.cell? ⟨b, o + m * 6 + 4, none⟩ = some (.int .i64 (p : Int)) := by rw [Nat.add_assoc, ← hr.par]; exact hcx 4 _ rfl
      have y5 : w1.cell? ⟨b, o + p * 6 + 5, none⟩ = some (.slice A8 n8 c8) := by rw [Nat.add_assoc]; exact hcy 5 _ rfl
      have hb1 : b ≠ S := by have := HSZ.out; have := HBW.out; have : b < B := hbl; omega
      have hb2 : w.heap.size ≠ S := by have := HSZ.out; omega
      have hb3 : w.heap.size + 1 + 1 ≠ S := by have := HSZ.out; omega
      have HB1 := Lib.hid hb1
      obtain ⟨w2, hw2⟩ : ∃ w2, w2 = w1.setCell ⟨S, 14, none⟩ (.int .i64 (p : Int)) := ⟨_, rfl⟩
      have HSW : Hid (S < w1.heap.size) := (Array.getElem?_eq_some_iff.1 HX1.out).1
      have hk : Sl (tInt .i64) w2 (lt B) A8 n8 c8 y.kids := by rw [hw2]; exact sl_far2 hnd.kids (fun hS : S < B => by have := HSZ.out; have := HBW.out; omega) _ _
      have HIX := Lib.hid (index_int A8 n8 c8 y.kids (m : Int) w2.drew _ hk.drew)
      have hx2 : w2.heap[S]? = some (.cells ((stpCells ⟨e, false, ⟨#[]⟩, 0, 0⟩ Aa na ca Ak nk ck).setIfInBounds 14 (.int .i64 (p : Int))) 48 (0, 0)) := by rw [hw2]; exact set_blk HX1.out _
      have HX2 := Lib.hid hx2
      have HW2 := Lib.hid hw2
      have z0 : w2.cell? ⟨w.heap.size, 0, none⟩ = some (.slice (some ⟨b, o, none⟩) n c) := by rw [hw2]; exact cell_so d0 hb2
      have z1 : w2.cell? ⟨w.heap.size + 1 + 1, 1, none⟩ = some (.int .i64 (m : Int)) := by rw [hw2]; exact cell_so (by rw [← em]; exact v1) hb3
      have z2 : w2.cell? ⟨S, 14, none⟩ = some (.int .i64 (p : Int)) := cell_blk hx2 rfl
      have z3 : w2.cell? ⟨b, o + p * 6 + 5, none⟩ = some (.slice A8 n8 c8) := by rw [hw2]; exact cell_so y5 hb1
      have z4 := cell_blk (i := 15) hx2 rfl
      have z5 := free_blk (i := 15) hx2
      have t1 : (e.do_ == 1) = false := by rw [h]; rfl
      have t2 : (e.do_ == 2) = false := by rw [h]; rfl
      have t3 : (e.do_ == 3) = false := by rw [h]; rfl
      have t4 : (e.do_ == 4) = false := by rw [h]; rfl
      have t5 : (e.do_ == 5) = false := by rw [h]; rfl
      have t6 : (e.do_ == 6) = true := by rw [h]; rfl
      rw [em] at v1
      clear hcx hcy hnd h em hr hpar hk hx2 hb1
      go_upto_region 14 with fail
      rw [← hw2]
      clear hw2
      refine wp_region_G (S := fun w' : World => w'.cell? ⟨w.heap.size, 0, none⟩ = some (.slice (some ⟨b, o, none⟩) n c) ∧ w'.cell? ⟨S, 14, none⟩ = some (.int .i64 (p : Int)) ∧ w'.cell? ⟨w.heap.size + 1 + 1, 1, none⟩ = some (.int .i64 (m : Int)) ∧ w'.cell? ⟨b, o + p * 6 + 5, none⟩ = some (.slice A8 n8 c8)) (T := []) (by kernel_rfl) ?_
      have hS : (fun w' : World => w'.cell? ⟨w.heap.size, 0, none⟩ = some (.slice (some ⟨b, o, none⟩) n c) ∧ w'.cell? ⟨S, 14, none⟩ = some (.int .i64 (p : Int)) ∧ w'.cell? ⟨w.heap.size + 1 + 1, 1, none⟩ = some (.int .i64 (m : Int)) ∧ w'.cell? ⟨b, o + p * 6 + 5, none⟩ = some (.slice A8 n8 c8)) w2.drew := ⟨z0, z2, z1, z3⟩
      refine wpAnyG_pure (i := 0) (v := ?_) rfl (by kernel_rfl) (by kernel_rfl) (by kernel_rfl) (fun _ _ _ h => h) rfl ?_ ?_
      rotate_left
      · intro w'
        first | (go_simp; done) | (go_simp; with_reducible rfl)
      refine wpAnyG_take (i := 1) (v := ?_) rfl (by kernel_rfl) (by kernel_rfl) (by kernel_rfl) (by kernel_rfl) (fun _ _ _ h => h) hS rfl ?_ ?_
      rotate_left
      · intro w' hSw
        (try dsimp only at hSw)
        first | (go_simp; done) | (go_simp; with_reducible rfl)
      refine wpAnyG_pure (i := 2) (v := ?_) rfl (by kernel_rfl) (by kernel_rfl) (by kernel_rfl) (fun _ _ _ h => h) rfl ?_ ?_
      rotate_left
      · intro w'
        first | (go_simp; done) | (go_simp; with_reducible rfl)
      refine wpAnyG_take (i := 3) (v := ?_) rfl (by kernel_rfl) (by kernel_rfl) (by kernel_rfl) (by kernel_rfl) (fun _ _ _ h => h) hS rfl ?_ ?_
      rotate_left
      · intro w' hSw
        (try dsimp only at hSw)
        first | (go_simp; done) | (go_simp; with_reducible rfl)
      refine wpAnyG_pure (i := 4) (v := ?_) rfl (by kernel_rfl) (by kernel_rfl) (by kernel_rfl) (fun _ _ _ h => h) rfl ?_ ?_
      rotate_left
      · intro w'
        first | (go_simp; done) | (go_simp; with_reducible rfl)
      refine wpAnyG_pure (i := 5) (v := ?_) rfl (by kernel_rfl) (by kernel_rfl) (by kernel_rfl) (fun _ _ _ h => h) rfl ?_ ?_
      rotate_left
      · intro w'
        first | (go_simp; done) | (go_simp; with_reducible rfl)
      refine wpAnyG_take (i := 6) (v := ?_) rfl (by kernel_rfl) (by kernel_rfl) (by kernel_rfl) (by kernel_rfl) (fun _ _ _ h => h) hS rfl ?_ ?_
      rotate_left
      · intro w' hSw
        (try dsimp only at hSw)
        first | (go_simp; done) | (go_simp; with_reducible rfl)
      refine wpAnyG_pure (i := 7) (v := ?_) rfl (by kernel_rfl) (by kernel_rfl) (by kernel_rfl) (fun _ _ _ h => h) rfl ?_ ?_
      rotate_left
      · intro w'
        first | (go_simp; done) | (go_simp; with_reducible rfl)
      refine wpAnyG_take (i := 8) (v := ?_) rfl (by kernel_rfl) (by kernel_rfl) (by kernel_rfl) (by kernel_rfl) (fun _ _ _ h => h) hS rfl ?_ ?_
      rotate_left
      · intro w' hSw
        (try dsimp only at hSw)
        first | (go_simp; done) | (go_simp; with_reducible rfl)
      refine wpAnyG_one (i := 9) (by kernel_rfl) rfl rfl (fun K hK => ?_)
      go_simp
      go_at_call 28
      refine HIX.out.mono ?_
      rintro e' w3 ⟨rfl, rfl⟩
      go_wp2_with fail
      refine hK.out _ _ (fun _ _ => ⟨z0, z2, z1, z3⟩) ?_
      clear hK K hS
      refine wpAnyG_pure (i := 10) (v := ?_) rfl (by kernel_rfl) (by kernel_rfl) (by kernel_rfl) (fun _ _ _ h => h) rfl ?_ ?_
      rotate_left
      · intro w'
        first | (go_simp; done) | (go_simp; with_reducible rfl)
      refine wpAnyG_one (i := 11) (by kernel_rfl) rfl rfl (fun K hK => ?_)
      go_simp
      refine hK.out _ _ (fun _ _ => ⟨cell_so (u := w2.drew) z0 hb2, cell_blk (i := 14) (set_blk (w := w2.drew) (i := 15) HX2.out _) rfl, cell_so (u := w2.drew) z1 hb3, cell_so (u := w2.drew) z3 HB1.out⟩) ?_
      clear hK K
      refine wpAnyG_done (by kernel_rfl) ?_ _
      go_wp2_with fail
      go_meet
      case rel =>
        refine ⟨grownBy.trans' (grownBy.trans' (b := w2) (by rw [HW2.out]; exact grown_set _ _ _ _) (grown_drew _ _)) (grown_set _ _ _ _), ?_⟩
        rw [HR.out]
        exact set_blk (w := w2.drew) HX2.out _
  case rest =>
    obtain ⟨hg, hx⟩ := hcut
    have HNK2 := Lib.hid (note_ok HG.out HER.out)
    have hse := note_edit l (edDo l e) e
    obtain ⟨s, hs⟩ : ∃ s, noteD l (edDo l e) e = s := ⟨_, rfl⟩
    rw [hs] at hx hse HNK2
    have HS := Lib.hid hs
    have HSE := Lib.hid hse
    have hx : wc.heap[S]? = some (.cells #[.int .i64 e.do_, .int .i64 e.at_, .int .i64 e.to_, .int .i64 e.before, .string e.name, .string e.value, .int .i64 e.node.kind, .string e.node.name, .slice Aa na ca, .string e.node.text, .int .i64 e.node.parent, .slice Ak nk ck, .bool s.had, .string s.was, .int .i64 s.parent, .int .i64 s.place] 48 (0, 0)) := by rw [← hse]; exact hx
    have N2 := Lib.hid (N1.out.grown hg HSZ.out)
    have HX2 := Lib.hid hx
    have HG2 := Lib.hid hg
    have HSW : Hid (S < w1.heap.size) := (Array.getElem?_eq_some_iff.1 HX1.out).1
    have HSC : Hid (S < wc.heap.size) := (Array.getElem?_eq_some_iff.1 hx).1
    have HE2 : Hid (EdtOk wc (lt B) e Aa na ca Ak nk ck) := HE1.out.below ((Below.refl B w1).grown hg (by have := HBW.out; have := N1.out.below.size; omega) (fun k hk => by injection hk; have := HSZ.out; have := HBW.out; omega)) (Nat.le_refl _)
    have HBC : Hid (B ≤ wc.heap.size) := Nat.le_trans HBW.out N2.out.below.size
    clear hs hse hx hg d0 o0 s12 s13 s14 s15 f12 f13 f14 f15 v0 v1 v2 v3 v4 v5 v6 v7 v8 v9 v10 v11
    have k8 := cell_blk (i := 8) N2.out.e rfl
    have k11 := cell_blk (i := 11) N2.out.e rfl
    have hne : w.heap.size + 1 + 1 ≠ S := by have := HSZ.out; omega
    have HC1 := Lib.hid (cloneDA Aa na ca e.node.attrs wc.drew B HE2.out.node.attrs.drew HBC.out)
    have HC2 := Lib.hid (fun W (hs : Sl (tInt .i64) W (lt B) Ak nk ck e.node.kids) (hz : B ≤ W.heap.size) => cloneI Ak nk ck e.node.kids W B hs hz)
    go_upto_region 15 with fail
    refine wp_region_G (S := fun w' : World => w'.cell? ⟨w.heap.size + 1 + 1, 8, none⟩ = some (.slice Aa na ca) ∧ w'.cell? ⟨w.heap.size + 1 + 1, 11, none⟩ = some (.slice Ak nk ck)) (T := []) (by kernel_rfl) ?_
    have hS : (fun w' : World => w'.cell? ⟨w.heap.size + 1 + 1, 8, none⟩ = some (.slice Aa na ca) ∧ w'.cell? ⟨w.heap.size + 1 + 1, 11, none⟩ = some (.slice Ak nk ck)) wc.drew := ⟨k8, k11⟩
    refine wpAnyG_pure (i := 0) (v := ?_) rfl (by kernel_rfl) (by kernel_rfl) (by kernel_rfl) (fun _ _ _ h => h) rfl ?_ ?_
    rotate_left
    · intro w'
      first | (go_simp; done) | (go_simp; with_reducible rfl)
    refine wpAnyG_pure (i := 1) (v := ?_) rfl (by kernel_rfl) (by kernel_rfl) (by kernel_rfl) (fun _ _ _ h => h) rfl ?_ ?_
    rotate_left
    · intro w'
      first | (go_simp; done) | (go_simp; with_reducible rfl)
    refine wpAnyG_pure (i := 4) (v := ?_) rfl (by kernel_rfl) (by kernel_rfl) (by kernel_rfl) (fun _ _ _ h => h) rfl ?_ ?_
    rotate_left
    · intro w'
      first | (go_simp; done) | (go_simp; with_reducible rfl)
    refine wpAnyG_pure (i := 5) (v := ?_) rfl (by kernel_rfl) (by kernel_rfl) (by kernel_rfl) (fun _ _ _ h => h) rfl ?_ ?_
    rotate_left
    · intro w'
      first | (go_simp; done) | (go_simp; with_reducible rfl)
    refine wpAnyG_take (i := 2) (v := ?_) rfl (by kernel_rfl) (by kernel_rfl) (by kernel_rfl) (by kernel_rfl) (fun _ _ _ h => h) hS rfl ?_ ?_
    rotate_left
    · intro w' hSw
      (try dsimp only at hSw)
      first | (go_simp; done) | (go_simp; with_reducible rfl)
    refine wpAnyG_take (i := 6) (v := ?_) rfl (by kernel_rfl) (by kernel_rfl) (by kernel_rfl) (by kernel_rfl) (fun _ _ _ h => h) hS rfl ?_ ?_
    rotate_left
    · intro w' hSw
      (try dsimp only at hSw)
      first | (go_simp; done) | (go_simp; with_reducible rfl)
    refine wpAnyG_one (i := 3) (by kernel_rfl) rfl rfl (fun K hK => ?_)
    go_simp
    go_at_call 29
    refine HC1.out.mono ?_
    rintro e' w5 ⟨A5, c5, rfl, hb5, ho5⟩
    have m8 := cell_be (w := wc.drew) k8 hb5
    have m11 := cell_be (w := wc.drew) k11 hb5
    go_wp2_with fail
    refine hK.out _ _ (fun _ _ => ⟨m8, m11⟩) ?_
    clear hK K hS
    refine wpAnyG_one (i := 7) (by kernel_rfl) rfl rfl (fun K hK => ?_)
    go_simp
    go_at_call 30
    refine (HC2.out _ ((HE2.out.node.kids.drew).below hb5 HBC.out) (Nat.le_trans HBC.out hb5.size)).mono ?_
    rintro e' w6 ⟨A6, c6, rfl, hb6, ho6⟩
    have n8 := cell_be m8 hb6
    have n11 := cell_be m11 hb6
    go_wp2_with fail
    refine hK.out _ _ (fun _ _ => ⟨n8, n11⟩) ?_
    clear hK K
    have hb36 : Below wc.heap.size wc w6 := ((Below.refl _ wc).drew.trans (hb5.mono (Nat.le_refl _))).trans (hb6.mono hb5.size)
    have hv1 : OwnF tDA w6 wc.heap.size 66 (.slice A5 na c5) na e.node.attrs := OwnF.below (ho5.flat (flatPair flatStr flatStr)) hb6 (Nat.le_refl _)
    have hv2 : OwnF (tInt .i64) w6 wc.heap.size 3 (.slice A6 nk c6) nk e.node.kids := (ho6.flat (flatInt _)).down hb5.size
    have hx6 := (hb36.block S HSC.out).trans HX2.out
    have f8 : w6.frozen? ⟨S, 8, none⟩ = false := free_blk hx6
    have f11 : w6.frozen? ⟨S, 11, none⟩ = false := free_blk hx6
    have c8 := cell_blk (i := 8) hx6 rfl
    have c11 := cell_blk (i := 11) hx6 rfl
    have HV1 := Lib.hid hv1
    have HV2 := Lib.hid hv2
    have HB36 := Lib.hid hb36
    have HX6 := Lib.hid hx6
    clear hb36 hv1 hv2 hb5 hb6 ho5 ho6 m8 m11 k8 k11 HC1 HC2 hx6
    refine wpAnyG_pure (i := 8) (v := ?_) rfl (by kernel_rfl) (by kernel_rfl) (by kernel_rfl) (fun _ _ _ h => h) rfl ?_ ?_
    rotate_left
    · intro w'
      first | (go_simp; done) | (go_simp; with_reducible rfl)
    refine wpAnyG_pure (i := 9) (v := ?_) rfl (by kernel_rfl) (by kernel_rfl) (by kernel_rfl) (fun _ _ _ h => h) rfl ?_ ?_
    rotate_left
    · intro w'
      first | (go_simp; done) | (go_simp; with_reducible rfl)
    refine wpAnyG_pure (i := 10) (v := ?_) rfl (by kernel_rfl) (by kernel_rfl) (by kernel_rfl) (fun _ _ _ h => h) rfl ?_ ?_
    rotate_left
    · intro w'
      first | (go_simp; done) | (go_simp; with_reducible rfl)
    refine wpAnyG_one (i := 11) (by kernel_rfl) rfl rfl (fun K hK => ?_)
    go_simp
    refine hK.out _ _ (fun _ _ => ⟨cell_so n8 hne, cell_so n11 hne⟩) ?_
    clear hK K
    refine wpAnyG_pure (i := 12) (v := ?_) rfl (by kernel_rfl) (by kernel_rfl) (by kernel_rfl) (fun _ _ _ h => h) rfl ?_ ?_
    rotate_left
    · intro w'
      first | (go_simp; done) | (go_simp; with_reducible rfl)
    refine wpAnyG_pure (i := 13) (v := ?_) rfl (by kernel_rfl) (by kernel_rfl) (by kernel_rfl) (fun _ _ _ h => h) rfl ?_ ?_
    rotate_left
    · intro w'
      first | (go_simp; done) | (go_simp; with_reducible rfl)
    refine wpAnyG_pure (i := 14) (v := ?_) rfl (by kernel_rfl) (by kernel_rfl) (by kernel_rfl) (fun _ _ _ h => h) rfl ?_ ?_
    rotate_left
    · intro w'
      first | (go_simp; done) | (go_simp; with_reducible rfl)
    refine wpAnyG_one (i := 15) (by kernel_rfl) rfl rfl (fun K hK => ?_)
    go_simp
    refine hK.out _ _ (fun _ _ => ⟨cell_so (cell_so n8 hne) hne, cell_so (cell_so n11 hne) hne⟩) ?_
    clear hK K
    refine wpAnyG_done (by kernel_rfl) ?_ _
    obtain ⟨w7, hw7⟩ : ∃ w7, w7 = (w6.setCell ⟨S, 8, none⟩ (.slice A5 na c5)).setCell ⟨S, 11, none⟩ (.slice A6 nk c6) := ⟨_, rfl⟩
    have hx7 : w7.heap[S]? = some (.cells #[.int .i64 e.do_, .int .i64 e.at_, .int .i64 e.to_, .int .i64 e.before, .string e.name, .string e.value, .int .i64 e.node.kind, .string e.node.name, .slice A5 na c5, .string e.node.text, .int .i64 e.node.parent, .slice A6 nk c6, .bool s.had, .string s.was, .int .i64 s.parent, .int .i64 s.place] 48 (0, 0)) := by rw [hw7]; exact set_blk (set_blk HX6.out _) _
    have hg67 : w6.grownBy w7 (some S) := by rw [hw7]; exact grownBy.trans' (grown_set _ _ _ _) (grown_set _ _ _ _)
    have hr7 : w7.heap[w.heap.size + 1 + 1 + 1]? = some (.cells #[.int .i64 0, .int .i64 0, .int .i64 0, .int .i64 0, .string ⟨#[]⟩, .string ⟨#[]⟩, .int .i64 0, .string ⟨#[]⟩, .slice none 0 0, .string ⟨#[]⟩, .int .i64 0, .slice none 0 0, .bool false, .string ⟨#[]⟩, .int .i64 0, .int .i64 0] 48 (0, 0)) := by
      rw [hw7]
      exact (heap_setCell_other _ _ _ _ (by have := HSZ.out; show w.heap.size + 1 + 1 + 1 ≠ S; omega)).trans ((heap_setCell_other _ _ _ _ (by have := HSZ.out; show w.heap.size + 1 + 1 + 1 ≠ S; omega)).trans ((HB36.out.block _ (Array.getElem?_eq_some_iff.1 N2.out.r).1).trans N2.out.r))
    have HR7 := Lib.hid hr7
    have HG67 := Lib.hid hg67
    rw [← hw7]
    clear hw7 HX6 HX2 n8 n11 f8 f11 c8 c11 hg67 hne
    have t0 := cell_blk (i := 0) hx7 rfl
    have t1 := cell_blk (i := 1) hx7 rfl
    have t2 := cell_blk (i := 2) hx7 rfl
    have t3 := cell_blk (i := 3) hx7 rfl
    have t4 := cell_blk (i := 4) hx7 rfl
    have t5 := cell_blk (i := 5) hx7 rfl
    have t6 := cell_blk (i := 6) hx7 rfl
    have t7 := cell_blk (i := 7) hx7 rfl
    have t8 := cell_blk (i := 8) hx7 rfl
    have t9 := cell_blk (i := 9) hx7 rfl
    have t10 := cell_blk (i := 10) hx7 rfl
    have t11 := cell_blk (i := 11) hx7 rfl
    have t12 := cell_blk (i := 12) hx7 rfl
    have t13 := cell_blk (i := 13) hx7 rfl
    have t14 := cell_blk (i := 14) hx7 rfl
    have t15 := cell_blk (i := 15) hx7 rfl
    have r0 := cell_blk (i := 0) hr7 rfl
    have r1 := cell_blk (i := 1) hr7 rfl
    have r2 := cell_blk (i := 2) hr7 rfl
    have r3 := cell_blk (i := 3) hr7 rfl
    have r4 := cell_blk (i := 4) hr7 rfl
    have r5 := cell_blk (i := 5) hr7 rfl
    have r6 := cell_blk (i := 6) hr7 rfl
    have r7 := cell_blk (i := 7) hr7 rfl
    have r8 := cell_blk (i := 8) hr7 rfl
    have r9 := cell_blk (i := 9) hr7 rfl
    have r10 := cell_blk (i := 10) hr7 rfl
    have r11 := cell_blk (i := 11) hr7 rfl
    have r12 := cell_blk (i := 12) hr7 rfl
    have r13 := cell_blk (i := 13) hr7 rfl
    have r14 := cell_blk (i := 14) hr7 rfl
    have r15 := cell_blk (i := 15) hr7 rfl
    have q0 := free_blk (i := 0) hr7
    have q1 := free_blk (i := 1) hr7
    have q2 := free_blk (i := 2) hr7
    have q3 := free_blk (i := 3) hr7
    have q4 := free_blk (i := 4) hr7
    have q5 := free_blk (i := 5) hr7
    have q6 := free_blk (i := 6) hr7
    have q7 := free_blk (i := 7) hr7
    have q8 := free_blk (i := 8) hr7
    have q9 := free_blk (i := 9) hr7
    have q10 := free_blk (i := 10) hr7
    have q11 := free_blk (i := 11) hr7
    have q12 := free_blk (i := 12) hr7
    have q13 := free_blk (i := 13) hr7
    have q14 := free_blk (i := 14) hr7
    have q15 := free_blk (i := 15) hr7
    clear hx7 hr7
    go_wp2_with fail
    have hst := store16 HR7.out (.int .i64 e.do_) (.int .i64 e.at_) (.int .i64 e.to_) (.int .i64 e.before) (.string e.name) (.string e.value) (.int .i64 e.node.kind) (.string e.node.name) (.slice A5 na c5) (.string e.node.text) (.int .i64 e.node.parent) (.slice A6 nk c6) (.bool s.had) (.string s.was) (.int .i64 s.parent) (.int .i64 s.place)
    revert hst
    generalize ((((((((((((((((w7.setCell _ _).setCell _ _).setCell _ _).setCell _ _).setCell _ _).setCell _ _).setCell _ _).setCell _ _).setCell _ _).setCell _ _).setCell _ _).setCell _ _).setCell _ _).setCell _ _).setCell _ _).setCell _ _) = w8
    rintro ⟨hres, hgr⟩
    have HGR := Lib.hid hgr
    have z0 := cell_blk (i := 0) hres rfl
    have z1 := cell_blk (i := 1) hres rfl
    have z2 := cell_blk (i := 2) hres rfl
    have z3 := cell_blk (i := 3) hres rfl
    have z4 := cell_blk (i := 4) hres rfl
    have z5 := cell_blk (i := 5) hres rfl
    have z6 := cell_blk (i := 6) hres rfl
    have z7 := cell_blk (i := 7) hres rfl
    have z8 := cell_blk (i := 8) hres rfl
    have z9 := cell_blk (i := 9) hres rfl
    have z10 := cell_blk (i := 10) hres rfl
    have z11 := cell_blk (i := 11) hres rfl
    have z12 := cell_blk (i := 12) hres rfl
    have z13 := cell_blk (i := 13) hres rfl
    have z14 := cell_blk (i := 14) hres rfl
    have z15 := cell_blk (i := 15) hres rfl
    clear hres hgr
    refine bodyPost_ret (v := .agg #[.int .i64 e.do_, .int .i64 e.at_, .int .i64 e.to_, .int .i64 e.before, .string e.name, .string e.value, .int .i64 e.node.kind, .string e.node.name, .slice A5 na c5, .string e.node.text, .int .i64 e.node.parent, .slice A6 nk c6, .bool s.had, .string s.was, .int .i64 s.parent, .int .i64 s.place]) (by simp [results, Tryz.results15, go_sem, z0, z1, z2, z3, z4, z5, z6, z7, z8, z9, z10, z11, z12, z13, z14, z15]) rfl ⟨A5, c5, A6, c6, ?_, ?_, ?_⟩
    · rw [HS.out]
      show _ = Ending.returned (.agg (stpCells s A5 na c5 A6 nk c6))
      unfold stpCells
      rw [HSE.out]
    · have h6 := N2.out.below.trans (HB36.out.mono N2.out.below.size)
      have h7 := h6.grown HG67.out h6.size (fun k hk => by injection hk; have := HSZ.out; omega)
      exact h7.grown HGR.out h7.size (fun k hk => by injection hk; omega)
    · rw [HS.out]
      have hk : ∀ p : Addr, (wc.heap.size ≤ p.block ∧ p.block < w6.heap.size) → w8.cell? p = w6.cell? p := fun p hp => by
        have h1 := HG67.out.block p.block hp.2 (fun e => by injection e; have := HSC.out; omega)
        have h2 := HGR.out.block p.block (Nat.lt_of_lt_of_le hp.2 HG67.out.size) (fun e => by injection e; have := (Array.getElem?_eq_some_iff.1 N2.out.r).1; omega)
        exact World.cell?_of_block (h2.trans h1)
      obtain ⟨X1, d1, e1, s1⟩ := OwnF.slr HV1.out (by decide) (by have h := HE2.out.node.attrs.hb; exact h)
      obtain ⟨X2, d2, e2, s2⟩ := OwnF.slr HV2.out (by decide) (by have h := HE2.out.node.kids.hb; exact h)
      injection e1 with e1 _ e3
      injection e2 with e2 _ e4
      subst e1 e2 e3 e4
      have hsz : w6.heap.size ≤ w8.heap.size := Nat.le_trans HG67.out.size HGR.out.size
      have hmore : ∀ k, rg wc.heap.size w6.heap.size k → rg w.heap.size w8.heap.size k := fun k h => ⟨Nat.le_trans N2.out.below.size h.1, Nat.lt_of_lt_of_le h.2 hsz⟩
      have hE := HE2.out
      refine ⟨?_, by rw [HSE.out]; exact HED.out, HNK2.out.1, HNK2.out.2.1, HNK2.out.2.2⟩
      rw [HSE.out]
      exact ⟨⟨(s1.keep hk).more hmore, (s2.keep hk).more hmore, hE.node.kind, hE.node.name, hE.node.text, hE.node.parent⟩, hE.at_, hE.to_, hE.before, hE.name, hE.value⟩
end Go.Proofs.YtfeighclpaijoaaGreatDoor
