/-
The library's slices at the types of documents: Clone, Delete.
-/
import Derived.Test.YtmemadajjmmlpaaDoorEdKit
namespace Go.Proofs.YtmemadajjmmlpaaDoor
open Go.RowKit Go.Cl
attribute [local go_sem ↓] Go.wp_at_zero Go.wp_at_succ

/-- slices.Clone: a row of its own that reads as the same. -/
theorem cloneDA (A : Option Addr) (n c : Nat) (xs : List DAttr) (w : World) (B : Nat) (hl : Sl tDA w (lt B) A n c xs) (hB : B ≤ w.heap.size) :
    Calls Tryd.prog 74 #[.slice A n c] w fun e w' => ∃ A' c', e = .returned (.slice A' n c') ∧ Below w.heap.size w w' ∧ Own tDA w' w.heap.size 91 (lt B) (.slice A' n c') n xs := by
  have hn1 := hl.small
  have hbt : n * 32 ≤ 140737488355328 := hl.hb
  have heq := fun (a : Option Addr) (k q : Nat) (wx : World) => Lib.run_eql_slice_nil (P := Tryd.prog) wx 32 91 a k q 0 0 Tryd.underlying32
  cases A with
  | none =>
    obtain rfl : c = 0 := hl.nil_ rfl
    obtain rfl : n = 0 := by have := hl.hc; omega
    obtain rfl : xs = [] := List.eq_nil_of_length_eq_zero hl.hn.symm
    go_enter Tryd.func74, Tryd.ntmps74
    go_wp2_with fail
    go_ret
    exact ⟨none, 0, rfl, Below.refl _ _, Own.nil _ _ _ _⟩
  | some ad =>
    go_enter Tryd.func74, Tryd.ntmps74
    go_wp2_with (at_builtin; refine wpList_apo _ rfl (.tmp 5) (.tmp 6) 32 rfl elemDA (v := .slice (some ⟨w.heap.size, 0, none⟩) 0 0) (xs := []) (D := fun _ => False) rfl ⟨[], World.ownsRow_made w #[] 0 (Nat.le_refl _) (by simp) (by simp), Row.nil⟩ (fun _ h => h.elim) rfl (hl.al hB _) (fun b hb => ⟨by have h1 : b < B := hb; simp; omega, by have h1 : b < B := hb; simp only [Value.ownBlock, ne_eq, Option.some.injEq]; omega⟩) (by omega) (by omega) (by simp) ?_; intro v1 w1 hown1 hgr1 hbl1 _)
    obtain ⟨A1, c1, rfl⟩ := hown1.form
    have h1 := (hown1.more (D' := lt B) fun b hb => hb.elim False.elim id)
    have h2 := ((Below.refl _ w).alloc (Nat.le_refl _) _).trans hbl1
    rw [Nat.zero_add, List.nil_append] at h1
    clear hown1 hgr1 hbl1
    rw [Nat.zero_add]
    go_wp2_with fail
    go_ret
    exact ⟨A1, c1, rfl, h2, h1⟩

/-- slices.Clone: a row of its own that reads as the same. -/
theorem cloneI (A : Option Addr) (n c : Nat) (xs : List Int) (w : World) (B : Nat) (hl : Sl (tInt .i64) w (lt B) A n c xs) (hB : B ≤ w.heap.size) :
    Calls Tryd.prog 75 #[.slice A n c] w fun e w' => ∃ A' c', e = .returned (.slice A' n c') ∧ Below w.heap.size w w' ∧ Own (tInt .i64) w' w.heap.size 3 (lt B) (.slice A' n c') n xs := by
  have hn1 := hl.small
  have hbt : n * 8 ≤ 140737488355328 := hl.hb
  have heq := fun (a : Option Addr) (k q : Nat) (wx : World) => Lib.run_eql_slice_nil (P := Tryd.prog) wx 33 3 a k q 0 0 Tryd.underlying33
  cases A with
  | none =>
    obtain rfl : c = 0 := hl.nil_ rfl
    obtain rfl : n = 0 := by have := hl.hc; omega
    obtain rfl : xs = [] := List.eq_nil_of_length_eq_zero hl.hn.symm
    go_enter Tryd.func75, Tryd.ntmps75
    go_wp2_with fail
    go_ret
    exact ⟨none, 0, rfl, Below.refl _ _, Own.nil _ _ _ _⟩
  | some ad =>
    go_enter Tryd.func75, Tryd.ntmps75
    go_wp2_with (at_builtin; refine wpList_apo _ rfl (.tmp 5) (.tmp 6) 33 rfl elemI (v := .slice (some ⟨w.heap.size, 0, none⟩) 0 0) (xs := []) (D := fun _ => False) rfl ⟨[], World.ownsRow_made w #[] 0 (Nat.le_refl _) (by simp) (by simp), Row.nil⟩ (fun _ h => h.elim) rfl (hl.al hB _) (fun b hb => ⟨by have h1 : b < B := hb; simp; omega, by have h1 : b < B := hb; simp only [Value.ownBlock, ne_eq, Option.some.injEq]; omega⟩) (by omega) (by omega) (by simp) ?_; intro v1 w1 hown1 hgr1 hbl1 _)
    obtain ⟨A1, c1, rfl⟩ := hown1.form
    have h1 := (hown1.more (D' := lt B) fun b hb => hb.elim False.elim id)
    have h2 := ((Below.refl _ w).alloc (Nat.le_refl _) _).trans hbl1
    rw [Nat.zero_add, List.nil_append] at h1
    clear hown1 hgr1 hbl1
    rw [Nat.zero_add]
    go_wp2_with fail
    go_ret
    exact ⟨A1, c1, rfl, h2, h1⟩

/-- slices.Clone: a row of its own that reads as the same. -/
theorem cloneNd (A : Option Addr) (n c : Nat) (xs : List Nd) (w : World) (B : Nat) (hl : Sl tNd w (lt B) A n c xs) (hB : B ≤ w.heap.size) :
    Calls Tryd.prog 73 #[.slice A n c] w fun e w' => ∃ A' c', e = .returned (.slice A' n c') ∧ Below w.heap.size w w' ∧ Own tNd w' w.heap.size 35 (lt B) (.slice A' n c') n xs := by
  have hn1 := hl.small
  have hbt : n * 96 ≤ 140737488355328 := hl.hb
  have heq := fun (a : Option Addr) (k q : Nat) (wx : World) => Lib.run_eql_slice_nil (P := Tryd.prog) wx 22 35 a k q 0 0 Tryd.underlying22
  cases A with
  | none =>
    obtain rfl : c = 0 := hl.nil_ rfl
    obtain rfl : n = 0 := by have := hl.hc; omega
    obtain rfl : xs = [] := List.eq_nil_of_length_eq_zero hl.hn.symm
    go_enter Tryd.func73, Tryd.ntmps73
    go_wp2_with fail
    go_ret
    exact ⟨none, 0, rfl, Below.refl _ _, Own.nil _ _ _ _⟩
  | some ad =>
    go_enter Tryd.func73, Tryd.ntmps73
    go_wp2_with (at_builtin; refine wpList_apo _ rfl (.tmp 5) (.tmp 6) 22 rfl elemNd (v := .slice (some ⟨w.heap.size, 0, none⟩) 0 0) (xs := []) (D := fun _ => False) rfl ⟨[], World.ownsRow_made w #[] 0 (Nat.le_refl _) (by simp) (by simp), Row.nil⟩ (fun _ h => h.elim) rfl (hl.al hB _) (fun b hb => ⟨by have h1 : b < B := hb; simp; omega, by have h1 : b < B := hb; simp only [Value.ownBlock, ne_eq, Option.some.injEq]; omega⟩) (by omega) (by omega) (by simp) ?_; intro v1 w1 hown1 hgr1 hbl1 _)
    obtain ⟨A1, c1, rfl⟩ := hown1.form
    have h1 := (hown1.more (D' := lt B) fun b hb => hb.elim False.elim id)
    have h2 := ((Below.refl _ w).alloc (Nat.le_refl _) _).trans hbl1
    rw [Nat.zero_add, List.nil_append] at h1
    clear hown1 hgr1 hbl1
    rw [Nat.zero_add]
    go_wp2_with fail
    go_ret
    exact ⟨A1, c1, rfl, h2, h1⟩

set_option maxRecDepth 100000 in
/-- slices.Delete of one element, in a row of the call's own. -/
theorem deleteDA (g n c i : Nat) (xs : List DAttr) (w : World) (base : Nat) (D : Nat → Prop) (hown : Own tDA w base 91 D (.slice (some ⟨g, 0, none⟩) n c) n xs) (hD : ∀ b, D b → b ≠ g) (hi : i < n) (hn : n ≤ 140737488355328) :
    Calls Tryd.prog 123 #[.slice (some ⟨g, 0, none⟩) n c, .int .i64 (i : Int), .int .i64 ((i : Int) + 1)] w fun e w' => e = .returned (.slice (some ⟨g, 0, none⟩) (n - 1) c) ∧ Own tDA w' base 91 D (.slice (some ⟨g, 0, none⟩) (n - 1) c) (n - 1) (xs.eraseIdx i) ∧ w.grownBy w' (some g) := by
  obtain ⟨cells, h1, h2⟩ := hown
  have hlen := h1.1
  have hT : (tDA).size = 2 := rfl
  rw [hT] at hlen
  rcases h1.2 with ⟨hv, _⟩ | ⟨g', cap, cur, hv, hb, hh, hnc, hcm, hsz, htk⟩
  · cases hv
  simp only [Value.slice.injEq, Option.some.injEq, Addr.mk.injEq, and_true, true_and] at hv
  obtain ⟨rfl, rfl⟩ := hv
  rw [hT] at hsz htk
  have hcl : cur.toList.length = c * 2 := by simpa using hsz
  have HNEW : Hid ((cells.drop ((i + 1) * 2)).length = (n - (i + 1)) * 2) := by show _ = _; rw [List.length_drop, hlen]; omega
  obtain ⟨A', HA'⟩ : ∃ A', Hid ((if c = i + 1 then some (⟨g, 0, none⟩ : Addr) else some ⟨g, (i + 1) * 2, none⟩) = some A') := by
    by_cases hci : c = i + 1
    · exact ⟨_, if_pos hci⟩
    · exact ⟨_, if_neg hci⟩
  have HC : Hid (∀ j u, (cells.drop ((i + 1) * 2))[j]? = some u → w.drew.cell? (A'.add j) = some u) := by
    intro j u hu
    have hA := HA'.out
    have hj := (List.getElem?_eq_some_iff.1 hu).1
    rw [HNEW.out] at hj
    rw [if_neg (by omega)] at hA
    simp only [Option.some.injEq] at hA
    subst hA
    rw [List.getElem?_drop, ← htk, List.getElem?_take] at hu
    split at hu
    · show w.cell? _ = _
      have : (⟨g, (i + 1) * 2, none⟩ : Addr).add j = ⟨g, (i + 1) * 2 + j, none⟩ := by unfold Addr.add; split <;> simp_all
      rw [this]
      exact cell_blk hh (by simpa using hu)
    · cases hu
  have HONE : Hid (∀ u ∈ cells.drop ((i + 1) * 2), u.oneCell' = true) := fun u hu => h2.one_ u (List.mem_of_mem_drop hu)
  have HSP : Hid (∀ j, j < (cells.drop ((i + 1) * 2)).length → (w.drew.cell? ⟨g, 0 + i * 2 + j, none⟩).isSome = true ∧ w.drew.frozen? ⟨g, 0 + i * 2 + j, none⟩ = false) := by
    intro j hj
    rw [HNEW.out] at hj
    refine ⟨?_, free_blk (w := w) hh⟩
    have hlt : 0 + i * 2 + j < cur.size := by omega
    rw [show w.drew.cell? ⟨g, 0 + i * 2 + j, none⟩ = w.cell? ⟨g, 0 + i * 2 + j, none⟩ from rfl, cell_blk hh (Array.getElem?_eq_getElem hlt)]
    rfl
  obtain ⟨W1, hW1⟩ : ∃ W1, W1 = w.drew.setCells g (0 + i * 2) (cells.drop ((i + 1) * 2)) := ⟨_, rfl⟩
  have HW1 := Lib.hid hW1
  obtain ⟨cur1, hh1, hs1, _⟩ := heap_setCells (cells.drop ((i + 1) * 2)) (0 + i * 2) w.drew cur hh (by rw [HNEW.out]; omega)
  rw [← hW1] at hh1
  have hcl2 : ∀ ty k, (Builtin.clear_ #[32] ty #[.slice (some ⟨g, (n - 1) * 2, none⟩) (n - (n - 1)) k]).run Tryd.prog W1 = .ok (.tuple #[]) (W1.setCells g ((n - 1) * 2) [.string ⟨#[]⟩, .string ⟨#[]⟩]) := fun ty k => by
    rw [show n - (n - 1) = 1 from by omega]
    exact run_clear_one W1 _ _ ty _ [.string ⟨#[]⟩, .string ⟨#[]⟩] Tryd.underlying32 Tryd.zeroValue91 (by kernel_rfl) (by simp [Value.oneCell']) g _ k (fun j hj => by
      have hlt : (n - 1) * 2 + j < cur1.size := by have hj2 : j < 2 := hj; omega
      rw [cell_blk hh1 (Array.getElem?_eq_getElem hlt)]; rfl) (fun j _ => free_blk hh1)
  have hic : i + 1 ≤ c := by omega
  have hic2 : i ≤ c := by omega
  have hn1c : ¬ c = n - 1 := by omega
  have hne : ((i : Int) == (i : Int) + 1) = false := beq_eq_false_iff_ne.2 (by omega)
  have hb1 : (0 : Int) ≤ (i : Int) + 1 := by omega
  have hb2 : (i : Int) + 1 ≤ (n : Int) := by omega
  have HOWN := Lib.hid (show Own tDA (W1.setCells g ((n - 1) * 2) [.string ⟨#[]⟩, .string ⟨#[]⟩]) base 91 D (.slice (some ⟨g, 0, none⟩) (n - 1) c) (n - 1) (xs.eraseIdx i) from by
    subst hW1
    refine ⟨_, ownsRow_cut (zs := [.string ⟨#[]⟩, .string ⟨#[]⟩]) h1 hi rfl, ?_⟩
    rw [← List.take_drop_erase]
    refine ((h2.take i).append (h2.drop (i + 1))).keep fun p hp => ?_
    have hpg : p.block ≠ g := hD _ hp
    exact World.cell?_of_block (w := w) ((heap_setCells_other hpg _ _ _).trans (heap_setCells_other hpg _ _ _)))
  have HG := Lib.hid (show w.grownBy (W1.setCells g ((n - 1) * 2) [.string ⟨#[]⟩, .string ⟨#[]⟩]) (some g) from by
    subst hW1
    exact grownBy.trans' (b := w.drew) ⟨rfl, rfl, rfl, Nat.le_refl _, fun _ _ _ => rfl⟩ (grownBy.trans' (grown_setCells g _ _ _) (grown_setCells g _ _ _)))
  obtain ⟨i0, z0, hi0, hz0, hs0, hy0, hzz0⟩ := (elemDA).info
  have HI0 := Lib.hid hi0
  have HS0 := Lib.hid hs0
  clear hi0 hs0 hy0 hz0 hzz0 h1 h2 hh hh1 hW1 hsz htk hcl hlen hT hs1 hD
  go_enter Tryd.func123, Tryd.ntmps123
  go_wp2_with fail
  go_region_law (refine step_append_room rfl (.tmp 22) (.tmp 25) 32 rfl 91 i0 2 Tryd.underlying32 HI0.out HS0.out g 0 i c (by simp [Act.eval, Act.put]) A' (n - (i + 1)) (c - (i + 1)) (cells.drop ((i + 1) * 2)) (by simp [Act.eval, Act.put]; exact HA'.out) HNEW.out HC.out HONE.out (by omega) HSP.out ?_; rw [← HW1.out, show i + (n - (i + 1)) = n - 1 from by omega])
  go_wp2_with fail
  all_goals
    go_ret
    first | exact ⟨rfl, HOWN.out, HG.out⟩ | (obtain rfl : c = i + 1 := (by assumption); exact ⟨rfl, HOWN.out, HG.out⟩)

/-- append whose run is known, at a step of a region that draws its order. -/
theorem step_append_runI {P : Program} {ops : Array Oper} {o : Oper} {a : Act} {w : World} {K : Act → World → Prop} {Q : Exit → Act → World → Prop} {E : Prop} (hgd : o.guard = none) (s x : Operand) (t : TypeId)
    (ho : o.op = .call { callee := .builtin .append, args := #[s, x], argTypes := #[t, t] }) (v u : Value) (hv : a.eval s = v) (hx : a.eval x = u) {v' : Value} {w' : World} (hr : (Builtin.append_ #[t, t] o.type #[v, u]).run P w = .ok v' w') (h : K (a.put o.dst v') w') :
    if Region.wanted o (yielded ops a.tmps) = true then Oper.wp P o a w K Q else E := by
  rw [if_pos (by simp [Region.wanted, hgd])]
  unfold Oper.wp execOp
  simp only [ho, resolve, invoke, builtin, Sem.run_bind, Sem.run_pure, Result.andThen_ok, List.map_toArray, List.map_cons, List.map_nil, hv, hx, hr]
  exact h
end Go.Proofs.YtmemadajjmmlpaaDoor
