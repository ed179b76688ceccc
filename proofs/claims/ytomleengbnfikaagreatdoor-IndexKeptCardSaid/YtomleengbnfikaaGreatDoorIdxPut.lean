/-
The walk of put: a node is put into a list by a word.
-/
import Derived.Test.YtomleengbnfikaaGreatDoorIdxFind
import Derived.Test.YtomleengbnfikaaGreatDoorMapKit
import Derived.Deep.DeepCutAuto
namespace Go.Proofs.YtomleengbnfikaaGreatDoor
open Go.RowKit Go.Cl
open Go.Maps (Keyed IsMap int_keyed keyOf_int_mk)
attribute [local go_sem ↓] Go.wp_at_zero Go.wp_at_succ

set_option maxRecDepth 100000 in
set_option maxHeartbeats 4000000 in
/-- slices.Insert of one element, ahead of another one, in a row with room. -/
theorem insertR_room (g n c i : Nat) (xs : List (List Value)) (y : (List Value)) (ys : List Value) (vb : Nat) (w : World) (base : Nat) (D : Nat → Prop) (hown : Own tR2 w base 50 D (.slice (some ⟨g, 0, none⟩) n c) n xs) (hD : ∀ b, D b → b ≠ g) (hi : i < n) (hroom : n + 1 ≤ c) (hn : n ≤ 100000) (hy : (tR2).rep w D y ys) (hv : w.heap[vb]? = some (.cells ys.toArray 50 (0, 0))) (hne : vb ≠ g) :
    Calls Tryz.prog 36 #[.slice (some ⟨g, 0, none⟩) n c, .int .i64 (i : Int), .slice (some ⟨vb, 0, none⟩) 1 1] w fun e w' => e = .returned (.slice (some ⟨g, 0, none⟩) (n + 1) c) ∧ Own tR2 w' base 50 D (.slice (some ⟨g, 0, none⟩) (n + 1) c) (n + 1) (xs.take i ++ y :: xs.drop i) ∧ w.grownBy w' (some g) := by
  obtain ⟨cells, h1, h2⟩ := hown
  have hlen := h1.1
  have hT : (tR2).size = 2 := rfl
  have hyl : ys.length = 2 := (tR2).len hy
  have hy1 := (tR2).one hy
  rw [hT] at hlen
  rcases h1.2 with ⟨hv', _⟩ | ⟨g', cap, cur, hv', hb, hh, hnc, hcm, hsz, htk⟩
  · cases hv'
  simp only [Value.slice.injEq, Option.some.injEq, Addr.mk.injEq, and_true, true_and] at hv'
  obtain ⟨rfl, rfl⟩ := hv'
  rw [hT] at hsz htk
  have hm := hcm
  unfold maxLen at hm
  have hcl : cur.toList.length = c * 2 := by simpa using hsz
  have h1c : ∀ v ∈ cells, v.oneCell' = true := fun u hu => h2.one_ u hu
  obtain ⟨i0, z0, hi0, hz0, hs0, hy0, hzz0⟩ := (elemR2).info
  have hszi : (Tryz.prog.info? 50).map (·.size) = some 2 := by rw [hi0]; simp [hs0]
  have hov : ∀ lb cb, (callFunc 54 #[.slice (some ⟨vb, 0, none⟩) 1 1, .slice (some ⟨g, (i + 1) * 2, none⟩) lb cb]).run Tryz.prog w = .ok (.value (.bool false)) w := fun lb cb => by
    rw [run_callFunc_extern Tryz.func54 (by kernel_rfl) (by kernel_rfl) (by kernel_rfl) (e := Extern.SlicesOverlaps.overlaps #[27, 27] #[4]) (by kernel_rfl),
      Lib.run_overlaps_apart w 27 4 50 Tryz.underlying27 2 (fun w => by simp [Go.sizeOf, typeInfo, hi0, hs0]) ⟨vb, 0, none⟩ ⟨g, (i + 1) * 2, none⟩ 1 1 lb cb hne 50 50 2 (c * 2) (by simp [World.shape?, hv, hyl]) (by simp [World.shape?, hh, hsz]) (by omega) (free_blk hv) (free_blk hv)]
    rfl
  have hdl : (cells.drop (i * 2)).length = (n - i) * 2 := by rw [List.length_drop, hlen]; omega
  have hcat : ∀ j v, cells[j]? = some v → w.cell? ⟨g, j, none⟩ = some v := fun j v hj => by
    rw [← htk, List.getElem?_take] at hj
    split at hj
    · exact cell_blk hh (by simpa using hj)
    · cases hj
  have hsp : ∀ j, j < c * 2 → (w.cell? ⟨g, j, none⟩).isSome = true := fun j hj => by rw [cell_blk hh (Array.getElem?_eq_getElem (by omega))]; rfl
  have hcp1 : ∀ ty dc sc, (Builtin.copy_ #[27, 27] ty #[.slice (some ⟨g, (i + 1) * 2, none⟩) (n - i) dc, .slice (some ⟨g, i * 2, none⟩) (n + 1 - i) sc]).run Tryz.prog w.drew = .ok (goInt ((n - i : Nat) : Int)) (w.drew.setCells g ((i + 1) * 2) (cells.drop (i * 2))) := fun ty dc sc =>
    run_copy_sized w.drew _ _ ty 50 g ((i + 1) * 2) (n - i) dc ⟨g, i * 2, none⟩ (n + 1 - i) sc 2 (n - i) (cells.drop (i * 2)) Tryz.underlying27 hszi (by simp only [Nat.min_def]; split <;> omega) hdl
      (fun j v hj => by rw [Addr.add_lit]; rw [List.getElem?_drop] at hj; exact hcat _ v hj)
      (fun j hj => hsp _ (by omega)) (fun j hj => free_blk (w := w) hh) (fun v hv => h1c v (List.mem_of_mem_drop hv))
  obtain ⟨W1, hW1⟩ : ∃ W1, W1 = w.drew.setCells g ((i + 1) * 2) (cells.drop (i * 2)) := ⟨_, rfl⟩
  obtain ⟨cur1, hh1, hs1, _⟩ := heap_setCells (cells.drop (i * 2)) ((i + 1) * 2) w.drew cur hh (by rw [hdl]; omega)
  rw [← hW1] at hh1
  have hvW : ∀ j v, ys[j]? = some v → W1.cell? ⟨vb, j, none⟩ = some v := fun j v hj => by
    rw [hW1, World.cell?_setCells_out g _ _ _ _ (fun h _ => absurd h hne)]
    exact cell_blk (w := w) hv (by simpa using hj)
  have hcp2 : ∀ (W : World), (∀ x, W.cell? x = W1.cell? x) → (∀ x, W.frozen? x = W1.frozen? x) → ∀ ty dc, (Builtin.copy_ #[27, 27] ty #[.slice (some ⟨g, i * 2, none⟩) (n + 1 - i) dc, .slice (some ⟨vb, 0, none⟩) 1 1]).run Tryz.prog W = .ok (goInt ((1 : Nat) : Int)) (W.setCells g (i * 2) ys) := fun W hWc hWf ty dc =>
    run_copy_sized W _ _ ty 50 g (i * 2) (n + 1 - i) dc ⟨vb, 0, none⟩ 1 1 2 1 ys Tryz.underlying27 hszi (by simp only [Nat.min_def]; split <;> omega) (by omega)
      (fun j v hj => by rw [Addr.add_lit, hWc, Nat.zero_add]; exact hvW j v hj)
      (fun j hj => by rw [hWc, cell_blk hh1 (Array.getElem?_eq_getElem (by omega))]; rfl) (fun j hj => by rw [hWf]; exact free_blk hh1) hy1
  have HOWN := Lib.hid (show Own tR2 (W1.setCells g (i * 2) ys) base 50 D (.slice (some ⟨g, 0, none⟩) (n + 1) c) (n + 1) (xs.take i ++ y :: xs.drop i) from by
    subst hW1
    obtain ⟨cur2, c1, c2, c3⟩ := ins_room (w := w.drew) (i := i) hh hsz htk (by omega) hroom hyl
    have hk : ∀ p : Addr, D p.block → ((w.drew.setCells g ((i + 1) * 2) (cells.drop (i * 2))).setCells g (i * 2) ys).cell? p = w.cell? p := fun p hp => World.cell?_of_block (w := w) ((heap_setCells_other (hD _ hp) _ _ _).trans (heap_setCells_other (hD _ hp) _ _ _))
    refine ⟨cells.take (i * 2) ++ ys ++ cells.drop (i * 2), ⟨by rw [← c3, List.length_take, hT]; have : cur2.toList.length = c * 2 := (by simpa using c2); omega, .inr ⟨g, c, cur2, rfl, hb, c1, hroom, hcm, by rw [hT]; exact c2, by rw [hT]; exact c3⟩⟩, ?_⟩
    rw [List.append_assoc]
    exact ((h2.take i).keep hk).append ((Row.append (Row.one hy) (h2.drop i)).keep hk))
  have HG := Lib.hid (show w.grownBy (W1.setCells g (i * 2) ys) (some g) from by
    subst hW1
    exact grownBy.trans' (b := w.drew) ⟨rfl, rfl, rfl, Nat.le_refl _, fun _ _ _ => rfl⟩ (grownBy.trans' (grown_setCells g _ _ _) (grown_setCells g _ _ _)))
  have mixed : Tryz.prog.follows .mixedOrders = true := by kernel_rfl
  have hz2 : ¬ ((i : Int) = (n : Int)) := by omega
  have hw1 : IntKind.i64.wrap ((i : Int) + 1) = (i : Int) + 1 := IntWalk.i64_in _ (by omega)
  have hw2 : IntKind.i64.wrap ((n : Int) + 1) = (n : Int) + 1 := IntWalk.i64_in _ (by omega)
  have hb1 : (0 : Int) ≤ (i : Int) + 1 := by omega
  have hin : i ≤ n := by omega
  have htn : ((i : Int) + 1).toNat = i + 1 := by omega
  have htm : ((n : Int) + 1).toNat = n + 1 := by omega
  have hb2 : ¬ (c = i + 1) := by omega
  have hb3 : (i : Int) ≤ (n : Int) + 1 := by omega
  have hb4 : ¬ (c = i) := by omega
  rw [← hW1] at hcp1
  clear hi0 hs0 hy0 hz0 hzz0 h1 h2 hh hh1 hsz htk hcl hlen hs1 hD hv hy hyl hy1 h1c hdl hcat hsp hvW hszi hW1 hb hnc
  go_enter Tryz.func36, Tryz.ntmps36
  go_wp2_with (simp only [hov])
  go_region_law_o (refine step_copy_runI rfl _ _ 27 27 rfl _ _ (by simp [Act.eval, Act.put]) (by simp [Act.eval, Act.put]) (hcp1 _ _ _) ?_)
  go_wp2_with (at_builtin; refine wpList_copy_runI _ rfl _ _ 27 27 rfl _ _ rfl rfl (hcp2 _ (fun _ => rfl) (fun _ => rfl) _ _) ?_)
  go_ret
  exact ⟨rfl, HOWN.out, HG.out⟩
set_option maxRecDepth 100000 in
set_option maxHeartbeats 4000000 in
/-- slices.Insert of one element, behind all others. -/
theorem insertR_end (v : Value) (n : Nat) (xs : List (List Value)) (y : (List Value)) (ys : List Value) (vb : Nat) (w : World) (base : Nat) (D : Nat → Prop) (hown : Own tR2 w base 50 D v n xs) (hD : ∀ b, D b → b < w.heap.size ∧ some b ≠ v.ownBlock) (hn : n ≤ 100000) (hy : (tR2).rep w D y ys) (hv : w.heap[vb]? = some (.cells ys.toArray 50 (0, 0))) (hbase : base ≤ w.heap.size) :
    Calls Tryz.prog 36 #[v, .int .i64 (n : Int), .slice (some ⟨vb, 0, none⟩) 1 1] w fun e w' => ∃ v', e = .returned v' ∧ Own tR2 w' base 50 D v' (n + 1) (xs ++ [y]) ∧ w.grownBy w' v.ownBlock ∧ (v'.ownBlock = v.ownBlock ∨ v'.ownBlock = some w.heap.size) := by
  obtain ⟨A, c, rfl⟩ := Own.form hown
  have hcap : n ≤ c := by
    obtain ⟨_, h1, _⟩ := hown
    rcases h1.2 with ⟨hv', h0⟩ | ⟨g', cap, cur, hv', _, _, hnc, _⟩
    · omega
    · injection hv' with _ _ e3
      omega
  have HC := Lib.hid (fun (j : Nat) (u : Value) (hj : ys[j]? = some u) => show w.cell? ⟨vb, 0 + j, none⟩ = some u by rw [Nat.zero_add]; exact cell_blk hv (by simpa using hj))
  have HO := Lib.hid hown
  have HD := Lib.hid hD
  have HY := Lib.hid hy
  clear hown hD hy hv
  rcases Nat.eq_or_lt_of_le hcap with hcc | hcc
  · subst hcc
    go_enter Tryz.func36, Tryz.ntmps36
    go_wp2_with (at_builtin; refine wpList_ap1 _ rfl (.tmp 23) (.tmp 24) 27 rfl elemR2 (v := .slice A n n) (n := n) (xs := xs) (base := base) (D := D) rfl HO.out HD.out rfl HY.out HC.out (by omega) (by omega) hbase ?_; intro v9 w9 hown9 hg9 hbl9 hv9)
    have HP := Lib.hid (show Own tR2 w9 base 50 D v9 (n + 1) (xs ++ [y]) ∧ w.grownBy w9 (Value.slice A n n).ownBlock ∧ (v9.ownBlock = (Value.slice A n n).ownBlock ∨ v9.ownBlock = some w.heap.size) from ⟨hown9, hg9, hv9⟩)
    clear hown9 hg9 hv9 hbl9
    go_wp2_with fail
    go_ret
    exact ⟨v9, rfl, HP.out.1, HP.out.2.1, HP.out.2.2⟩
  · have hcn : ¬ (c = n) := by omega
    go_enter Tryz.func36, Tryz.ntmps36
    go_wp2_with (at_builtin; refine wpList_ap1 _ rfl (.tmp 23) (.tmp 24) 27 rfl elemR2 (v := .slice A n c) (n := n) (xs := xs) (base := base) (D := D) rfl HO.out HD.out rfl HY.out HC.out (by omega) (by omega) hbase ?_; intro v9 w9 hown9 hg9 hbl9 hv9)
    have HP := Lib.hid (show Own tR2 w9 base 50 D v9 (n + 1) (xs ++ [y]) ∧ w.grownBy w9 (Value.slice A n c).ownBlock ∧ (v9.ownBlock = (Value.slice A n c).ownBlock ∨ v9.ownBlock = some w.heap.size) from ⟨hown9, hg9, hv9⟩)
    clear hown9 hg9 hv9 hbl9
    go_wp2_with fail
    go_ret
    exact ⟨v9, rfl, HP.out.1, HP.out.2.1, HP.out.2.2⟩
set_option maxRecDepth 100000 in
set_option maxHeartbeats 4000000 in
/-- slices.Insert of one element, ahead of another one, where there is no room: a new row. -/
theorem insertR_grow (g n c i : Nat) (xs : List (List Value)) (y : (List Value)) (ys : List Value) (vb : Nat) (w : World) (base : Nat) (D : Nat → Prop) (hown : Own tR2 w base 50 D (.slice (some ⟨g, 0, none⟩) n c) n xs) (hD : ∀ b, D b → b < w.heap.size) (hi : i < n) (hroom : c < n + 1) (hn : n ≤ 100000) (hy : (tR2).rep w D y ys) (hv : w.heap[vb]? = some (.cells ys.toArray 50 (0, 0))) (hbase : base ≤ w.heap.size) :
    Calls Tryz.prog 36 #[.slice (some ⟨g, 0, none⟩) n c, .int .i64 (i : Int), .slice (some ⟨vb, 0, none⟩) 1 1] w fun e w' => ∃ G, e = .returned (.slice (some ⟨w.heap.size, 0, none⟩) (n + 1) G) ∧ Own tR2 w' base 50 D (.slice (some ⟨w.heap.size, 0, none⟩) (n + 1) G) (n + 1) (xs.take i ++ y :: xs.drop i) ∧ Below w.heap.size w w' := by
  obtain ⟨cells, h1, h2⟩ := hown
  have hlen := h1.1
  have hT : (tR2).size = 2 := rfl
  have hyl : ys.length = 2 := (tR2).len hy
  have hy1 := (tR2).one hy
  rw [hT] at hlen
  rcases h1.2 with ⟨hv', _⟩ | ⟨g', cap, cur, hv', hb, hh, hnc, hcm, hsz, htk⟩
  · cases hv'
  simp only [Value.slice.injEq, Option.some.injEq, Addr.mk.injEq, and_true, true_and] at hv'
  obtain ⟨rfl, rfl⟩ := hv'
  rw [hT] at hsz htk
  have hgl := (Array.getElem?_eq_some_iff.1 hh).1
  have hvl := (Array.getElem?_eq_some_iff.1 hv).1
  have h1c : ∀ v ∈ cells, v.oneCell' = true := fun u hu => h2.one_ u hu
  obtain ⟨i0, z0, hi0, hz0, hs0, hy0, hzz0⟩ := (elemR2).info
  have hs2 : i0.size = 2 := hs0
  have hszi : (Tryz.prog.info? 50).map (·.size) = some 2 := by rw [hi0]; simp [hs0]
  have hcat : ∀ j v, cells[j]? = some v → w.cell? ⟨g, j, none⟩ = some v := fun j v hj => by
    rw [← htk, List.getElem?_take] at hj
    split at hj
    · exact cell_blk hh (by simpa using hj)
    · cases hj
  have hdl : (cells.drop (i * 2)).length = (n - i) * 2 := by rw [List.length_drop, hlen]; omega
  have htl : (cells.take (i * 2)).length = i * 2 := by rw [List.length_take, hlen]; omega
  have hold : (Builtin.firstCells i0.size i (.slice (some ⟨g, 0, none⟩) i c)).run Tryz.prog w.drew = .ok (cells.take (i * 2)).toArray w.drew := by
    rw [hs2]
    exact run_firstCells_some w.drew 2 i ⟨g, 0, none⟩ i c (cells.take (i * 2)) (by rw [htl]) (fun j v hj => by
      rw [Addr.add_lit, Nat.zero_add]
      rw [List.getElem?_take] at hj
      split at hj
      · exact hcat j v hj
      · cases hj)
  have hik : i + (n + 1 - i) = n + 1 := by omega
  have hkk : (n : Int) + 1 - (i : Int) = ((n + 1 - i : Nat) : Int) := by omega
  have hrz : ∀ ty, (Builtin.append_ #[27, 3] ty #[.slice (some ⟨g, 0, none⟩) i c, .int .i64 ((n : Int) + 1 - (i : Int))]).run Tryz.prog w =
      .ok (.slice (some ⟨w.heap.size, 0, none⟩) (n + 1) (grownCap w (n + 1) c 50)) (w.drew.alloc (.cells ((cells.take (i * 2)).toArray ++ Builtin.zeroCells z0.cells (n + 1 - i) ++ Builtin.zeroCells z0.cells (grownCap w (n + 1) c 50 - (n + 1))) 50)) := fun ty => by
    have h := Lib.run_append_grow_zeros w 27 3 ty 50 i0 z0 .i64 .i64 Tryz.underlying27 Tryz.underlying3 hi0 hz0 (some ⟨g, 0, none⟩) i c (cells.take (i * 2)) hold (n + 1 - i) (by omega) (by omega) (by omega) (by omega) (by rw [hy0]; omega) (by rw [hy0, hik]; exact growslice_fits hroom (by omega))
    rw [hik] at h
    rw [hkk]
    exact h
  obtain ⟨G, hG⟩ : ∃ G, G = grownCap w (n + 1) c 50 := ⟨_, rfl⟩
  have hGn : n + 1 ≤ G := by rw [hG]; exact grownCap_ge w _ _ _
  have hGm : G ≤ maxLen := by rw [hG]; exact grownCap_le_maxLen w (n + 1) c _ (by unfold maxLen; omega)
  have hG63 : G ≤ 9223372036854775807 := by unfold maxLen at hGm; omega
  obtain ⟨ROW, hROW⟩ : ∃ ROW : Array Value, ROW = (cells.take (i * 2)).toArray ++ Builtin.zeroCells z0.cells (n + 1 - i) ++ Builtin.zeroCells z0.cells (G - (n + 1)) := ⟨_, rfl⟩
  rw [← hG] at hrz
  rw [← hROW] at hrz
  have hzc : ∀ k, (Builtin.zeroCells z0.cells k).size = k * 2 := fun k => by simp [Builtin.zeroCells, hzz0]
  have hRl : ROW.size = G * 2 := by
    rw [hROW, Array.size_append, Array.size_append, hzc, hzc, List.size_toArray, htl]
    omega
  have hRt : ROW.toList.take (i * 2) = cells.take (i * 2) := by
    rw [hROW, Array.toList_append, Array.toList_append, List.append_assoc]
    exact List.take_left' htl
  obtain ⟨W1, hW1⟩ : ∃ W1, W1 = w.drew.alloc (.cells ROW 50) := ⟨_, rfl⟩
  rw [← hW1] at hrz
  have hnew : W1.heap[w.heap.size]? = some (.cells ROW 50 (0, 0)) := by rw [hW1]; exact heap_alloc_new w.drew _
  have hoW : ∀ j, j < w.heap.size → W1.heap[j]? = w.heap[j]? := fun j hj => by rw [hW1]; exact Lib.alloc_old w.drew _ j hj
  have hcpA : ∀ (W : World), (∀ x, W.cell? x = W1.cell? x) → (∀ x, W.frozen? x = W1.frozen? x) → ∀ ty dc, (Builtin.copy_ #[27, 27] ty #[.slice (some ⟨w.heap.size, i * 2, none⟩) (n + 1 - i) dc, .slice (some ⟨vb, 0, none⟩) 1 1]).run Tryz.prog W = .ok (goInt ((1 : Nat) : Int)) (W.setCells w.heap.size (i * 2) ys) := fun W hWc hWf ty dc =>
    run_copy_sized W _ _ ty 50 w.heap.size (i * 2) (n + 1 - i) dc ⟨vb, 0, none⟩ 1 1 2 1 ys Tryz.underlying27 hszi (by simp only [Nat.min_def]; split <;> omega) (by omega)
      (fun j v hj => by rw [Addr.add_lit, hWc, Nat.zero_add]; exact cell_blk ((hoW vb hvl).trans hv) (by simpa using hj))
      (fun j hj => by rw [hWc, cell_blk hnew (Array.getElem?_eq_getElem (by omega))]; rfl) (fun j hj => by rw [hWf]; exact free_blk hnew) hy1
  obtain ⟨cur1, hh1, hs1, _⟩ := heap_setCells ys (i * 2) W1 ROW hnew (by omega)
  have hgN : g ≠ w.heap.size := by omega
  have hcpB : ∀ (W : World), (∀ x, W.cell? x = (W1.setCells w.heap.size (i * 2) ys).cell? x) → (∀ x, W.frozen? x = (W1.setCells w.heap.size (i * 2) ys).frozen? x) → ∀ ty dc sc, (Builtin.copy_ #[27, 27] ty #[.slice (some ⟨w.heap.size, (i + 1) * 2, none⟩) (n - i) dc, .slice (some ⟨g, i * 2, none⟩) (n - i) sc]).run Tryz.prog W = .ok (goInt ((n - i : Nat) : Int)) (W.setCells w.heap.size ((i + 1) * 2) (cells.drop (i * 2))) := fun W hWc hWf ty dc sc =>
    run_copy_sized W _ _ ty 50 w.heap.size ((i + 1) * 2) (n - i) dc ⟨g, i * 2, none⟩ (n - i) sc 2 (n - i) (cells.drop (i * 2)) Tryz.underlying27 hszi (by simp only [Nat.min_def]; split <;> omega) hdl
      (fun j v hj => by
        rw [Addr.add_lit, hWc, World.cell?_setCells_out _ _ _ _ _ (fun h _ => absurd h hgN)]
        rw [List.getElem?_drop] at hj
        exact (World.cell?_of_block (a := ⟨g, i * 2 + j, none⟩) (hoW g hgl)).trans (hcat _ v hj))
      (fun j hj => by rw [hWc, cell_blk hh1 (Array.getElem?_eq_getElem (by omega))]; rfl) (fun j hj => by rw [hWf]; exact free_blk hh1) (fun v hv => h1c v (List.mem_of_mem_drop hv))
  have HOWN := Lib.hid (show Own tR2 (((W1.setCells w.heap.size (i * 2) ys).drew).setCells w.heap.size ((i + 1) * 2) (cells.drop (i * 2))) base 50 D (.slice (some ⟨w.heap.size, 0, none⟩) (n + 1) G) (n + 1) (xs.take i ++ y :: xs.drop i) from by
    obtain ⟨cur2, c1, c2, c3⟩ := ins_grow (n := n) (i := i) (cells := cells) hnew (by omega) hlen (by omega) hRt hyl
    have hk : ∀ p : Addr, D p.block → (((W1.setCells w.heap.size (i * 2) ys).drew).setCells w.heap.size ((i + 1) * 2) (cells.drop (i * 2))).cell? p = w.cell? p := fun p hp => by
      have hpl := hD _ hp
      have hpn : p.block ≠ w.heap.size := by omega
      exact World.cell?_of_block ((heap_setCells_other hpn _ _ _).trans ((heap_setCells_other hpn _ _ W1).trans (hoW _ hpl)))
    refine ⟨cells.take (i * 2) ++ ys ++ cells.drop (i * 2), ⟨by rw [← c3, List.length_take, hT]; have : cur2.toList.length = G * 2 := (by simpa [hRl] using c2); omega, .inr ⟨w.heap.size, G, cur2, rfl, hbase, c1, hGn, hGm, by rw [hT]; omega, by rw [hT]; exact c3⟩⟩, ?_⟩
    rw [List.append_assoc]
    exact ((h2.take i).keep hk).append ((Row.append (Row.one hy) (h2.drop i)).keep hk))
  have HBL := Lib.hid (show Below w.heap.size w (((W1.setCells w.heap.size (i * 2) ys).drew).setCells w.heap.size ((i + 1) * 2) (cells.drop (i * 2))) from by
    have g1 := grown_setCells w.heap.size ys (i * 2) W1
    have g2 := grown_setCells w.heap.size (cells.drop (i * 2)) ((i + 1) * 2) (W1.setCells w.heap.size (i * 2) ys).drew
    have b1 : Below w.heap.size w W1 := by rw [hW1]; exact ((Below.refl _ w).drew).alloc (Nat.le_refl _) _
    have b2 := b1.grown g1 b1.size (fun k hk => by injection hk; omega)
    exact (b2.drew).grown g2 b2.size (fun k hk => by injection hk; omega))
  have hE1 : ∀ x, ((w.alloc (.cells ROW 50)).drew).cell? x = W1.cell? x := fun x => by rw [hW1]; rfl
  have hE2 : ∀ x, ((w.alloc (.cells ROW 50)).drew).frozen? x = W1.frozen? x := fun x => by rw [hW1]; rfl
  have hF1 : ∀ x, (((w.alloc (.cells ROW 50)).drew.setCells w.heap.size (i * 2) ys).drew).cell? x = (W1.setCells w.heap.size (i * 2) ys).cell? x := fun x => by rw [hW1]; rfl
  have hF2 : ∀ x, (((w.alloc (.cells ROW 50)).drew.setCells w.heap.size (i * 2) ys).drew).frozen? x = (W1.setCells w.heap.size (i * 2) ys).frozen? x := fun x => by rw [hW1]; rfl
  have mixed : Tryz.prog.follows .mixedOrders = true := by kernel_rfl
  have hz2 : ¬ ((i : Int) = (n : Int)) := by omega
  have hz3 : (c : Int) < (n : Int) + 1 := by omega
  have hw1 : IntKind.i64.wrap ((i : Int) + 1) = (i : Int) + 1 := IntWalk.i64_in _ (by omega)
  have hw2 : IntKind.i64.wrap ((n : Int) + 1) = (n : Int) + 1 := IntWalk.i64_in _ (by omega)
  have hb1 : (0 : Int) ≤ (i : Int) + 1 := by omega
  have hin : i ≤ n := by omega
  have htn : ((i : Int) + 1).toNat = i + 1 := by omega
  have hb3 : (i : Int) ≤ (n : Int) := by omega
  have hci : ¬ (c = i) := by omega
  have hic : i ≤ c := by omega
  have hic2 : (i : Int) ≤ (c : Int) := by omega
  have hGi : ¬ (G = i) := by omega
  have hGim : ¬ (G = i + 1) := by omega
  subst hW1
  clear hi0 hs0 hs2 hy0 hz0 hzz0 h1 h2 hh hh1 hsz htk hlen hs1 hD hv hy hyl hy1 h1c hdl hcat hszi hb hnc hold htl hG hROW hRl hRt hzc hnew hoW hgl hvl hik hkk hGm
  go_enter Tryz.func36, Tryz.ntmps36
  go_wp2_with (first
    | (at_builtin; refine Lib.wpList_append_run _ rfl _ _ _ _ rfl _ _ rfl rfl _ _ (hrz _) ?_)
    | (at_builtin; refine wpList_copy_runI _ rfl _ _ 27 27 rfl _ _ rfl rfl (hcpA _ hE1 hE2 _ _) ?_)
    | (at_builtin; refine wpList_copy_runI _ rfl _ _ 27 27 rfl _ _ rfl rfl (hcpB _ (fun _ => rfl) (fun _ => rfl) _ _ _) ?_))
  go_region_law_o (refine step_copy_runI rfl _ _ 27 27 rfl (.slice (some ⟨w.heap.size, (i + 1) * 2, none⟩) (n - i) (G - (i + 1))) (.slice (some ⟨g, i * 2, none⟩) (n - i) (c - i)) (by simp [Act.eval, Act.put]) (by simp [Act.eval, Act.put]) (hcpB _ hF1 hF2 3 (G - (i + 1)) (c - i)) ?_)
  go_wp2
  go_ret
  exact ⟨G, rfl, HOWN.out, HBL.out⟩

/-- slices.Insert at entries, wherever. -/
theorem insertR_any (v : Value) (n i : Nat) (xs : List (List Value)) (y : List Value) (vb : Nat) (w : World) (base : Nat) (hown : OwnF tR2 w base 50 v n xs) (hi : i ≤ n) (hn : n ≤ 100000) (hy : y.length = 2 ∧ ∀ u ∈ y, u.oneCell' = true) (hv : w.heap[vb]? = some (.cells y.toArray 50 (0, 0))) (hne : v.ownBlock ≠ some vb) (hbase : base ≤ w.heap.size) :
    Calls Tryz.prog 36 #[v, .int .i64 (i : Int), .slice (some ⟨vb, 0, none⟩) 1 1] w fun e w' => ∃ v', e = .returned v' ∧ OwnF tR2 w' base 50 v' (n + 1) (xs.take i ++ y :: xs.drop i) ∧ w.grownBy w' v.ownBlock ∧ (v'.ownBlock = v.ownBlock ∨ v'.ownBlock = some w.heap.size) := by
  have hrep : ∀ D, tR2.rep w D y y := fun D => ⟨rfl, hy⟩
  have hln := Own.len hown (by decide)
  rcases Nat.eq_or_lt_of_le hi with rfl | hlt
  · refine (insertR_end v i xs y _ vb w base (fun _ => False) hown (fun _ h => h.elim) hn (hrep _) hv hbase).mono fun e w' h => ?_
    rw [List.take_of_length_le (by omega), List.drop_of_length_le (by omega)]
    exact h
  · obtain ⟨A, c, rfl⟩ := Own.form hown
    obtain ⟨g, _, rfl, _, _⟩ := Own.block hown (by omega)
    by_cases hroom : n + 1 ≤ c
    · refine (insertR_room g n c i xs y _ vb w base (fun _ => False) hown (fun _ h => h.elim) hlt hroom hn (hrep _) hv (fun e => hne (by rw [e]; rfl))).mono fun e w' h => ?_
      exact ⟨_, h.1, h.2.1, h.2.2, Or.inl rfl⟩
    · refine (insertR_grow g n c i xs y _ vb w base (fun _ => False) hown (fun _ h => h.elim) hlt (by omega) hn (hrep _) hv hbase).mono fun e w' h => ?_
      obtain ⟨G, h1, h2, h3⟩ := h
      exact ⟨_, h1, h2, ⟨h3.os, h3.tape, h3.output, h3.size, fun k hk _ => h3.block k hk⟩, Or.inr rfl⟩

/-! ### ranks -/
/-- A map in memory by which nodes have ranks. -/
def RkAt (w : World) (M : Nat) (rk : Int → Int) : Prop := ∃ im X, w.ownsMap Tryz.prog 3 mpE M im X ∧ ∀ n : Int, X.atKey (.int .i64 n) (.lit (.int .i64 0)) = .lit (.int .i64 (rk n))
theorem RkAt.lt {w : World} {M : Nat} {rk : Int → Int} (h : RkAt w M rk) : M < w.heap.size := by
  obtain ⟨_, _, h, _⟩ := h
  exact h.lt
theorem RkAt.block {w w' : World} {M : Nat} {rk : Int → Int} (h : RkAt w M rk) (hb : w'.heap[M]? = w.heap[M]?) : RkAt w' M rk := by
  obtain ⟨im, X, ⟨es, clock, h1, F, hs, hD⟩, hr⟩ := h
  exact ⟨im, X, ⟨es, clock, hb.trans h1, F, hs, hD⟩, hr⟩
theorem RkAt.run {w : World} {M : Nat} {rk : Int → Int} (h : RkAt w M rk) {n : Int} (hn : (Lit.int .i64 n).wf = true) : (Instr.lookup 55 (.map (some M)) (.int .i64 n) false).run Tryz.prog w = .ok (.int .i64 (rk n)) w := by
  obtain ⟨im, X, ho, hr⟩ := h
  obtain ⟨c, hrun, hat, _⟩ := ho.lookup_int lawI Tryz.underlying55 Tryz.underlying3 (zeroI w) (keyOf_int_mk Tryz.underlying3 hn)
  rw [hr n] at hat
  have e := (Lit.int.inj (DataW.lit.inj hat)).2
  rw [hrun, e]
theorem RkAt.apart {w : World} {M : Nat} {rk : Int → Int} {α : Type} {T : Ty α} {base : Nat} {e : TypeId} {D : Nat → Prop} {v : Value} {n : Nat} {xs : List α} (hR : RkAt w M rk) (h : Own T w base e D v n xs) : v.ownBlock ≠ some M := by
  obtain ⟨im, X, ho, _⟩ := hR
  exact own_no_map h ho
theorem RkAt.box {w : World} {M j : Nat} {rk : Int → Int} {cs : Array Value} {e : TypeId} {fr : Nat × Nat} (hR : RkAt w M rk) (hj : w.heap[j]? = some (.cells cs e fr)) : M ≠ j := by
  obtain ⟨im, X, ho, _⟩ := hR
  exact map_no_cells ho hj

set_option maxRecDepth 100000 in
theorem put1_any (a b : Int) (nb K M : Nat) (rk : Int → Int) (w : World) (hc : w.cell? ⟨nb, 0, none⟩ = some (.pointer (some ⟨K, 0, none⟩))) (hk : w.cell? ⟨K, 4, none⟩ = some (.map (some M))) (hR : RkAt w M rk) (ha : (Lit.int .i64 a).wf = true) (hb : (Lit.int .i64 b).wf = true) :
    Calls Tryz.prog 38 #[.int .i64 a, .int .i64 b, .pointer (some ⟨nb, 0, none⟩)] w fun e w' => e = .returned (.int .i64 (Lib.compareInt (rk a) (rk b))) ∧ Below w.heap.size w w' := by
  have r1 : ∀ k, (Instr.lookup 55 (.map (some M)) (.int .i64 a) false).run Tryz.prog (w.drewN k) = .ok (.int .i64 (rk a)) (w.drewN k) := fun k => (hR.block (w' := w.drewN k) rfl).run ha
  have r2 : ∀ k, (Instr.lookup 55 (.map (some M)) (.int .i64 b) false).run Tryz.prog (w.drewN k) = .ok (.int .i64 (rk b)) (w.drewN k) := fun k => (hR.block (w' := w.drewN k) rfl).run hb
  have r1' : (Instr.lookup 55 (.map (some M)) (.int .i64 a) false).run Tryz.prog w = .ok (.int .i64 (rk a)) w := hR.run ha
  have r2' : (Instr.lookup 55 (.map (some M)) (.int .i64 b) false).run Tryz.prog w = .ok (.int .i64 (rk b)) w := hR.run hb
  clear hR
  go_enter Tryz.func38, Tryz.ntmps38
  go_wp2_with fail
  go_quiet ((go_at_call 39; exact Calls.quiet_of_same (Tryz.cmp_Compare_int _ _ _)))
  go_wp2_with fail
  go_ret
  exact ⟨rfl, below_dN (Below.refl _ _) _⟩

/-! ### put -/
theorem putR_has {rk : Int → Int} {l : List Ref} {wd : ByteArray} {n : Int} {r : Ref} (hh : hasR l wd = true) (hr : l[atR l wd]? = some r) : r.1 = wd ∧ putR rk l wd n = l.set (atR l wd) (wd, ins (rkAt rk r.2 n) n r.2) := by
  obtain ⟨r', hr', he⟩ := has_at hh
  rw [hr] at hr'
  obtain rfl := Option.some.inj hr'
  refine ⟨he, ?_⟩
  unfold putR
  rw [if_pos hh, hr]
  rfl
theorem atR_le (l : List Ref) (wd : ByteArray) : atR l wd ≤ l.length := List.countP_le_length
theorem putR_new {rk : Int → Int} {l : List Ref} {wd : ByteArray} {n : Int} (hh : hasR l wd = false) : putR rk l wd n = (ins (atR l wd) (wd, []) l).set (atR l wd) (wd, ins (rkAt rk [] n) n []) := by
  unfold putR
  rw [if_neg (by rw [hh]; decide)]
  have hl : (l.take (atR l wd)).length = atR l wd := by rw [List.length_take]; have := atR_le l wd; omega
  unfold ins
  conv => rhs; arg 2; rw [← hl]
  rw [show (l.take (atR l wd)).length = (l.take (atR l wd)).length + 0 from rfl, set_app_right, List.set_cons_zero]
  rfl
theorem Rf.not_box {w : World} {base : Nat} {A : Value} {l : List Ref} {ps : List Value} (h : Rf w base A l ps) {k : Nat} {cs : Array Value} {e : TypeId} {fr : Nat × Nat} (hk : w.heap[k]? = some (.cells cs e fr)) (h1 : 50 ≠ e) (h2 : 3 ≠ e) : ¬ Mine A ps k := by
  rintro (hm | ⟨p, hp, hm⟩)
  · exact own_ne_block h1 h.row hk hm
  · obtain ⟨i, hi⟩ := List.mem_iff_getElem?.1 hp
    obtain ⟨r, hr⟩ := get_some (l := l) (k := i) (by rw [← h.len]; exact (List.getElem?_eq_some_iff.1 hi).1)
    exact own_ne_block h2 (h.parts i r p hr hi) hk hm
theorem Rf.not_map {w : World} {base M : Nat} {rk : Int → Int} {A : Value} {l : List Ref} {ps : List Value} (h : Rf w base A l ps) (hR : RkAt w M rk) : ¬ Mine A ps M := by
  rintro (hm | ⟨p, hp, hm⟩)
  · exact hR.apart h.row hm
  · obtain ⟨i, hi⟩ := List.mem_iff_getElem?.1 hp
    obtain ⟨r, hr⟩ := get_some (l := l) (k := i) (by rw [← h.len]; exact (List.getElem?_eq_some_iff.1 hi).1)
    exact hR.apart (h.parts i r p hr hi) hm
theorem tou_set (w : World) (g i : Nat) (u : Value) : Tou (fun b => b = g) w (w.setCell ⟨g, i, none⟩ u) := (Tou.of_grown (grown_set w g i u)).mono fun _ _ e => Option.some.inj e
theorem Rf.set_box {w : World} {base : Nat} {A : Value} {l : List Ref} {ps : List Value} (h : Rf w base A l ps) {k i : Nat} {cs : Array Value} {e : TypeId} {fr : Nat × Nat} (hk : w.heap[k]? = some (.cells cs e fr)) (h1 : 50 ≠ e) (h2 : 3 ≠ e) (u : Value) : Rf (w.setCell ⟨k, i, none⟩ u) base A l ps :=
  h.tou (tou_set w k i u) fun _ hb e => h.not_box hk h1 h2 (e ▸ hb)
theorem arr_same {cs : Array Value} {i : Nat} {v : Value} (h : cs[i]? = some v) : cs.setIfInBounds i v = cs := by
  apply Array.ext'
  rw [Array.toList_setIfInBounds]
  exact set_same (by simpa using h)
theorem cmpI_fun {rk : Int → Int} {n : Int} : (fun x => decide (Lib.compareInt (rk x) (rk n) < 0)) = fun x => decide (rk x < rk n) := by
  funext x
  rw [Bool.eq_iff_iff, decide_eq_true_eq, decide_eq_true_eq]
  unfold Lib.compareInt
  split
  · exact ⟨fun _ => by assumption, fun _ => by decide⟩
  · split
    · exact ⟨fun h => absurd h (by decide), fun h => absurd h (by assumption)⟩
    · exact ⟨fun h => absurd h (by decide), fun h => absurd h (by assumption)⟩
theorem own_ne_g {w : World} {base g n c m : Nat} {l : List Ref} {ps : List Value} {v : Value} {xs : List Int} (h : Rf w base (.slice (some ⟨g, 0, none⟩) n c) l ps) (h2 : OwnF (tInt .i64) w base 3 v m xs) : some g ≠ v.ownBlock := fun e => by
  rcases own_ne (by decide) h2 h.row with h3 | h3
  · rw [h3] at e; cases e
  · exact h3 (e.symm.trans rfl)
/-- What stands behind put's first part: an entry for the word, at its place. -/
def PutMid (w : World) (base K i : Nat) (cs : Array Value) (rk : Int → Int) (v : Value) (l : List Ref) (ps : List Value) (wd : ByteArray) (n : Int) (w' : World) : Prop :=
  ∃ v1 l1 ps1 ks, w'.heap[K]? = some (.cells (cs.setIfInBounds i v1) 58 (0, 0)) ∧ Rf w' base v1 l1 ps1 ∧ Tou (fun b => b = K ∨ Mine v ps b) w w' ∧ (∀ b, Mine v1 ps1 b → Mine v ps b ∨ w.heap.size ≤ b) ∧
    l1[atR l wd]? = some (wd, ks) ∧ NSort rk ks ∧ ks.length + 1 ≤ 100000 ∧ putR rk l wd n = l1.set (atR l wd) (wd, ins (rkAt rk ks n) n ks) ∧ w'.heap[w.heap.size]? = some (.cells #[.pointer (some ⟨K, 0, none⟩)] 54 (0, 0))
/-- What put leaves. -/
def PutPost (w : World) (base K i : Nat) (cs : Array Value) (v : Value) (l' : List Ref) (ps : List Value) (e : Ending) (w' : World) : Prop :=
  e = .returned undef ∧ ∃ v' ps', w'.heap[K]? = some (.cells (cs.setIfInBounds i v') 58 (0, 0)) ∧ Rf w' base v' l' ps' ∧ Tou (fun b => b = K ∨ Mine v ps b) w w' ∧ (∀ b, Mine v' ps' b → Mine v ps b ∨ w.heap.size ≤ b)
set_option maxRecDepth 100000 in
set_option maxHeartbeats 8000000 in
theorem put_any (K M i base : Nat) (cs : Array Value) (rk : Int → Int) (v : Value) (l : List Ref) (ps : List Value) (wd : ByteArray) (n : Int) (w : World) (hbox : w.heap[K]? = some (.cells cs 58 (0, 0))) (hcs : cs.size = 5) (hi : i < 4) (hv : cs[i]? = some v) (hM : cs[4]? = some (.map (some M)))
    (hf : Rf w base v l ps) (hR : RkAt w M rk) (hok : ROk rk l) (hw : wd.size ≤ 1152921504606846976) (hn : (Lit.int .i64 n).wf = true) (hl : l.length + 1 ≤ 100000) (hk : ∀ r ∈ l, r.2.length + 1 ≤ 100000) (hK : base ≤ K) :
    Calls Tryz.prog 19 #[.pointer (some ⟨K, 0, none⟩), .pointer (some ⟨K, i, none⟩), .string wd, .int .i64 n] w (PutPost w base K i cs v (putR rk l wd n) ps) := by
  obtain ⟨w0, hw0⟩ : ∃ w0, w0 = w.alloc (.cells #[.pointer (some ⟨K, 0, none⟩)] 54) := ⟨_, rfl⟩
  have hb0 : Below w.heap.size w w0 := by rw [hw0]; exact (Below.refl _ _).alloc (Nat.le_refl _) _
  have hnb : w0.heap[w.heap.size]? = some (.cells #[.pointer (some ⟨K, 0, none⟩)] 54 (0, 0)) := by rw [hw0]; exact heap_alloc_new w _
  have hKl : K < w.heap.size := (Array.getElem?_eq_some_iff.1 hbox).1
  have hz0 : w.heap.size < w0.heap.size := (Array.getElem?_eq_some_iff.1 hnb).1
  have HB0 := Lib.hid hb0
  have HNB := Lib.hid hnb
  have HZ0 := Lib.hid hz0
  have HKL := Lib.hid hKl
  have HCS := Lib.hid hcs
  have HV := Lib.hid hv
  have HM := Lib.hid hM
  have HOK := Lib.hid hok
  have HW := Lib.hid hw
  have HN := Lib.hid hn
  have HLL := Lib.hid hl
  have HKK := Lib.hid hk
  have HBK := Lib.hid hK
  have HF0 := Lib.hid (hf.next hb0)
  have HF := Lib.hid hf
  have HBOX0 := Lib.hid ((hb0.block K hKl).trans hbox)
  have HBOX := Lib.hid hbox
  have HR := Lib.hid hR
  have HR0 := Lib.hid (hR.block (hb0.block M hR.lt))
  have x1 := cell_blk (i := i) HBOX0.out hv
  obtain ⟨A, c, rfl⟩ := Own.form hf.row
  have HFI := Lib.hid (findR_any A l.length c l wd w0 w0.heap.size HF0.out.sl.2 (Nat.le_refl _) hok.up)
  clear hb0 hnb hKl hz0 hcs hv hM hok hw hn hl hk hf hbox hR hK
  go_enter Tryz.func19, Tryz.ntmps19
  go_upto_region 1 with fail
  rw [← hw0]
  clear hw0
  obtain ⟨a, ha⟩ : ∃ a, atR l wd = a := ⟨_, rfl⟩
  have HA := Lib.hid ha
  have HAL : Hid (a ≤ l.length) := by rw [← ha]; exact atR_le l wd
  rw [ha] at HFI
  clear ha
  obtain ⟨f, hh⟩ : ∃ f, hasR l wd = f := ⟨_, rfl⟩
  rw [hh] at HFI
  have HH := Lib.hid hh
  clear hh
  go_upto_if 22 with (go_at_call 32; refine HFI.out.mono ?_; rintro e w1 ⟨rfl, hb1⟩)
  have HT1 := Lib.hid ((Tou.of_below (S := fun b => b = K ∨ Mine (.slice A l.length c) ps b) HB0.out).trans (Tou.of_below (S := fun _ => False) hb1) (fun _ _ h => h.elim))
  have HF1 := Lib.hid (HF0.out.next hb1)
  have HX1 := Lib.hid ((hb1.block K (Nat.lt_trans HKL.out HZ0.out)).trans HBOX0.out)
  have HN1 := Lib.hid ((hb1.block _ HZ0.out).trans HNB.out)
  have HS1 : Hid (w.heap.size < w1.heap.size) := Nat.lt_of_lt_of_le HZ0.out hb1.size
  have x1 := cell_blk (i := i) HX1.out HV.out
  clear hb1 HFI
  go_cut [] (fun wx => PutMid w base K i cs rk (.slice A l.length c) l ps wd n wx)
  case first =>
    cases f with
    | true =>
      go_wp2_with fail
      go_meet
      case rel =>
        obtain ⟨r, hr, he⟩ := has_at HH.out
        obtain ⟨_, hput⟩ := putR_has (rk := rk) (n := n) HH.out hr
        have hmem := List.mem_of_getElem? hr
        exact ⟨.slice A l.length c, l, ps, r.2, by rw [arr_same HV.out]; exact HX1.out, HF1.out, HT1.out, fun b hb => Or.inl hb, by rw [hr, ← he], HOK.out.ns r hmem, HKK.out r hmem, hput, HN1.out⟩
    | false =>
      have HF2 := Lib.hid (HF1.out.next ((Below.refl _ w1).alloc (Nat.le_refl _) (.cells #[.string wd, .slice none 0 0] 50)))
      have HIN := Lib.hid (insertR_any (.slice A l.length c) l.length a (List.zipWith rfRow l ps) [.string wd, .slice none 0 0] w1.heap.size (w1.alloc (.cells #[.string wd, .slice none 0 0] 50)) base HF2.out.row HAL.out HF1.out.few ⟨rfl, by intro u hu; simp only [List.mem_cons, List.not_mem_nil, or_false] at hu; rcases hu with rfl | rfl <;> rfl⟩ (heap_alloc_new w1 _) (fun e => by have := (Own.lt HF1.out.row _ e).2; omega) (by rw [World.size_alloc]; have := HBK.out; have := HKL.out; have := HS1.out; omega))
      have hx2 : (w1.alloc (.cells #[.string wd, .slice none 0 0] 50)).heap[K]? = some (.cells cs 58 (0, 0)) := (Lib.alloc_old _ _ _ (Array.getElem?_eq_some_iff.1 HX1.out).1).trans HX1.out
      have hn2 : (w1.alloc (.cells #[.string wd, .slice none 0 0] 50)).heap[w.heap.size]? = some (.cells #[.pointer (some ⟨K, 0, none⟩)] 54 (0, 0)) := (Lib.alloc_old _ _ _ HS1.out).trans HN1.out
      have HX2 := Lib.hid hx2
      have HN2 := Lib.hid hn2
      clear hx2 hn2
      go_wp2_with (go_at_call 36; refine HIN.out.mono ?_; rintro e w3 ⟨v', rfl, hown, hg, hv'⟩; obtain ⟨A', c', rfl⟩ := Own.form hown; have HX3 := Lib.hid ((hg.block K (Array.getElem?_eq_some_iff.1 HX2.out).1 (fun e => own_ne_block (by decide) HF2.out.row HX2.out e.symm)).trans HX2.out); have HN3 := Lib.hid ((hg.block _ (Array.getElem?_eq_some_iff.1 HN2.out).1 (fun e => own_ne_block (by decide) HF2.out.row HN2.out e.symm)).trans HN2.out); have y1 := cell_blk (i := i) HX3.out HV.out; have f1 := free_blk (i := i) HX3.out; have HG := Lib.hid hg; have HO := Lib.hid hown; have HV' := Lib.hid hv'; clear hg hown hv')
      go_meet
      case rel =>
        obtain rfl := HA.out
        refine ⟨.slice A' (l.length + 1) c', ins (atR l wd) (wd, []) l, ins (atR l wd) (.slice none 0 0) ps, [], set_blk (i := i) HX3.out _, (HF2.out.ins_word HG.out HO.out HAL.out HW.out HLL.out).set_box HX3.out (by decide) (by decide) _, ?_, fun b hb => ?_, ?_, List.Pairwise.nil, by decide, putR_new HH.out, (Below.heap_setCell _ _ _ _ (by show w.heap.size ≠ K; have := HKL.out; omega)).trans HN3.out⟩
        · exact ((HT1.out.trans (Tou.of_below (S := fun _ => False) ((Below.refl _ w1).alloc (Nat.le_refl _) _)) (fun _ _ h => h.elim)).trans (Tou.of_grown HG.out) (fun k _ e => Or.inr (Or.inl e.symm))).trans (tou_set _ _ _ _) (fun k _ e => Or.inl e)
        · rcases hb with h | ⟨p, hp, h⟩
          · rcases HV'.out with e | e
            · exact Or.inl (Or.inl (e.symm.trans h))
            · rw [e] at h
              refine Or.inr ?_
              have := Option.some.inj h
              rw [World.size_alloc] at this
              have := HS1.out
              omega
          · rcases mem_ins.1 hp with rfl | hp
            · cases h
            · exact Or.inl (Or.inr ⟨p, hp, h⟩)
        · rw [ins_at HAL.out, if_neg (by omega), if_pos rfl]
  case rest =>
  obtain ⟨v1, l1, ps1, ks, hx, hf1, ht1, hm1, hat, hns, hlen, hput, hnb⟩ := hcut
  rw [HA.out] at hat hput
  have h0 : 0 < l1.length := by have := (List.getElem?_eq_some_iff.1 hat).1; omega
  obtain ⟨g, c1, rfl, hbg, hgl, hcap, hfz, hcell⟩ := hf1.where_ h0
  obtain ⟨p, hp, hpo⟩ := hf1.part_at hat
  obtain ⟨d1, d2⟩ := hcell a _ p hat hp
  obtain ⟨Ak, ck, rfl⟩ := Own.form hpo
  have hil : i < 5 := by omega
  have x1 : wc.cell? ⟨K, i, none⟩ = some (.slice (some ⟨g, 0, none⟩) l1.length c1) := cell_blk hx (by rw [Array.getElem?_setIfInBounds_self_of_lt (by rw [HCS.out]; exact hil)])
  have n0 : wc.cell? ⟨w.heap.size, 0, none⟩ = some (.pointer (some ⟨K, 0, none⟩)) := cell_blk hnb rfl
  have n4 : wc.cell? ⟨K, 4, none⟩ = some (.map (some M)) := cell_blk hx (by rw [Array.getElem?_setIfInBounds_ne (by omega)]; exact HM.out)
  have hRc : RkAt wc M rk := HR.out.block (ht1.block M HR.out.lt (by rintro (e | e); exact HR.out.box HBOX.out e; exact HF.out.not_map HR.out e))
  obtain ⟨_, _, e0, hsl⟩ := OwnF.sl hpo (by decide) (by show ks.length * 8 ≤ _; omega)
  injection e0 with e1 _ e2
  subst e1 e2
  have hwf : ∀ x ∈ ks, (Lit.int .i64 x).wf = true := fun x hx => by
    obtain ⟨j, hj⟩ := List.mem_iff_getElem?.1 hx
    obtain ⟨_, _, _, _, _, h⟩ := hsl.int hj
    exact h
  have hbs := bsI_any Ak ks.length ck ks n w.heap.size (fun m => Lib.compareInt (rk m) (rk n)) wc wc.heap.size hsl (Nat.le_refl _) (by rw [cmpI_fun]; exact ns_mono hns n) (fun x hx W hW => put1_any x n w.heap.size K M rk W (cell_be n0 hW) (cell_be n4 hW) (hRc.block (hW.block M hRc.lt)) (hwf x hx) HN.out)
  rw [cmpI_fun] at hbs
  obtain ⟨j, hj⟩ : ∃ j, rkAt rk ks n = j := ⟨_, rfl⟩
  rw [show (ks.countP fun x => decide (rk x < rk n)) = j from hj] at hbs
  have HJ := Lib.hid hj
  have HJL : Hid (j ≤ ks.length) := by rw [← hj]; exact List.countP_le_length
  generalize foundP _ ks = f2 at hbs
  have HBS := Lib.hid hbs
  have i1 : (0 : Int) ≤ (a : Int) := by omega
  have i2 : (a : Int) < (l1.length : Int) := by have := (List.getElem?_eq_some_iff.1 hat).1; omega
  have hKg : K ≠ g := fun e => by
    have := hf1.not_box hx (by decide) (by decide)
    exact this (Or.inl (by rw [e]; rfl))
  have HKG := Lib.hid hKg
  have HXC := Lib.hid hx
  have HFC := Lib.hid hf1
  have HTC := Lib.hid ht1
  have HMC := Lib.hid hm1
  have HAT := Lib.hid hat
  have HLEN := Lib.hid hlen
  have HPUT := Lib.hid hput
  have HP := Lib.hid hp
  have HPO := Lib.hid hpo
  have HGL := Lib.hid hgl
  have f2 := hfz (a * 2 + 1)
  have HF2 := Lib.hid f2
  have HSW : Hid (w.heap.size ≤ wc.heap.size) := ht1.size
  clear hj hbs hKg hx hf1 ht1 hm1 hat hlen hput hp hpo hgl hfz hcell hns hnb hRc hsl hwf h0 hcap hbg d1 n0 n4 f2 x1
  have x1 : wc.cell? ⟨K, i, none⟩ = some (.slice (some ⟨g, 0, none⟩) l1.length c1) := cell_blk HXC.out (by rw [Array.getElem?_setIfInBounds_self_of_lt (by rw [HCS.out]; exact hil)])
  generalize hnk : ks.length = nk at *
  have HNK := Lib.hid hnk
  clear hnk
  go_upto_region 6 with (go_at_call 37; refine HBS.out.mono ?_; rintro e w2 ⟨rfl, hb2⟩)
  have hw3 : Below wc.heap.size wc (w2.alloc (.cells #[.int .i64 n] 3)) := hb2.trans ((Below.refl _ _).alloc hb2.size _)
  have HB3 := Lib.hid hw3
  have HF3 := Lib.hid (HFC.out.next hw3)
  have d2 : w2.cell? ⟨g, a * 2 + 1, none⟩ = some (.slice Ak nk ck) := cell_be d2 hb2
  have d3 : (w2.alloc (.cells #[.int .i64 n] 3)).cell? ⟨g, a * 2 + 1, none⟩ = some (.slice Ak nk ck) := cell_al d2 _
  have HD3 := Lib.hid d3
  have HE3 := Lib.hid ((hw3.frozen (p := ⟨g, a * 2 + 1, none⟩) HGL.out).trans HF2.out)
  have HPO3 := Lib.hid (OwnF.below HPO.out hw3 (Nat.le_refl _))
  have HX3 := Lib.hid ((hw3.block K (Array.getElem?_eq_some_iff.1 HXC.out).1).trans HXC.out)
  have HIN := Lib.hid (insertI Ak nk ck j ks n w2.heap.size (w2.alloc (.cells #[.int .i64 n] 3)) base HPO3.out HJL.out (by have := HLEN.out; omega) (by have := HBK.out; have := HKL.out; have := HSW.out; have := hw3.size; omega) HN.out (heap_alloc_new w2 _) (fun e => by have := (Own.lt HPO.out _ e).2; have := hb2.size; omega))
  clear hw3 hb2 d3 HBS
  go_wp2_with (go_at_call 40; refine HIN.out.mono ?_; rintro e w4 ⟨v', rfl, hown, hg, hv'⟩; obtain ⟨A2, c2, rfl⟩ := Own.form hown; have hgk : some g ≠ (Value.slice Ak nk ck).ownBlock := (fun e => own_ne_g HF3.out HPO3.out e); have y2 : w4.cell? ⟨g, a * 2 + 1, none⟩ = some (.slice Ak nk ck) := (World.cell?_of_block (hg.block g (World.block_lt_of_cell? _ _ HD3.out) hgk)).trans HD3.out; have f2 : w4.frozen? ⟨g, a * 2 + 1, none⟩ = false := (World.frozen?_of_block (hg.block g (World.block_lt_of_cell? _ _ HD3.out) hgk)).trans HE3.out; have HG := Lib.hid hg; have HO := Lib.hid hown; have HV' := Lib.hid hv'; clear hg hown hv' hgk)
  have hks : (ins j n ks).length = nk + 1 := by rw [ins_len]; rw [show ks.length = nk from HNK.out]
  have hX4 : w4.heap[K]? = some (.cells (cs.setIfInBounds i (.slice (some ⟨g, 0, none⟩) l1.length c1)) 58 (0, 0)) := (HG.out.block K (Array.getElem?_eq_some_iff.1 HX3.out).1 (fun e => own_ne_block (by decide) HPO3.out HX3.out e.symm)).trans HX3.out
  refine bodyPost_end (results_none rfl _ _ _) rfl ⟨rfl, .slice (some ⟨g, 0, none⟩) l1.length c1, ps1.set a (.slice A2 (nk + 1) c2), (Below.heap_setCell _ _ _ _ HKG.out).trans hX4, ?_, ?_, fun b hb => ?_⟩
  · rw [HPUT.out, HJ.out]
    exact HF3.out.nodes HAT.out HP.out HG.out (by rw [hks]; exact HO.out) (HV'.out.imp id fun e => ⟨_, e, Nat.le_refl _⟩) (by rw [hks]; have := HLEN.out; omega)
  · refine (((HTC.out.trans (Tou.of_below (S := fun _ => False) HB3.out) (fun _ _ h => h.elim)).trans (Tou.of_grown HG.out) (fun k hk e => ?_)).trans (tou_set _ _ _ _) fun k hk e => ?_)
    · refine Or.inr ((HMC.out k (Or.inr ⟨_, List.mem_of_getElem? HP.out, e.symm⟩)).resolve_right (by omega))
    · exact Or.inr ((HMC.out k (Or.inl (by rw [e]; rfl))).resolve_right (by omega))
  · rcases hb with h | ⟨q, hq, h⟩
    · exact HMC.out b (Or.inl h)
    · rcases List.mem_or_eq_of_mem_set hq with hq | rfl
      · exact HMC.out b (Or.inr ⟨q, hq, h⟩)
      · rcases HV'.out with e | e
        · exact HMC.out b (Or.inr ⟨_, List.mem_of_getElem? HP.out, e.symm.trans h⟩)
        · rw [e] at h
          have := Option.some.inj h
          have h1 := HB3.out.size
          have h2 := HSW.out
          exact Or.inr (by omega)
end Go.Proofs.YtomleengbnfikaaGreatDoor
