/-
slices.Insert at attributes.
-/
import Derived.Test.YtfeighclpaijoaaGreatDoorInsertKit
import Derived.Test.YtfeighclpaijoaaGreatDoorRecBase
namespace Go.Proofs.YtfeighclpaijoaaGreatDoor
open Go.RowKit Go.Cl
attribute [local go_sem ↓] Go.wp_at_zero Go.wp_at_succ

set_option maxRecDepth 100000 in
set_option maxHeartbeats 4000000 in
/-- slices.Insert of one element, ahead of another one, in a row with room. -/
theorem insertA_room (g n c i : Nat) (xs : List DAttr) (y : DAttr) (ys : List Value) (vb : Nat) (w : World) (base : Nat) (D : Nat → Prop) (hown : Own tDA w base 66 D (.slice (some ⟨g, 0, none⟩) n c) n xs) (hD : ∀ b, D b → b ≠ g) (hi : i < n) (hroom : n + 1 ≤ c) (hn : n ≤ 100000) (hy : (tDA).rep w D y ys) (hv : w.heap[vb]? = some (.cells ys.toArray 66 (0, 0))) (hne : vb ≠ g) :
    Calls Tryz.prog 49 #[.slice (some ⟨g, 0, none⟩) n c, .int .i64 (i : Int), .slice (some ⟨vb, 0, none⟩) 1 1] w fun e w' => e = .returned (.slice (some ⟨g, 0, none⟩) (n + 1) c) ∧ Own tDA w' base 66 D (.slice (some ⟨g, 0, none⟩) (n + 1) c) (n + 1) (xs.take i ++ y :: xs.drop i) ∧ w.grownBy w' (some g) := by
  obtain ⟨cells, h1, h2⟩ := hown
  have hlen := h1.1
  have hT : (tDA).size = 2 := rfl
  have hyl : ys.length = 2 := (tDA).len hy
  have hy1 := (tDA).one hy
  rw [hT] at hlen
  rcases h1.2 with ⟨hv', _⟩ | ⟨g', cap, cur, hv', hb, hh, hnc, hcm, hsz, htk⟩
  · cases hv'
  simp only [Value.slice.injEq, Option.some.injEq, Addr.mk.injEq, and_true, true_and] at hv'
  obtain ⟨rfl, rfl⟩ := hv'
  rw [hT] at hsz htk
  have hm := hcm
  unfold maxLen at hm
  have hcl : cur.toList.length = c * 2 := by simpa using hsz
  have h1c : ∀ v ∈ cells, v.oneCell' = true := fun u hu => h2.one_ u hu
  obtain ⟨i0, z0, hi0, hz0, hs0, hy0, hzz0⟩ := (elemDA).info
  have hszi : (Tryz.prog.info? 66).map (·.size) = some 2 := by rw [hi0]; simp [hs0]
  have hov : ∀ lb cb, (callFunc 74 #[.slice (some ⟨vb, 0, none⟩) 1 1, .slice (some ⟨g, (i + 1) * 2, none⟩) lb cb]).run Tryz.prog w = .ok (.value (.bool false)) w := fun lb cb => by
    rw [run_callFunc_extern Tryz.func74 (by kernel_rfl) (by kernel_rfl) (by kernel_rfl) (e := Extern.SlicesOverlaps.overlaps #[41, 41] #[4]) (by kernel_rfl),
      Lib.run_overlaps_apart w 41 4 66 Tryz.underlying41 2 (fun w => by simp [Go.sizeOf, typeInfo, hi0, hs0]) ⟨vb, 0, none⟩ ⟨g, (i + 1) * 2, none⟩ 1 1 lb cb hne 66 66 2 (c * 2) (by simp [World.shape?, hv, hyl]) (by simp [World.shape?, hh, hsz]) (by omega) (free_blk hv) (free_blk hv)]
    rfl
  have hdl : (cells.drop (i * 2)).length = (n - i) * 2 := by rw [List.length_drop, hlen]; omega
  have hcat : ∀ j v, cells[j]? = some v → w.cell? ⟨g, j, none⟩ = some v := fun j v hj => by
    rw [← htk, List.getElem?_take] at hj
    split at hj
    · exact cell_blk hh (by simpa using hj)
    · cases hj
  have hsp : ∀ j, j < c * 2 → (w.cell? ⟨g, j, none⟩).isSome = true := fun j hj => by rw [cell_blk hh (Array.getElem?_eq_getElem (by omega))]; rfl
  have hcp1 : ∀ ty dc sc, (Builtin.copy_ #[41, 41] ty #[.slice (some ⟨g, (i + 1) * 2, none⟩) (n - i) dc, .slice (some ⟨g, i * 2, none⟩) (n + 1 - i) sc]).run Tryz.prog w.drew = .ok (goInt ((n - i : Nat) : Int)) (w.drew.setCells g ((i + 1) * 2) (cells.drop (i * 2))) := fun ty dc sc =>
    run_copy_sized w.drew _ _ ty 66 g ((i + 1) * 2) (n - i) dc ⟨g, i * 2, none⟩ (n + 1 - i) sc 2 (n - i) (cells.drop (i * 2)) Tryz.underlying41 hszi (by simp only [Nat.min_def]; split <;> omega) hdl
      (fun j v hj => by rw [Addr.add_lit]; rw [List.getElem?_drop] at hj; exact hcat _ v hj)
      (fun j hj => hsp _ (by omega)) (fun j hj => free_blk (w := w) hh) (fun v hv => h1c v (List.mem_of_mem_drop hv))
  obtain ⟨W1, hW1⟩ : ∃ W1, W1 = w.drew.setCells g ((i + 1) * 2) (cells.drop (i * 2)) := ⟨_, rfl⟩
  obtain ⟨cur1, hh1, hs1, _⟩ := heap_setCells (cells.drop (i * 2)) ((i + 1) * 2) w.drew cur hh (by rw [hdl]; omega)
  rw [← hW1] at hh1
  have hvW : ∀ j v, ys[j]? = some v → W1.cell? ⟨vb, j, none⟩ = some v := fun j v hj => by
    rw [hW1, World.cell?_setCells_out g _ _ _ _ (fun h _ => absurd h hne)]
    exact cell_blk (w := w) hv (by simpa using hj)
  have hcp2 : ∀ (W : World), (∀ x, W.cell? x = W1.cell? x) → (∀ x, W.frozen? x = W1.frozen? x) → ∀ ty dc, (Builtin.copy_ #[41, 41] ty #[.slice (some ⟨g, i * 2, none⟩) (n + 1 - i) dc, .slice (some ⟨vb, 0, none⟩) 1 1]).run Tryz.prog W = .ok (goInt ((1 : Nat) : Int)) (W.setCells g (i * 2) ys) := fun W hWc hWf ty dc =>
    run_copy_sized W _ _ ty 66 g (i * 2) (n + 1 - i) dc ⟨vb, 0, none⟩ 1 1 2 1 ys Tryz.underlying41 hszi (by simp only [Nat.min_def]; split <;> omega) (by omega)
      (fun j v hj => by rw [Addr.add_lit, hWc, Nat.zero_add]; exact hvW j v hj)
      (fun j hj => by rw [hWc, cell_blk hh1 (Array.getElem?_eq_getElem (by omega))]; rfl) (fun j hj => by rw [hWf]; exact free_blk hh1) hy1
  have HOWN := Lib.hid (show Own tDA (W1.setCells g (i * 2) ys) base 66 D (.slice (some ⟨g, 0, none⟩) (n + 1) c) (n + 1) (xs.take i ++ y :: xs.drop i) from by
    subst hW1
    obtain ⟨cur2, c1, c2, c3⟩ := ins_room (w := w.drew) (i := i) hh hsz htk (by omega) hroom hyl
    have hk : ∀ p : Addr, D p.block → ((w.drew.setCells g ((i + 1) * 2) (cells.drop (i * 2))).setCells g (i * 2) ys).cell? p = w.cell? p := fun p hp => World.cell?_of_block (w := w) ((heap_setCells_other (hD _ hp) _ _ _).trans (heap_setCells_other (hD _ hp) _ _ _))
    refine ⟨cells.take (i * 2) ++ ys ++ cells.drop (i * 2), ⟨by rw [← c3, List.length_take, hT]; have : cur2.toList.length = c * 2 := (by simpa using c2); omega, .inr ⟨g, c, cur2, rfl, hb, c1, hroom, hcm, by rw [hT]; exact c2, by rw [hT]; exact c3⟩⟩, ?_⟩
    rw [List.append_assoc]
    exact ((h2.take i).keep hk).append ((Row.append (Row.one hy) (h2.drop i)).keep hk))
  have HG := Lib.hid (show w.grownBy (W1.setCells g (i * 2) ys) (some g) from by
    subst hW1
    exact grownBy.trans' (b := w.drew) ⟨rfl, rfl, rfl, Nat.le_refl _, fun _ _ _ => rfl⟩ (grownBy.trans' (grown_setCells g _ _ _) (grown_setCells g _ _ _)))
  have mixed : Tryz.prog.follows .mixedOrders = true := by kernel_rfl
  have hz2 : ¬ ((i : Int) = (n : Int)) := by omega
  have hw1 : IntKind.i64.wrap ((i : Int) + 1) = (i : Int) + 1 := IntWalk.i64_in _ (by omega)
  have hw2 : IntKind.i64.wrap ((n : Int) + 1) = (n : Int) + 1 := IntWalk.i64_in _ (by omega)
  have hb1 : (0 : Int) ≤ (i : Int) + 1 := by omega
  have hin : i ≤ n := by omega
  have htn : ((i : Int) + 1).toNat = i + 1 := by omega
  have htm : ((n : Int) + 1).toNat = n + 1 := by omega
  have hb2 : ¬ (c = i + 1) := by omega
  have hb3 : (i : Int) ≤ (n : Int) + 1 := by omega
  have hb4 : ¬ (c = i) := by omega
  rw [← hW1] at hcp1
  clear hi0 hs0 hy0 hz0 hzz0 h1 h2 hh hh1 hsz htk hcl hlen hs1 hD hv hy hyl hy1 h1c hdl hcat hsp hvW hszi hW1 hb hnc
  go_enter Tryz.func49, Tryz.ntmps49
  go_wp2_with (simp only [hov])
  go_region_law_o (refine step_copy_runI rfl _ _ 41 41 rfl _ _ (by simp [Act.eval, Act.put]) (by simp [Act.eval, Act.put]) (hcp1 _ _ _) ?_)
  go_wp2_with (at_builtin; refine wpList_copy_runI _ rfl _ _ 41 41 rfl _ _ rfl rfl (hcp2 _ (fun _ => rfl) (fun _ => rfl) _ _) ?_)
  go_ret
  exact ⟨rfl, HOWN.out, HG.out⟩
set_option maxRecDepth 100000 in
set_option maxHeartbeats 4000000 in
/-- slices.Insert of one element, behind all others. -/
theorem insertA_end (v : Value) (n : Nat) (xs : List DAttr) (y : DAttr) (ys : List Value) (vb : Nat) (w : World) (base : Nat) (D : Nat → Prop) (hown : Own tDA w base 66 D v n xs) (hD : ∀ b, D b → b < w.heap.size ∧ some b ≠ v.ownBlock) (hn : n ≤ 100000) (hy : (tDA).rep w D y ys) (hv : w.heap[vb]? = some (.cells ys.toArray 66 (0, 0))) (hbase : base ≤ w.heap.size) :
    Calls Tryz.prog 49 #[v, .int .i64 (n : Int), .slice (some ⟨vb, 0, none⟩) 1 1] w fun e w' => ∃ v', e = .returned v' ∧ Own tDA w' base 66 D v' (n + 1) (xs ++ [y]) ∧ w.grownBy w' v.ownBlock ∧ (v'.ownBlock = v.ownBlock ∨ v'.ownBlock = some w.heap.size) := by
  obtain ⟨A, c, rfl⟩ := Own.form hown
  have hcap : n ≤ c := by
    obtain ⟨_, h1, _⟩ := hown
    rcases h1.2 with ⟨hv', h0⟩ | ⟨g', cap, cur, hv', _, _, hnc, _⟩
    · omega
    · injection hv' with _ _ e3
      omega
  have HC := Lib.hid (fun (j : Nat) (u : Value) (hj : ys[j]? = some u) => show w.cell? ⟨vb, 0 + j, none⟩ = some u by rw [Nat.zero_add]; exact cell_blk hv (by simpa using hj))
  have HO := Lib.hid hown
  have HD := Lib.hid hD
  have HY := Lib.hid hy
  clear hown hD hy hv
  rcases Nat.eq_or_lt_of_le hcap with hcc | hcc
  · subst hcc
    go_enter Tryz.func49, Tryz.ntmps49
    go_wp2_with (at_builtin; refine wpList_ap1 _ rfl (.tmp 23) (.tmp 24) 41 rfl elemDA (v := .slice A n n) (n := n) (xs := xs) (base := base) (D := D) rfl HO.out HD.out rfl HY.out HC.out (by omega) (by omega) hbase ?_; intro v9 w9 hown9 hg9 hbl9 hv9)
    have HP := Lib.hid (show Own tDA w9 base 66 D v9 (n + 1) (xs ++ [y]) ∧ w.grownBy w9 (Value.slice A n n).ownBlock ∧ (v9.ownBlock = (Value.slice A n n).ownBlock ∨ v9.ownBlock = some w.heap.size) from ⟨hown9, hg9, hv9⟩)
    clear hown9 hg9 hv9 hbl9
    go_wp2_with fail
    go_ret
    exact ⟨v9, rfl, HP.out.1, HP.out.2.1, HP.out.2.2⟩
  · have hcn : ¬ (c = n) := by omega
    go_enter Tryz.func49, Tryz.ntmps49
    go_wp2_with (at_builtin; refine wpList_ap1 _ rfl (.tmp 23) (.tmp 24) 41 rfl elemDA (v := .slice A n c) (n := n) (xs := xs) (base := base) (D := D) rfl HO.out HD.out rfl HY.out HC.out (by omega) (by omega) hbase ?_; intro v9 w9 hown9 hg9 hbl9 hv9)
    have HP := Lib.hid (show Own tDA w9 base 66 D v9 (n + 1) (xs ++ [y]) ∧ w.grownBy w9 (Value.slice A n c).ownBlock ∧ (v9.ownBlock = (Value.slice A n c).ownBlock ∨ v9.ownBlock = some w.heap.size) from ⟨hown9, hg9, hv9⟩)
    clear hown9 hg9 hv9 hbl9
    go_wp2_with fail
    go_ret
    exact ⟨v9, rfl, HP.out.1, HP.out.2.1, HP.out.2.2⟩
set_option maxRecDepth 100000 in
set_option maxHeartbeats 4000000 in
/-- slices.Insert of one element, ahead of another one, where there is no room: a new row. -/
theorem insertA_grow (g n c i : Nat) (xs : List DAttr) (y : DAttr) (ys : List Value) (vb : Nat) (w : World) (base : Nat) (D : Nat → Prop) (hown : Own tDA w base 66 D (.slice (some ⟨g, 0, none⟩) n c) n xs) (hD : ∀ b, D b → b < w.heap.size) (hi : i < n) (hroom : c < n + 1) (hn : n ≤ 100000) (hy : (tDA).rep w D y ys) (hv : w.heap[vb]? = some (.cells ys.toArray 66 (0, 0))) (hbase : base ≤ w.heap.size) :
    Calls Tryz.prog 49 #[.slice (some ⟨g, 0, none⟩) n c, .int .i64 (i : Int), .slice (some ⟨vb, 0, none⟩) 1 1] w fun e w' => ∃ G, e = .returned (.slice (some ⟨w.heap.size, 0, none⟩) (n + 1) G) ∧ Own tDA w' base 66 D (.slice (some ⟨w.heap.size, 0, none⟩) (n + 1) G) (n + 1) (xs.take i ++ y :: xs.drop i) ∧ Below w.heap.size w w' := by
  obtain ⟨cells, h1, h2⟩ := hown
  have hlen := h1.1
  have hT : (tDA).size = 2 := rfl
  have hyl : ys.length = 2 := (tDA).len hy
  have hy1 := (tDA).one hy
  rw [hT] at hlen
  rcases h1.2 with ⟨hv', _⟩ | ⟨g', cap, cur, hv', hb, hh, hnc, hcm, hsz, htk⟩
  · cases hv'
  simp only [Value.slice.injEq, Option.some.injEq, Addr.mk.injEq, and_true, true_and] at hv'
  obtain ⟨rfl, rfl⟩ := hv'
  rw [hT] at hsz htk
  have hgl := (Array.getElem?_eq_some_iff.1 hh).1
  have hvl := (Array.getElem?_eq_some_iff.1 hv).1
  have h1c : ∀ v ∈ cells, v.oneCell' = true := fun u hu => h2.one_ u hu
  obtain ⟨i0, z0, hi0, hz0, hs0, hy0, hzz0⟩ := (elemDA).info
  have hs2 : i0.size = 2 := hs0
  have hszi : (Tryz.prog.info? 66).map (·.size) = some 2 := by rw [hi0]; simp [hs0]
  have hcat : ∀ j v, cells[j]? = some v → w.cell? ⟨g, j, none⟩ = some v := fun j v hj => by
    rw [← htk, List.getElem?_take] at hj
    split at hj
    · exact cell_blk hh (by simpa using hj)
    · cases hj
  have hdl : (cells.drop (i * 2)).length = (n - i) * 2 := by rw [List.length_drop, hlen]; omega
  have htl : (cells.take (i * 2)).length = i * 2 := by rw [List.length_take, hlen]; omega
  have hold : (Builtin.firstCells i0.size i (.slice (some ⟨g, 0, none⟩) i c)).run Tryz.prog w.drew = .ok (cells.take (i * 2)).toArray w.drew := by
    rw [hs2]
    exact run_firstCells_some w.drew 2 i ⟨g, 0, none⟩ i c (cells.take (i * 2)) (by rw [htl]) (fun j v hj => by
      rw [Addr.add_lit, Nat.zero_add]
      rw [List.getElem?_take] at hj
      split at hj
      · exact hcat j v hj
      · cases hj)
  have hik : i + (n + 1 - i) = n + 1 := by omega
  have hkk : (n : Int) + 1 - (i : Int) = ((n + 1 - i : Nat) : Int) := by omega
  have hrz : ∀ ty, (Builtin.append_ #[41, 3] ty #[.slice (some ⟨g, 0, none⟩) i c, .int .i64 ((n : Int) + 1 - (i : Int))]).run Tryz.prog w =
      .ok (.slice (some ⟨w.heap.size, 0, none⟩) (n + 1) (grownCap w (n + 1) c 66)) (w.drew.alloc (.cells ((cells.take (i * 2)).toArray ++ Builtin.zeroCells z0.cells (n + 1 - i) ++ Builtin.zeroCells z0.cells (grownCap w (n + 1) c 66 - (n + 1))) 66)) := fun ty => by
    have h := Lib.run_append_grow_zeros w 41 3 ty 66 i0 z0 .i64 .i64 Tryz.underlying41 Tryz.underlying3 hi0 hz0 (some ⟨g, 0, none⟩) i c (cells.take (i * 2)) hold (n + 1 - i) (by omega) (by omega) (by omega) (by omega) (by rw [hy0]; omega) (by rw [hy0, hik]; exact growslice_fits hroom (by omega))
    rw [hik] at h
    rw [hkk]
    exact h
  obtain ⟨G, hG⟩ : ∃ G, G = grownCap w (n + 1) c 66 := ⟨_, rfl⟩
  have hGn : n + 1 ≤ G := by rw [hG]; exact grownCap_ge w _ _ _
  have hGm : G ≤ maxLen := by rw [hG]; exact grownCap_le_maxLen w (n + 1) c _ (by unfold maxLen; omega)
  have hG63 : G ≤ 9223372036854775807 := by unfold maxLen at hGm; omega
  obtain ⟨ROW, hROW⟩ : ∃ ROW : Array Value, ROW = (cells.take (i * 2)).toArray ++ Builtin.zeroCells z0.cells (n + 1 - i) ++ Builtin.zeroCells z0.cells (G - (n + 1)) := ⟨_, rfl⟩
  rw [← hG] at hrz
  rw [← hROW] at hrz
  have hzc : ∀ k, (Builtin.zeroCells z0.cells k).size = k * 2 := fun k => by simp [Builtin.zeroCells, hzz0]
  have hRl : ROW.size = G * 2 := by
    rw [hROW, Array.size_append, Array.size_append, hzc, hzc, List.size_toArray, htl]
    omega
  have hRt : ROW.toList.take (i * 2) = cells.take (i * 2) := by
    rw [hROW, Array.toList_append, Array.toList_append, List.append_assoc]
    exact List.take_left' htl
  obtain ⟨W1, hW1⟩ : ∃ W1, W1 = w.drew.alloc (.cells ROW 66) := ⟨_, rfl⟩
  rw [← hW1] at hrz
  have hnew : W1.heap[w.heap.size]? = some (.cells ROW 66 (0, 0)) := by rw [hW1]; exact heap_alloc_new w.drew _
  have hoW : ∀ j, j < w.heap.size → W1.heap[j]? = w.heap[j]? := fun j hj => by rw [hW1]; exact Lib.alloc_old w.drew _ j hj
  have hcpA : ∀ (W : World), (∀ x, W.cell? x = W1.cell? x) → (∀ x, W.frozen? x = W1.frozen? x) → ∀ ty dc, (Builtin.copy_ #[41, 41] ty #[.slice (some ⟨w.heap.size, i * 2, none⟩) (n + 1 - i) dc, .slice (some ⟨vb, 0, none⟩) 1 1]).run Tryz.prog W = .ok (goInt ((1 : Nat) : Int)) (W.setCells w.heap.size (i * 2) ys) := fun W hWc hWf ty dc =>
    run_copy_sized W _ _ ty 66 w.heap.size (i * 2) (n + 1 - i) dc ⟨vb, 0, none⟩ 1 1 2 1 ys Tryz.underlying41 hszi (by simp only [Nat.min_def]; split <;> omega) (by omega)
      (fun j v hj => by rw [Addr.add_lit, hWc, Nat.zero_add]; exact cell_blk ((hoW vb hvl).trans hv) (by simpa using hj))
      (fun j hj => by rw [hWc, cell_blk hnew (Array.getElem?_eq_getElem (by omega))]; rfl) (fun j hj => by rw [hWf]; exact free_blk hnew) hy1
  obtain ⟨cur1, hh1, hs1, _⟩ := heap_setCells ys (i * 2) W1 ROW hnew (by omega)
  have hgN : g ≠ w.heap.size := by omega
  have hcpB : ∀ (W : World), (∀ x, W.cell? x = (W1.setCells w.heap.size (i * 2) ys).cell? x) → (∀ x, W.frozen? x = (W1.setCells w.heap.size (i * 2) ys).frozen? x) → ∀ ty dc sc, (Builtin.copy_ #[41, 41] ty #[.slice (some ⟨w.heap.size, (i + 1) * 2, none⟩) (n - i) dc, .slice (some ⟨g, i * 2, none⟩) (n - i) sc]).run Tryz.prog W = .ok (goInt ((n - i : Nat) : Int)) (W.setCells w.heap.size ((i + 1) * 2) (cells.drop (i * 2))) := fun W hWc hWf ty dc sc =>
    run_copy_sized W _ _ ty 66 w.heap.size ((i + 1) * 2) (n - i) dc ⟨g, i * 2, none⟩ (n - i) sc 2 (n - i) (cells.drop (i * 2)) Tryz.underlying41 hszi (by simp only [Nat.min_def]; split <;> omega) hdl
      (fun j v hj => by
        rw [Addr.add_lit, hWc, World.cell?_setCells_out _ _ _ _ _ (fun h _ => absurd h hgN)]
        rw [List.getElem?_drop] at hj
        exact (World.cell?_of_block (a := ⟨g, i * 2 + j, none⟩) (hoW g hgl)).trans (hcat _ v hj))
      (fun j hj => by rw [hWc, cell_blk hh1 (Array.getElem?_eq_getElem (by omega))]; rfl) (fun j hj => by rw [hWf]; exact free_blk hh1) (fun v hv => h1c v (List.mem_of_mem_drop hv))
  have HOWN := Lib.hid (show Own tDA (((W1.setCells w.heap.size (i * 2) ys).drew).setCells w.heap.size ((i + 1) * 2) (cells.drop (i * 2))) base 66 D (.slice (some ⟨w.heap.size, 0, none⟩) (n + 1) G) (n + 1) (xs.take i ++ y :: xs.drop i) from by
    obtain ⟨cur2, c1, c2, c3⟩ := ins_grow (n := n) (i := i) (cells := cells) hnew (by omega) hlen (by omega) hRt hyl
    have hk : ∀ p : Addr, D p.block → (((W1.setCells w.heap.size (i * 2) ys).drew).setCells w.heap.size ((i + 1) * 2) (cells.drop (i * 2))).cell? p = w.cell? p := fun p hp => by
      have hpl := hD _ hp
      have hpn : p.block ≠ w.heap.size := by omega
      exact World.cell?_of_block ((heap_setCells_other hpn _ _ _).trans ((heap_setCells_other hpn _ _ W1).trans (hoW _ hpl)))
    refine ⟨cells.take (i * 2) ++ ys ++ cells.drop (i * 2), ⟨by rw [← c3, List.length_take, hT]; have : cur2.toList.length = G * 2 := (by simpa [hRl] using c2); omega, .inr ⟨w.heap.size, G, cur2, rfl, hbase, c1, hGn, hGm, by rw [hT]; omega, by rw [hT]; exact c3⟩⟩, ?_⟩
    rw [List.append_assoc]
    exact ((h2.take i).keep hk).append ((Row.append (Row.one hy) (h2.drop i)).keep hk))
  have HBL := Lib.hid (show Below w.heap.size w (((W1.setCells w.heap.size (i * 2) ys).drew).setCells w.heap.size ((i + 1) * 2) (cells.drop (i * 2))) from by
    have g1 := grown_setCells w.heap.size ys (i * 2) W1
    have g2 := grown_setCells w.heap.size (cells.drop (i * 2)) ((i + 1) * 2) (W1.setCells w.heap.size (i * 2) ys).drew
    have b1 : Below w.heap.size w W1 := by rw [hW1]; exact ((Below.refl _ w).drew).alloc (Nat.le_refl _) _
    have b2 := b1.grown g1 b1.size (fun k hk => by injection hk; omega)
    exact (b2.drew).grown g2 b2.size (fun k hk => by injection hk; omega))
  have hE1 : ∀ x, ((w.alloc (.cells ROW 66)).drew).cell? x = W1.cell? x := fun x => by rw [hW1]; rfl
  have hE2 : ∀ x, ((w.alloc (.cells ROW 66)).drew).frozen? x = W1.frozen? x := fun x => by rw [hW1]; rfl
  have hF1 : ∀ x, (((w.alloc (.cells ROW 66)).drew.setCells w.heap.size (i * 2) ys).drew).cell? x = (W1.setCells w.heap.size (i * 2) ys).cell? x := fun x => by rw [hW1]; rfl
  have hF2 : ∀ x, (((w.alloc (.cells ROW 66)).drew.setCells w.heap.size (i * 2) ys).drew).frozen? x = (W1.setCells w.heap.size (i * 2) ys).frozen? x := fun x => by rw [hW1]; rfl
  have mixed : Tryz.prog.follows .mixedOrders = true := by kernel_rfl
  have hz2 : ¬ ((i : Int) = (n : Int)) := by omega
  have hz3 : (c : Int) < (n : Int) + 1 := by omega
  have hw1 : IntKind.i64.wrap ((i : Int) + 1) = (i : Int) + 1 := IntWalk.i64_in _ (by omega)
  have hw2 : IntKind.i64.wrap ((n : Int) + 1) = (n : Int) + 1 := IntWalk.i64_in _ (by omega)
  have hb1 : (0 : Int) ≤ (i : Int) + 1 := by omega
  have hin : i ≤ n := by omega
  have htn : ((i : Int) + 1).toNat = i + 1 := by omega
  have hb3 : (i : Int) ≤ (n : Int) := by omega
  have hci : ¬ (c = i) := by omega
  have hic : i ≤ c := by omega
  have hic2 : (i : Int) ≤ (c : Int) := by omega
  have hGi : ¬ (G = i) := by omega
  have hGim : ¬ (G = i + 1) := by omega
  subst hW1
  clear hi0 hs0 hs2 hy0 hz0 hzz0 h1 h2 hh hh1 hsz htk hlen hs1 hD hv hy hyl hy1 h1c hdl hcat hszi hb hnc hold htl hG hROW hRl hRt hzc hnew hoW hgl hvl hik hkk hGm
  go_enter Tryz.func49, Tryz.ntmps49
  go_wp2_with (first
    | (at_builtin; refine Lib.wpList_append_run _ rfl _ _ _ _ rfl _ _ rfl rfl _ _ (hrz _) ?_)
    | (at_builtin; refine wpList_copy_runI _ rfl _ _ 41 41 rfl _ _ rfl rfl (hcpA _ hE1 hE2 _ _) ?_)
    | (at_builtin; refine wpList_copy_runI _ rfl _ _ 41 41 rfl _ _ rfl rfl (hcpB _ (fun _ => rfl) (fun _ => rfl) _ _ _) ?_))
  go_region_law_o (refine step_copy_runI rfl _ _ 41 41 rfl (.slice (some ⟨w.heap.size, (i + 1) * 2, none⟩) (n - i) (G - (i + 1))) (.slice (some ⟨g, i * 2, none⟩) (n - i) (c - i)) (by simp [Act.eval, Act.put]) (by simp [Act.eval, Act.put]) (hcpB _ hF1 hF2 3 (G - (i + 1)) (c - i)) ?_)
  go_wp2
  go_ret
  exact ⟨G, rfl, HOWN.out, HBL.out⟩

end Go.Proofs.YtfeighclpaijoaaGreatDoor
