/-
slices.Sort and slices.Compact at an own list of whole numbers.
-/
import Derived.Test.YtfeighclpaijoaaGreatDoorEdBase
import Derived.Test.YtfeighclpaijoaaGreatDoorShelf2
import Derived.Sort.OwnSorted
import Derived.Lib.RowBridge
import Derived.Lib.OwnBridge
import Derived.Lib.SlicesCompact
namespace Go.Proofs.YtfeighclpaijoaaGreatDoor
open Go.RowKit Go.Cl
attribute [local go_sem ↓] Go.wp_at_zero Go.wp_at_succ

theorem upTo_mem (d : Array Int) : ∀ m : Nat, ∀ x : Int, x ∈ Lib.compactUpTo d m ↔ ∃ j, j < m ∧ d[j]! = x := by
  intro m
  induction m with
  | zero => intro x; simp [Lib.compactUpTo]
  | succ m ih =>
    intro x
    rw [Lib.compactUpTo_succ, List.mem_append, ih]
    cases hk : Lib.keeps d m with
    | true =>
      rw [if_pos rfl, List.mem_singleton]
      constructor
      · rintro (⟨j, hj, e⟩ | e)
        · exact ⟨j, by omega, e⟩
        · exact ⟨m, by omega, e.symm⟩
      · rintro ⟨j, hj, e⟩
        by_cases hjm : j = m
        · subst hjm; exact Or.inr e.symm
        · exact Or.inl ⟨j, by omega, e⟩
    | false =>
      rw [if_neg (by simp)]
      have h2 : ¬ (m = 0 ∨ d[m]! ≠ d[m - 1]!) := by unfold Lib.keeps at hk; exact of_decide_eq_false hk
      constructor
      · rintro (⟨j, hj, e⟩ | e)
        · exact ⟨j, by omega, e⟩
        · cases e
      · rintro ⟨j, hj, e⟩
        by_cases hjm : j = m
        · subst hjm
          refine Or.inl ⟨j - 1, by omega, ?_⟩
          rw [← e]
          by_cases h3 : d[j]! = d[j - 1]!
          · exact h3.symm
          · exact absurd (Or.inr h3) h2
        · exact Or.inl ⟨j, by omega, e⟩
theorem compact_mem (zs : List Int) (x : Int) : x ∈ Lib.compact zs ↔ x ∈ zs := by
  unfold Lib.compact
  rw [upTo_mem]
  constructor
  · rintro ⟨j, hj, e⟩
    rw [← e]
    rw [getElem!_pos zs.toArray j (by simpa using hj)]
    simp
  · intro h
    obtain ⟨j, hj, e⟩ := List.mem_iff_getElem.1 h
    refine ⟨j, hj, ?_⟩
    rw [getElem!_pos zs.toArray j (by simpa using hj)]
    simpa using e
theorem sort_mem (zs : List Int) (x : Int) : x ∈ zs.mergeSort (fun x y => decide (x ≤ y)) ↔ x ∈ zs := (List.mergeSort_perm zs _).mem_iff
theorem compact_len (zs : List Int) : (Lib.compact zs).length ≤ zs.length := Lib.compact_length_le zs
theorem grown_grow (w : World) (os : Array Obj) (row : Option Nat) : w.grownBy (Sort.grow w os) row := ⟨rfl, rfl, rfl, by simp, fun k hk _ => Sort.heap_grow_old w os hk⟩
theorem holds_ints {w : World} {g n : Nat} {cur : Array Value} {xs : List Int} (hh : w.heap[g]? = some (.cells cur 3 (0, 0))) (htk : cur.toList.take n = xs.map (Value.int .i64)) : Sort.Holds (Value.int .i64) w g 0 xs.toArray := fun j hj => by
  have hj2 : j < xs.length := by simpa using hj
  refine ⟨ints_at hh htk j _ ?_, free_blk hh⟩
  rw [List.getElem?_map, List.getElem?_eq_getElem hj2, getElem!_pos xs.toArray j hj]
  rfl
/-- slices.Sort. -/
theorem sortI (g n c : Nat) (xs : List Int) (w : World) (base : Nat) (hown : OwnF (tInt .i64) w base 3 (.slice (some ⟨g, 0, none⟩) n c) n xs) (hfew : n ≤ 1000000) :
    Calls Tryz.prog 24 #[.slice (some ⟨g, 0, none⟩) n c] w fun e w' => e = .returned (.tuple #[]) ∧ OwnF (tInt .i64) w' base 3 (.slice (some ⟨g, 0, none⟩) n c) n (xs.mergeSort fun x y => decide (x ≤ y)) ∧ w.grownBy w' (some g) := by
  obtain ⟨cur, hh, hb, hn, hnc, hcm, hsz, htk, hwf⟩ := own_ints hown
  have hm := hcm
  unfold maxLen at hm
  have hH := holds_ints hh htk
  have hgl := (Array.getElem?_eq_some_iff.1 hh).1
  have H := Tryz.slices_Sort_int g 0 c xs w hH hgl (by omega)
  rw [← hn] at H
  refine H.mono ?_
  rintro e w' ⟨rfl, q, os, rfl⟩
  have hl : (xs.mergeSort fun x y => decide (x ≤ y)).length = xs.length := List.length_mergeSort xs
  rw [Lib.putRow_eq_setCells (Value.int .i64) w g 0 xs.toArray (xs.mergeSort fun x y => decide (x ≤ y)) q hH (by rw [hl]; simp)]
  have hl2 : ((xs.mergeSort fun x y => decide (x ≤ y)).map (Value.int .i64)).length = n := by rw [List.length_map, hl, hn]
  obtain ⟨cur', e1, e2, e3⟩ := heap_setCells ((xs.mergeSort fun x y => decide (x ≤ y)).map (Value.int .i64)) 0 (w.drewN q) cur hh (by rw [hl2]; omega)
  have hgl2 := (Array.getElem?_eq_some_iff.1 e1).1
  refine ⟨rfl, own_of ((Sort.heap_grow_old _ os hgl2).trans e1) hb (by rw [hl]; exact hn) hnc hcm (by rw [e2, hsz]) ?_ (fun x hx => hwf x ((sort_mem xs x).1 hx)), ?_⟩
  · rw [e3, List.take_zero, List.nil_append, List.take_append_of_le_length (by rw [hl2]; omega), List.take_of_length_le (by rw [hl2]; omega)]
  · exact grownBy.trans' (grownBy.trans' (b := w.drewN q) ⟨rfl, rfl, rfl, Nat.le_refl _, fun _ _ _ => rfl⟩ (grown_setCells g _ _ _)) (grown_grow _ _ _)
/-- slices.Compact. -/
theorem compactI (g n c : Nat) (xs : List Int) (w : World) (base : Nat) (hown : OwnF (tInt .i64) w base 3 (.slice (some ⟨g, 0, none⟩) n c) n xs) :
    Calls Tryz.prog 25 #[.slice (some ⟨g, 0, none⟩) n c] w fun e w' => e = .returned (.slice (some ⟨g, 0, none⟩) (Lib.compact xs).length c) ∧ OwnF (tInt .i64) w' base 3 (.slice (some ⟨g, 0, none⟩) (Lib.compact xs).length c) (Lib.compact xs).length (Lib.compact xs) ∧ w.grownBy w' (some g) := by
  obtain ⟨cur, hh, hb, hn, hnc, hcm, hsz, htk, hwf⟩ := own_ints hown
  have hm := hcm
  unfold maxLen at hm
  have hH := holds_ints hh htk
  have H := Tryz.slices_Compact_int g 0 c xs w hH (by omega) (by omega)
  rw [← hn] at H
  refine H.mono ?_
  rintro e w' ⟨rfl, q, rfl⟩
  have hle := compact_len xs
  have hl : (Lib.compact xs ++ List.replicate (xs.length - (Lib.compact xs).length) 0).length = xs.length := by simp; omega
  rw [hn, Lib.putRow_eq_setCells (Value.int .i64) w g 0 xs.toArray (Lib.compact xs ++ List.replicate (xs.length - (Lib.compact xs).length) 0) q hH (by rw [hl]; simp)]
  have hl2 : ((Lib.compact xs ++ List.replicate (xs.length - (Lib.compact xs).length) 0).map (Value.int .i64)).length = n := by rw [List.length_map, hl, hn]
  obtain ⟨cur', e1, e2, e3⟩ := heap_setCells ((Lib.compact xs ++ List.replicate (xs.length - (Lib.compact xs).length) 0).map (Value.int .i64)) 0 (w.drewN q) cur hh (by rw [hl2]; omega)
  refine ⟨rfl, own_of e1 hb rfl (by omega) hcm (by rw [e2, hsz]) ?_ (fun x hx => hwf x ((compact_mem xs x).1 hx)), ?_⟩
  · rw [e3, List.take_zero, List.nil_append, List.take_append_of_le_length (by rw [hl2]; omega), List.map_append, List.take_append_of_le_length (by rw [List.length_map]; omega), List.take_of_length_le (by rw [List.length_map]; omega)]
  · exact grownBy.trans' (b := w.drewN q) ⟨rfl, rfl, rfl, Nat.le_refl _, fun _ _ _ => rfl⟩ (grown_setCells g _ _ _)
end Go.Proofs.YtfeighclpaijoaaGreatDoor
