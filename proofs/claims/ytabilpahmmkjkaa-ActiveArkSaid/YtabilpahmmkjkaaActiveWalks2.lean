/-
The walks of package active that make and change lists.
-/
import Derived.Test.YtabilpahmmkjkaaActiveWalks
namespace Go.Proofs.Ytabilpahmmkjkaa
open Go.RowKit Go.Cl

/-- One item of a slice. -/
theorem sl_item {w : World} {D : Nat → Prop} {A : Option Addr} {n c : Nat} {l : List Item} (h : Sl tItem w D A n c l) {i : Nat} {x : Item} (hx : l[i]? = some x) :
    ∃ b o A1 n1 c1, A = some ⟨b, o, none⟩ ∧ D b ∧ w.cell? ⟨b, o + i * 3, none⟩ = some (.int .i64 x.node) ∧ w.cell? ⟨b, o + i * 3 + 1, none⟩ = some (.string x.name) ∧ w.cell? ⟨b, o + i * 3 + 2, none⟩ = some (.slice A1 n1 c1) ∧ Sl tAttr w D A1 n1 c1 x.attrs := by
  obtain ⟨b, o, cells, e, hD, hrep, hcells⟩ := h.get hx
  obtain ⟨A1, n1, c1, rfl, hs, _, _⟩ := item_cells hrep
  exact ⟨b, o, A1, n1, c1, e, hD, hcells 0 _ rfl, hcells 1 _ rfl, hcells 2 _ rfl, hs⟩

theorem sl_item2 {w : World} {D : Nat → Prop} {A : Option Addr} {n c : Nat} {l : List Item} (h : Sl tItem w D A n c l) {i : Nat} {x : Item} (hx : l[i]? = some x) :
    ∃ b o A1 n1 c1, A = some ⟨b, o, none⟩ ∧ D b ∧ w.cell? ⟨b, o + i * 3, none⟩ = some (.int .i64 x.node) ∧ w.cell? ⟨b, o + i * 3 + 1, none⟩ = some (.string x.name) ∧ w.cell? ⟨b, o + i * 3 + 2, none⟩ = some (.slice A1 n1 c1) ∧ Sl tAttr w D A1 n1 c1 x.attrs ∧ (Lit.int .i64 x.node).wf = true ∧ x.name.size ≤ 1152921504606846976 := by
  obtain ⟨b, o, cells, e, hD, hrep, hcells⟩ := h.get hx
  obtain ⟨A1, n1, c1, rfl, hs, hw, hz⟩ := item_cells hrep
  exact ⟨b, o, A1, n1, c1, e, hD, hcells 0 _ rfl, hcells 1 _ rfl, hcells 2 _ rfl, hs, hw, hz⟩

/-- Attributes lie alike in whatever world. -/
theorem row_attr {w w' : World} {D D' : Nat → Prop} {xs : List Attr} {cs : List Value} (h : Row tAttr w D xs cs) : Row tAttr w' D' xs cs := by
  induction xs generalizing cs with
  | nil => exact h
  | cons x xs ih =>
    obtain ⟨c1, c2, rfl, h1, h2⟩ := h
    exact ⟨c1, c2, rfl, h1, ih h2⟩
theorem own_attr {w : World} {base : Nat} {e : TypeId} {D D' : Nat → Prop} {v : Value} {n : Nat} {xs : List Attr} (h : Own tAttr w base e D v n xs) : Own tAttr w base e D' v n xs := by
  obtain ⟨cells, h1, h2⟩ := h
  exact ⟨cells, h1, row_attr h2⟩

theorem own_any (A : Option Addr) (n c : Nat) (l : List Item) (w : World) (B : Nat) (hl : Sl tItem w (lt B) A n c l) (hB : B ≤ w.heap.size) :
    Calls Try.prog 29 #[.slice A n c] w fun e w' => ∃ A' c', e = .returned (.slice A' n c') ∧ Below w.heap.size w w' ∧ Own tItem w' w.heap.size 26 (fun b => b < w'.heap.size ∧ some b ≠ (Value.slice A' n c').ownBlock) (.slice A' n c') n l := by
  have HL := Lib.hid hl.hn
  have hn1 := hl.small
  go_enter Try.func29, Try.ntmps29
  go_wp2_with fail
  refine (cloneItem A n c l w B hl hB).mono ?_
  rintro e w1 ⟨A1, c1, rfl, hb1, hown1⟩
  have hown1 := hown1.more (D' := fun b => b < w1.heap.size ∧ some b ≠ (Value.slice A1 n c1).ownBlock) (fun b hb => ⟨Nat.lt_of_lt_of_le (Nat.lt_of_lt_of_le hb hB) hb1.size, fun e => by
    have h1 := (hown1.lt b e.symm).1
    have h2 : b < B := hb
    omega⟩)
  go_wp2_with fail
  go_loopw [9] (fun i wr => ∃ k : Nat, k ≤ n ∧ i = .int .i64 (k : Int) ∧ Below w.heap.size w wr ∧ Own tItem wr w.heap.size 26 (fun b => b < wr.heap.size ∧ some b ≠ (Value.slice A1 n c1).ownBlock) (.slice A1 n c1) n l) (fun i _ => n - (intOf i).toNat)
  case atStart => exact ⟨0, Nat.zero_le _, rfl, hb1, hown1⟩
  case round =>
    clear hown1 hb1
    obtain ⟨k, hk, rfl, hb, hown⟩ := hrel
    by_cases hlt : k < n
    · obtain ⟨g, cells, rfl, hg1, hg2, hrow, hcell, hfree⟩ := hown.block (by omega)
      obtain ⟨x, hx⟩ : ∃ x, l[k]? = some x := get_some (by have := HL.out; omega)
      obtain ⟨cs, hcs, hcj⟩ := hrow.at_ hx
      obtain ⟨A2, n2, c2, rfl, hs2, _, _⟩ := item_cells hcs
      have hc2 : wr.cell? ⟨g, k * 3 + 2, none⟩ = some (.slice A2 n2 c2) := hcell _ _ (hcj 2 _ rfl)
      have hs3 : Sl tAttr wr (lt wr.heap.size) A2 n2 c2 x.attrs := hs2.more fun b hb => hb.1
      have hn2 := hs3.hb
      have HCL := Lib.hid (cloneAttr A2 n2 c2 x.attrs wr wr.heap.size hs3 (Nat.le_refl _))
      have HX := Lib.hid hx
      clear hx hcs hcj hcell hrow hs2 hs3
      go_wp2_with fail
      refine HCL.out.mono ?_
      rintro e w2 ⟨A3, c3, rfl, hb2, hown3⟩
      have hsz := hb2.size
      have hc2' : w2.cell? ⟨g, k * 3 + 2, none⟩ = some (.slice A2 n2 c2) := (hb2.cell hg2).trans hc2
      have hf2' : w2.frozen? ⟨g, k * 3 + 2, none⟩ = false := (hb2.frozen hg2).trans (hfree _)
      have hown2 : Own tItem w2 w.heap.size 26 (fun b => b < w2.heap.size ∧ b ≠ g) (.slice (some ⟨g, 0, none⟩) n c1) n l :=
        (hown.below hb2 (fun q hq => by simp only [Value.ownBlock, Option.some.injEq] at hq; omega) (fun b hb => hb.1)).more fun b hb => ⟨by omega, fun e => hb.2 (by rw [e]; rfl)⟩
      have hst := hown2.stored (i := k) (j := 2) (x := x) (y := x) (u := .slice A3 n2 c3) (fun b hb => hb.2) HX.out (by decide) (fun cs hcs => by
        obtain ⟨A4, n4, c4, rfl, hs4, hw4, hz4⟩ := item_cells hcs
        refine ⟨[.int .i64 x.node], [.string x.name, .slice A3 n2 c3], rfl, ⟨rfl, hw4⟩, [.string x.name], [.slice A3 n2 c3], rfl, ⟨rfl, hz4⟩, A3, n2, c3, rfl, ?_⟩
        have hn3 := hown3.len (by decide)
        exact ((own_attr (D' := fun _ => False) hown3).sl (by decide) hn2).more fun b hb => hb.elim False.elim (fun hb => ⟨hb.2, by omega⟩))
      have hx' : l.set k x = l := set_same HX.out
      rw [hx'] at hst
      have HST := Lib.hid hst
      have HB := Lib.hid ((hb.trans (hb2.mono hb.size)).setCell (p := ⟨g, k * 3 + 2, none⟩) hg1 (.slice A3 n2 c3))
      clear hst hown2 hown3 hb2 hb hfree hown
      go_wp2_with fail
      go_roundw
      case rel => exact ⟨k + 1, by omega, by go_num, HB.out, HST.out.more fun b hb => ⟨by simpa using hb.1, fun e => hb.2 (by simpa [Value.ownBlock] using e)⟩⟩
      case measure => simp [intOf]; omega
    · have HB := Lib.hid hb
      clear hb
      go_wp2_with fail
      go_ret
      exact ⟨A1, c1, rfl, HB.out, hown⟩

set_option maxRecDepth 100000 in
/-- slices.Delete of one element, in a row of the call's own. -/
theorem deleteItem (g n c i : Nat) (xs : List Item) (w : World) (base : Nat) (D : Nat → Prop) (hown : Own tItem w base 26 D (.slice (some ⟨g, 0, none⟩) n c) n xs) (hD : ∀ b, D b → b ≠ g) (hi : i < n) (hn : n ≤ 140737488355328) :
    Calls Try.prog 55 #[.slice (some ⟨g, 0, none⟩) n c, .int .i64 (i : Int), .int .i64 ((i : Int) + 1)] w fun e w' => e = .returned (.slice (some ⟨g, 0, none⟩) (n - 1) c) ∧ Own tItem w' base 26 D (.slice (some ⟨g, 0, none⟩) (n - 1) c) (n - 1) (xs.eraseIdx i) ∧ w.grownBy w' (some g) := by
  obtain ⟨cells, h1, h2⟩ := hown
  have hlen := h1.1
  have hT : (tItem).size = 3 := rfl
  rw [hT] at hlen
  rcases h1.2 with ⟨hv, _⟩ | ⟨g', cap, cur, hv, hb, hh, hnc, hcm, hsz, htk⟩
  · cases hv
  simp only [Value.slice.injEq, Option.some.injEq, Addr.mk.injEq, and_true, true_and] at hv
  obtain ⟨rfl, rfl⟩ := hv
  rw [hT] at hsz htk
  have hcl : cur.toList.length = c * 3 := by simpa using hsz
  have HNEW : Hid ((cells.drop ((i + 1) * 3)).length = (n - (i + 1)) * 3) := by show _ = _; rw [List.length_drop, hlen]; omega
  obtain ⟨A', HA'⟩ : ∃ A', Hid ((if c = i + 1 then some (⟨g, 0, none⟩ : Addr) else some ⟨g, (i + 1) * 3, none⟩) = some A') := by
    by_cases hci : c = i + 1
    · exact ⟨_, if_pos hci⟩
    · exact ⟨_, if_neg hci⟩
  have HC : Hid (∀ j u, (cells.drop ((i + 1) * 3))[j]? = some u → w.drew.cell? (A'.add j) = some u) := by
    intro j u hu
    have hA := HA'.out
    have hj := (List.getElem?_eq_some_iff.1 hu).1
    rw [HNEW.out] at hj
    rw [if_neg (by omega)] at hA
    simp only [Option.some.injEq] at hA
    subst hA
    rw [List.getElem?_drop, ← htk, List.getElem?_take] at hu
    split at hu
    · show w.cell? _ = _
      have : (⟨g, (i + 1) * 3, none⟩ : Addr).add j = ⟨g, (i + 1) * 3 + j, none⟩ := by unfold Addr.add; split <;> simp_all
      rw [this]
      exact cell_blk hh (by simpa using hu)
    · cases hu
  have HONE : Hid (∀ u ∈ cells.drop ((i + 1) * 3), u.oneCell' = true) := fun u hu => h2.one_ u (List.mem_of_mem_drop hu)
  have HSP : Hid (∀ j, j < (cells.drop ((i + 1) * 3)).length → (w.drew.cell? ⟨g, 0 + i * 3 + j, none⟩).isSome = true ∧ w.drew.frozen? ⟨g, 0 + i * 3 + j, none⟩ = false) := by
    intro j hj
    rw [HNEW.out] at hj
    refine ⟨?_, free_blk (w := w) hh⟩
    have hlt : 0 + i * 3 + j < cur.size := by omega
    rw [show w.drew.cell? ⟨g, 0 + i * 3 + j, none⟩ = w.cell? ⟨g, 0 + i * 3 + j, none⟩ from rfl, cell_blk hh (Array.getElem?_eq_getElem hlt)]
    rfl
  obtain ⟨W1, hW1⟩ : ∃ W1, W1 = w.drew.setCells g (0 + i * 3) (cells.drop ((i + 1) * 3)) := ⟨_, rfl⟩
  have HW1 := Lib.hid hW1
  obtain ⟨cur1, hh1, hs1, _⟩ := heap_setCells (cells.drop ((i + 1) * 3)) (0 + i * 3) w.drew cur hh (by rw [HNEW.out]; omega)
  rw [← hW1] at hh1
  have hcl2 : ∀ ty k, (Builtin.clear_ #[23] ty #[.slice (some ⟨g, (n - 1) * 3, none⟩) (n - (n - 1)) k]).run Try.prog W1 = .ok (.tuple #[]) (W1.setCells g ((n - 1) * 3) [.int .i64 0, .string ⟨#[]⟩, .slice none 0 0]) := fun ty k => by
    rw [show n - (n - 1) = 1 from by omega]
    exact run_clear_one W1 _ _ ty _ [.int .i64 0, .string ⟨#[]⟩, .slice none 0 0] Try.underlying23 Try.zeroValue26 (by kernel_rfl) (by simp [Value.oneCell']) g _ k (fun j hj => by
      have hlt : (n - 1) * 3 + j < cur1.size := by have hj2 : j < 3 := hj; omega
      rw [cell_blk hh1 (Array.getElem?_eq_getElem hlt)]; rfl) (fun j _ => free_blk hh1)
  have hic : i + 1 ≤ c := by omega
  have hic2 : i ≤ c := by omega
  have hn1c : ¬ c = n - 1 := by omega
  have hne : ((i : Int) == (i : Int) + 1) = false := beq_eq_false_iff_ne.2 (by omega)
  have hb1 : (0 : Int) ≤ (i : Int) + 1 := by omega
  have hb2 : (i : Int) + 1 ≤ (n : Int) := by omega
  have HOWN := Lib.hid (show Own tItem (W1.setCells g ((n - 1) * 3) [.int .i64 0, .string ⟨#[]⟩, .slice none 0 0]) base 26 D (.slice (some ⟨g, 0, none⟩) (n - 1) c) (n - 1) (xs.eraseIdx i) from by
    subst hW1
    refine ⟨_, ownsRow_cut (zs := [.int .i64 0, .string ⟨#[]⟩, .slice none 0 0]) h1 hi rfl, ?_⟩
    rw [← List.take_drop_erase]
    refine ((h2.take i).append (h2.drop (i + 1))).keep fun p hp => ?_
    have hpg : p.block ≠ g := hD _ hp
    exact World.cell?_of_block (w := w) ((heap_setCells_other hpg _ _ _).trans (heap_setCells_other hpg _ _ _)))
  have HG := Lib.hid (show w.grownBy (W1.setCells g ((n - 1) * 3) [.int .i64 0, .string ⟨#[]⟩, .slice none 0 0]) (some g) from by
    subst hW1
    exact grownBy.trans' (b := w.drew) ⟨rfl, rfl, rfl, Nat.le_refl _, fun _ _ _ => rfl⟩ (grownBy.trans' (grown_setCells g _ _ _) (grown_setCells g _ _ _)))
  obtain ⟨i0, z0, hi0, hz0, hs0, hy0, hzz0⟩ := (elemItem).info
  have HI0 := Lib.hid hi0
  have HS0 := Lib.hid hs0
  clear hi0 hs0 hy0 hz0 hzz0 h1 h2 hh hh1 hW1 hsz htk hcl hlen hT hs1 hD
  go_enter Try.func55, Try.ntmps55
  go_wp2_with fail
  go_region_law (refine step_append_room rfl (.tmp 22) (.tmp 25) 23 rfl 26 i0 3 Try.underlying23 HI0.out HS0.out g 0 i c (by simp [Act.eval, Act.put]) A' (n - (i + 1)) (c - (i + 1)) (cells.drop ((i + 1) * 3)) (by simp [Act.eval, Act.put]; exact HA'.out) HNEW.out HC.out HONE.out (by omega) HSP.out ?_; rw [← HW1.out, show i + (n - (i + 1)) = n - 1 from by omega])
  go_wp2_with fail
  all_goals
    go_ret
    first | exact ⟨rfl, HOWN.out, HG.out⟩ | (obtain rfl : c = i + 1 := (by assumption); exact ⟨rfl, HOWN.out, HG.out⟩)

end Go.Proofs.Ytabilpahmmkjkaa
