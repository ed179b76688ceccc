/-
The walks of the laws on package open.
-/
import Derived.Test.YtabilpahmmkjkaaOpenWalks
import Derived.Test.YtabilpahmmkjkaaKit2
import Derived.Test.YtabilpahmmkjkaaOpenPlain
import Derived.Deep.DeepMust
namespace Go.Proofs.Ytabilpahmmkjkaa
open Go.RowKit Go.Cl

theorem begun_1 : hasB (⟨#[116, 97, 98, 108, 101]⟩ : ByteArray) 4 [(⟨#[116, 97, 98, 108, 101]⟩ : ByteArray), (⟨#[98]⟩ : ByteArray)].reverse = true := by decide +kernel
theorem begun_2 : hasB (⟨#[112]⟩ : ByteArray) 1 [(⟨#[112]⟩ : ByteArray), (⟨#[116, 97, 98, 108, 101]⟩ : ByteArray), (⟨#[98]⟩ : ByteArray)].reverse = false := by decide +kernel
theorem begun_3 : specialB (⟨#[98]⟩ : ByteArray) = false := by decide +kernel

set_option maxRecDepth 100000 in
theorem openBegun_any (m : Int) (w : World) (hm : w.cell? ⟨0, 0, none⟩ = some (.int .i64 m)) :
    Calls Try.prog 16 #[] w fun e w' => e = .returned (.bool true) ∧ Below w.heap.size w w' := by
  have s1 : Sl tStr (w.alloc (.cells #[.string (⟨#[116, 97, 98, 108, 101]⟩ : ByteArray), .string (⟨#[98]⟩ : ByteArray)] 9)) (lt (w.heap.size + 1)) (some ⟨w.heap.size, 0, none⟩) 2 2 [(⟨#[116, 97, 98, 108, 101]⟩ : ByteArray), (⟨#[98]⟩ : ByteArray)] :=
    Sl.fresh (w := w) (B := w.heap.size) (n := 2) 9 (row_strs (w := w) (D := lt w.heap.size) [(⟨#[116, 97, 98, 108, 101]⟩ : ByteArray), (⟨#[98]⟩ : ByteArray)] (by decide +kernel)) (Nat.le_refl _) rfl (by omega)
  have s2 : ∀ o : Obj, Sl tStr ((w.alloc o).alloc (.cells #[.string (⟨#[112]⟩ : ByteArray), .string (⟨#[116, 97, 98, 108, 101]⟩ : ByteArray), .string (⟨#[98]⟩ : ByteArray)] 9)) (lt (w.heap.size + 1 + 1)) (some ⟨w.heap.size + 1, 0, none⟩) 3 3 [(⟨#[112]⟩ : ByteArray), (⟨#[116, 97, 98, 108, 101]⟩ : ByteArray), (⟨#[98]⟩ : ByteArray)] := fun o => by
    have := Sl.fresh (w := w.alloc o) (B := w.heap.size) (n := 3) 9 (row_strs (w := w.alloc o) (D := lt w.heap.size) [(⟨#[112]⟩ : ByteArray), (⟨#[116, 97, 98, 108, 101]⟩ : ByteArray), (⟨#[98]⟩ : ByteArray)] (by decide +kernel)) (by simp) rfl (by omega)
    rw [World.size_alloc] at this
    exact this
  go_enter Try.func16, Try.ntmps16
  go_wp2_with fail
  refine (in_any _ _ _ _ _ _ m _ _ s1 (by exact cell_al hm _) (by decide) (by decide) (by decide)).mono ?_
  rintro e w1 ⟨rfl, rfl⟩
  rw [begun_1]
  go_wp2_with fail
  refine (in_any _ _ _ _ _ _ m _ _ (s2 _) (by exact cell_al (cell_al hm _) _) (by decide) (by decide) (by decide)).mono ?_
  rintro e w1 ⟨rfl, rfl⟩
  rw [begun_2]
  go_wp2_with fail
  refine (special_any _ m _ (by decide +kernel) (by exact cell_al (cell_al hm _) _)).mono ?_
  rintro e w1 ⟨rfl, rfl⟩
  rw [begun_3]
  go_wp2_with fail
  go_ret
  exact ⟨rfl, ((Below.refl _ _).alloc (Nat.le_refl _) _).alloc (by simp) _⟩

theorem openEnds_walk (A : Option Addr) (n c : Nat) (l : List ByteArray) (but : ByteArray) (m : Int) (w : World) (D : Nat → Prop) (hl : Sl tStr w D A n c l) (hm : w.cell? ⟨0, 0, none⟩ = some (.int .i64 m)) :
    Calls Try.prog 6 #[.slice A n c, .string but] w fun e w' => e = .returned (.bool true) ∧ Below w.heap.size w w' := by
  have hn1 : n ≤ 140737488355328 := hl.hb
  have HL := Lib.hid hl.hn
  obtain ⟨k, hk1, hk2, hk3, _⟩ := min_nat n 50 (by omega)
  have hkc : k ≤ c := Nat.le_trans hk2 hl.hc
  have hk := hl.cut_to hk2
  go_enter Try.func6, Try.ntmps6
  go_wp2_with fail
  refine (implied_any A k c _ but m _ _ hk hm (by omega)).mono ?_
  rintro e w1 ⟨rfl, rfl⟩
  generalize hj : endsN but (l.take k).reverse = j
  have HJ := Lib.hid hj
  clear hj
  have hjk : j ≤ k := by
    have := endsN_le but (l.take k).reverse
    rw [HJ.out, List.length_reverse, List.length_take] at this
    omega
  have hkj := hk.cut_to (show k - j ≤ k by omega)
  go_wp2_with fail
  refine (implied_any A (k - j) c _ but m _ _ hkj hm (by omega)).mono ?_
  rintro e w1 ⟨rfl, rfl⟩
  have HZ : endsN but ((l.take k).take (k - j)).reverse = 0 := endsN_again (by have := HL.out; simp; omega) HJ.out
  rw [HZ]
  clear HZ
  go_wp2_with fail
  go_loopw [9] (fun i wr => ∃ p : Nat, k - j ≤ p ∧ p ≤ k ∧ i = .int .i64 (p : Int) ∧ wr = w) (fun i _ => k - (intOf i).toNat)
  case atStart => exact ⟨k - j, Nat.le_refl _, by omega, by congr 1; omega, rfl⟩
  case round =>
    obtain ⟨p, hp1, hp2, rfl, rfl⟩ := hrel
    by_cases hlt : p < k
    · obtain ⟨x, hx⟩ : ∃ x, (l.take k)[p]? = some x := get_some (by have := HL.out; rw [List.length_take]; omega)
      obtain ⟨b, o, rfl, hb, hc, hxs⟩ := hk.str hx
      obtain ⟨h1, h2⟩ := endsN_get (i := k - 1 - p) (x := x) (by rw [HJ.out]; omega) (by
        have hlen : (l.take k).length = k := by have := HL.out; rw [List.length_take]; omega
        rw [List.getElem?_reverse (by omega), hlen, show k - 1 - (k - 1 - p) = p from by omega]
        exact hx)
      have HF := Lib.hid (implied_formatting h2)
      have HH := Lib.hid (implied_heading h2)
      clear h2
      go_wp2_with fail
      refine (formatting_any x m _ hxs hm).mono ?_
      rintro e w1 ⟨rfl, rfl⟩
      rw [HF.out]
      go_wp2_with fail
      refine (heading_any x _ hxs).mono ?_
      rintro e w1 ⟨rfl, rfl⟩
      rw [HH.out]
      go_wp2_with fail
      go_roundw
      case rel => exact ⟨p + 1, by omega, by omega, by go_num, by first | trivial | rfl⟩
      case measure => simp [intOf]; omega
    · go_wp2_with fail
      refine (openBegun_any m _ hm).mono ?_
      rintro e w1 ⟨rfl, hb⟩
      go_wp2_with fail
      go_ret
      exact ⟨rfl, hb⟩

theorem elemStr : ElemOf Try.prog 22 9 1 16 := mkElem Try.underlying22 (by kernel_rfl) (z := .string ⟨#[]⟩) rfl (by decide)

/-- The five answers so far. -/
def arr5 (name : ByteArray) (l : List ByteArray) (s : Nat) : Array Value :=
  #[.bool false, .bool (decide (1 < s) && hasB name 1 l), .bool (decide (2 < s) && hasB name 2 l), .bool (decide (3 < s) && hasB name 3 l), .bool (decide (4 < s) && hasB name 4 l), .bool (decide (5 < s) && hasB name 5 l)]
theorem arr5_set (name : ByteArray) (l : List ByteArray) (s : Nat) (h1 : 1 ≤ s) (h2 : s ≤ 5) : (arr5 name l s).setIfInBounds s (.bool (hasB name (s : Int) l)) = arr5 name l (s + 1) := by
  rcases (show s = 1 ∨ s = 2 ∨ s = 3 ∨ s = 4 ∨ s = 5 by omega) with rfl | rfl | rfl | rfl | rfl <;> simp [arr5]
theorem span_same (name : ByteArray) (l : List ByteArray) (s : Int) (h1 : 1 ≤ s) (h2 : s ≤ 4) (hn : (name.toList == (⟨#[115, 112, 97, 110]⟩ : ByteArray).data.toList) = false) : hasB name s ((⟨#[115, 112, 97, 110]⟩ : ByteArray) :: l) = hasB name s l := by
  have hb : barB (⟨#[115, 112, 97, 110]⟩ : ByteArray) s = false := by
    rcases (show s = 1 ∨ s = 2 ∨ s = 3 ∨ s = 4 by omega) with rfl | rfl | rfl | rfl <;> decide +kernel
  have hn' : (((⟨#[115, 112, 97, 110]⟩ : ByteArray) : ByteArray).toList == name.toList) = false := by
    rw [ByteArray.toList_eq, beq_eq_false_iff_ne]
    rw [beq_eq_false_iff_ne] at hn
    exact fun e => hn e.symm
  conv => lhs; unfold hasB
  rw [hn', hb]
  rfl

set_option maxRecDepth 100000 in
theorem openWider_walk (A : Option Addr) (n c : Nat) (l : List ByteArray) (name more : ByteArray) (m : Int) (w : World) (B : Nat) (hB : B ≤ w.heap.size) (hl : Sl tStr w (lt B) A n c l) (hmore : more.size ≤ 1152921504606846976) (hm : w.cell? ⟨0, 0, none⟩ = some (.int .i64 m)) :
    Calls Try.prog 5 #[.slice A n c, .string name, .string more] w fun e w' => e = .returned (.bool true) ∧ Below w.heap.size w w' := by
  have hn1 : n ≤ 140737488355328 := hl.hb
  have HL := Lib.hid hl.hn
  obtain ⟨k, hk1, hk2, hk3, _⟩ := min_nat n 50 (by omega)
  have hkc : k ≤ c := Nat.le_trans hk2 hl.hc
  have hk := hl.cut_to hk2
  have hlen : (l.take k).length = k := by have := HL.out; rw [List.length_take]; omega
  have HLEN := Lib.hid hlen
  clear hlen
  generalize l.take k = l' at *
  go_enter Try.func5, Try.ntmps5
  go_wp2_with fail
  go_loopw [8, 9, 10, 11, 12] (fun s _ _ _ _ wr => ∃ p : Nat, 1 ≤ p ∧ p ≤ 6 ∧ s = .int .i64 (p : Int) ∧ Below w.heap.size w wr ∧ wr.heap[w.heap.size]? = some (.cells (arr5 name l'.reverse p) 39 (0, 0))) (fun s _ _ _ _ _ => 6 - (intOf s).toNat)
  case atStart => exact ⟨1, Nat.le_refl _, by omega, rfl, (Below.refl _ _).alloc (Nat.le_refl _) _, heap_alloc_new w _⟩
  case round =>
    obtain ⟨p, hp1, hp2, rfl, hb, hg⟩ := hrel
    have hwl : w.heap.size < wr.heap.size := (Array.getElem?_eq_some_iff.1 hg).1
    by_cases hlt : p ≤ 5
    · have hkr : Sl tStr wr (lt B) A k c l' := hk.below hb hB
      have hmr := cell_be hm hb
      go_wp2_with fail
      refine (in_any A k c _ name p m _ _ hkr hmr (by omega) (by omega) (by omega)).mono ?_
      rintro e w1 ⟨rfl, rfl⟩
      have hz : (wr.alloc (.cells #[] 9)).heap.size = wr.heap.size + 1 := World.size_alloc _ _
      go_wp2_with (first | (at_builtin; refine wpList_aps _ rfl (.tmp 32) (.tmp 33) 22 rfl elemStr (v := .slice (some ⟨wr.heap.size, 0, none⟩) 0 0) rfl (OwnS.made wr wr.heap.size 9 (Nat.le_refl _)) rfl (hkr.al (by omega) _) (by omega) (by omega) (by omega) ?_; intro v1 w1 hown1 hgr1 hbl1 _; have hz1 := hbl1.size) | (at_builtin; refine wpList_aps _ rfl (.tmp 34) (.tmp 35) 22 rfl elemStr (v := v1) rfl (hown1.al _) rfl (Sl.fresh (w := w1) (B := w1.heap.size) 9 (row_strs [(⟨#[115, 112, 97, 110]⟩ : ByteArray)] (by decide +kernel)) (Nat.le_refl _) rfl (by decide)) (by omega) (by omega) (by simp; omega) ?_; intro v2 w2 hown2 hgr2 hbl2 _))
      have hb2 : Below wr.heap.size wr w2 := (((Below.refl _ wr).alloc (Nat.le_refl _) _).trans hbl1).trans (((Below.refl _ w1).alloc (by omega) _).trans hbl2)
      obtain ⟨A2, c2, rfl, hs2⟩ := hown2.sl (by omega)
      clear hown1 hown2 hbl1 hbl2 hgr1 hgr2
      refine (in_any A2 _ c2 _ name p m w2 _ hs2 (cell_be hmr hb2) (by omega) (by omega) (by omega)).mono ?_
      rintro e w3 ⟨rfl, rfl⟩
      rw [show List.reverse (([] : List ByteArray) ++ l' ++ [(⟨#[115, 112, 97, 110]⟩ : ByteArray)]) = (⟨#[115, 112, 97, 110]⟩ : ByteArray) :: l'.reverse from by simp]
      have hg2 : w2.heap[w.heap.size]? = some (.cells (arr5 name l'.reverse p) 39 (0, 0)) := (hb2.block _ hwl).trans hg
      obtain ⟨old, hold⟩ : ∃ v, (arr5 name l'.reverse p)[p]? = some v := by
        rcases (show p = 1 ∨ p = 2 ∨ p = 3 ∨ p = 4 ∨ p = 5 by omega) with rfl | rfl | rfl | rfl | rfl <;> exact ⟨_, rfl⟩
      have hc2 : w2.cell? ⟨w.heap.size, p, none⟩ = some old := cell_blk hg2 hold
      have hf2 : w2.frozen? ⟨w.heap.size, p, none⟩ = false := free_blk hg2
      have HG := Lib.hid (set_blk (i := p) hg2 (.bool (hasB name (p : Int) l'.reverse)))
      rw [arr5_set name l'.reverse p hp1 hlt] at HG
      have hb3 : Below w.heap.size w (w2.setCell ⟨w.heap.size, p, none⟩ (.bool (hasB name (p : Int) l'.reverse))) := (hb.trans (hb2.mono (by omega))).setCell (Nat.le_refl _) _
      have HB := Lib.hid hb3
      clear hg2 hold hb3 hz hs2 hg hkr hb hb2 hz1
      by_cases h5 : p = 5
      · subst h5
        go_wp2_with fail
        go_roundw
        case rel => exact ⟨6, by omega, by omega, rfl, HB.out, HG.out⟩
        case measure => simp [intOf]
      · have h5' : ((p : Int) == 5) = false := by simpa using fun e => h5 (by omega)
        have h5n : ((p : Int) != 5) = true := by simp; omega
        have hp4 : p ≤ 4 := by omega
        clear h5
        cases hn : (name.toList == (⟨#[115, 112, 97, 110]⟩ : ByteArray).data.toList) with
        | false =>
          rw [span_same name l'.reverse p (by omega) (by omega) hn]
          go_wp2_with fail
          go_roundw
          case rel => exact ⟨p + 1, by omega, by omega, by go_num, HB.out, HG.out⟩
          case measure => simp [intOf]; omega
        | true =>
          generalize hasB name (p : Int) ((⟨#[115, 112, 97, 110]⟩ : ByteArray) :: l'.reverse) = q
          go_wp2_with fail
          go_roundw
          case rel => exact ⟨p + 1, by omega, by omega, by go_num, HB.out, HG.out⟩
          case measure => simp [intOf]; omega
    · obtain rfl : p = 6 := by omega
      have hkr : Sl tStr wr (lt B) A k c l' := hk.below hb hB
      have hmr := cell_be hm hb
      have hz : (wr.alloc (.cells #[] 9)).heap.size = wr.heap.size + 1 := World.size_alloc _ _
      go_wp2_with (first | (at_builtin; refine wpList_aps _ rfl (.tmp 65) (.tmp 66) 22 rfl elemStr (v := .slice (some ⟨wr.heap.size, 0, none⟩) 0 0) rfl (OwnS.made wr wr.heap.size 9 (Nat.le_refl _)) rfl (hkr.al (by omega) _) (by omega) (by omega) (by omega) ?_; intro v1 w1 hown1 hgr1 hbl1 _; have hz1 := hbl1.size) | (at_builtin; refine wpList_aps _ rfl (.tmp 67) (.tmp 69) 22 rfl elemStr (v := v1) rfl (hown1.al _) rfl (Sl.fresh (w := w1) (B := w1.heap.size) 9 (row_strs [more] (by simpa using hmore)) (Nat.le_refl _) rfl (by decide)) (by omega) (by omega) (by simp; omega) ?_; intro v2 w2 hown2 hgr2 hbl2 _))
      have hb2 : Below wr.heap.size wr w2 := (((Below.refl _ wr).alloc (Nat.le_refl _) _).trans hbl1).trans (((Below.refl _ w1).alloc (by omega) _).trans hbl2)
      obtain ⟨A2, c2, rfl, hs2⟩ := hown2.sl (by omega)
      clear hown1 hown2 hbl1 hbl2 hgr1 hgr2
      refine (in_any A2 _ c2 _ more 1 m w2 _ hs2 (cell_be hmr hb2) (by omega) (by omega) (by omega)).mono ?_
      rintro e w3 ⟨rfl, rfl⟩
      rw [show hasB more 1 (List.reverse (([] : List ByteArray) ++ l' ++ [more])) = true from by simp [hasB]]
      go_wp2_with fail
      refine (openBegun_any m _ (cell_be hmr hb2)).mono ?_
      rintro e w3 ⟨rfl, hb3⟩
      have hg3 : w3.heap[w.heap.size]? = some (.cells (arr5 name l'.reverse 6) 39 (0, 0)) := (hb3.block _ (by have := hb2.size; omega)).trans ((hb2.block _ hwl).trans hg)
      have i21 : hasB name 2 l'.reverse = true → hasB name 1 l'.reverse = true := has_mono (fun x => bar_list) _
      have i31 : hasB name 3 l'.reverse = true → hasB name 1 l'.reverse = true := has_mono (fun x => bar_button) _
      have i14 : hasB name 1 l'.reverse = true → hasB name 4 l'.reverse = true := has_mono (fun x => bar_table) _
      have c1 : w3.cell? ⟨w.heap.size, 1, none⟩ = some (.bool (hasB name 1 l'.reverse)) := cell_blk hg3 (by simp [arr5])
      have c2 : w3.cell? ⟨w.heap.size, 2, none⟩ = some (.bool (hasB name 2 l'.reverse)) := cell_blk hg3 (by simp [arr5])
      have c3 : w3.cell? ⟨w.heap.size, 3, none⟩ = some (.bool (hasB name 3 l'.reverse)) := cell_blk hg3 (by simp [arr5])
      have c4 : w3.cell? ⟨w.heap.size, 4, none⟩ = some (.bool (hasB name 4 l'.reverse)) := cell_blk hg3 (by simp [arr5])
      have HB := Lib.hid ((hb.trans (hb2.mono (by omega))).trans (hb3.mono (by have := hb2.size; omega)))
      clear hg3 hg hs2 hkr hb hb2 hb3
      generalize hasB name 1 l'.reverse = q1 at *
      generalize hasB name 2 l'.reverse = q2 at *
      generalize hasB name 3 l'.reverse = q3 at *
      generalize hasB name 4 l'.reverse = q4 at *
      cases q1
      · obtain rfl : q2 = false := by cases q2 <;> simp_all
        obtain rfl : q3 = false := by cases q3 <;> simp_all
        go_wp2_with fail
        go_ret
        exact ⟨rfl, HB.out⟩
      · obtain rfl : q4 = true := by simp_all
        cases q2 <;> cases q3 <;> (go_wp2_with fail; go_ret; exact ⟨rfl, HB.out⟩)

end Go.Proofs.Ytabilpahmmkjkaa
