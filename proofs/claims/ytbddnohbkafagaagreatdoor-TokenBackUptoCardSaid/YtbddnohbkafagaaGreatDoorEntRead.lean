/-
The walks of package entity: Find, read, Text, Value.
-/
import Derived.Test.YtbddnohbkafagaaGreatDoorEntNamed
namespace Go.Proofs.YtbddnohbkafagaaGreatDoor
open Go.RowKit Go.Cl

/-- A reference at the beginning. -/
def findB (s : ByteArray) (attr : Bool) : ByteArray × Nat :=
  if s.data.toList[0]? = some 38 then (if s.data.toList[1]? = some 35 then numB s else namedB s attr) else (⟨#[]⟩, 0)

theorem sign_size (n : Int) : (signB n).size ≤ 4 := by
  have h : ∀ r : Int, (ByteArray.mk (Lib.encodeRune r).toArray).size ≤ 4 := fun r => by
    have := enc_rune_le r
    simpa [ByteArray.size] using this
  exact h _
theorem numE_le (s : ByteArray) (base : Int) (a : Nat) : (numE s base a).2 ≤ s.size ∧ (numE s base a).1.size ≤ 4 := by
  unfold numE
  dsimp only
  split
  · exact ⟨Nat.zero_le _, by decide⟩
  · have h := eat_le base (s.data.toList.drop a) 0
    simp at h
    exact ⟨(semi_le (by omega)).1, sign_size _⟩
theorem num_le (s : ByteArray) : (numB s).2 ≤ s.size ∧ (numB s).1.size ≤ 4 := by
  unfold numB
  split <;> exact numE_le _ _ _
theorem step_le {s : ByteArray} (h1 : 1 ≤ s.size) {a : ByteArray × Nat} (x : Nam) (h : a.2 ≤ s.size ∧ a.1.size ≤ 4) : (nstep s a x).2 ≤ s.size ∧ (nstep s a x).1.size ≤ 4 := by
  unfold nstep
  split
  · rename_i hp
    split
    · exact h
    · exact ⟨(semi_le (prefix_size h1 hp)).1, sign_size _⟩
  · exact h
theorem fold_le {s : ByteArray} (h1 : 1 ≤ s.size) (l : List Nam) (a : ByteArray × Nat) (h : a.2 ≤ s.size ∧ a.1.size ≤ 4) : (l.foldl (nstep s) a).2 ≤ s.size ∧ (l.foldl (nstep s) a).1.size ≤ 4 := by
  induction l generalizing a with
  | nil => exact h
  | cons x l ih => exact ih _ (step_le h1 x h)
theorem named_le {s : ByteArray} (h1 : 1 ≤ s.size) (attr : Bool) : (namedB s attr).2 ≤ s.size ∧ (namedB s attr).1.size ≤ 4 := by
  unfold namedB
  split
  · exact ⟨Nat.zero_le _, by decide⟩
  · exact fold_le h1 namesL _ ⟨Nat.zero_le _, by decide⟩
theorem find_le {s : ByteArray} (h1 : 1 ≤ s.size) (attr : Bool) : (findB s attr).2 ≤ s.size ∧ (findB s attr).1.size ≤ 4 := by
  unfold findB
  split
  · split
    · exact num_le s
    · exact named_le h1 attr
  · exact ⟨Nat.zero_le _, by decide⟩

theorem empty_of {s : ByteArray} (h : s.size = 0) : s.toList.isEmpty = true := by
  rw [ByteArray.toList_eq]
  have : s.data.toList.length = 0 := by simpa using h
  rw [List.eq_nil_of_length_eq_zero this]; rfl
theorem nempty_of {s : ByteArray} (h : 0 < s.size) : s.toList.isEmpty = false := by
  rw [ByteArray.toList_eq]
  cases hl : s.data.toList with
  | nil => have : s.data.toList.length = s.size := by simp
           rw [hl] at this; simp at this; omega
  | cons => rfl
theorem byte_test {b : UInt8} {k : Nat} (hk : k < 256) (h : b ≠ k.toUInt8) : ((b.toNat : Int) == (k : Int)) = false := by
  rw [beq_eq_false_iff_ne]
  intro e
  apply h
  apply UInt8.toNat_inj.1
  have : b.toNat = k := by omega
  rw [this]
  simp
  omega

theorem find_any (s : ByteArray) (attr : Bool) (w : World) (hs : s.size ≤ 1000000000) :
    Calls Tryz.prog 71 #[.string s, .bool attr] w fun e w' => e = .returned (.tuple #[.string (findB s attr).1, .int .i64 (findB s attr).2]) ∧ Below w.heap.size w w' := by
  by_cases h0 : 0 < s.size
  · have he := nempty_of h0
    by_cases ha : s[0] = 38
    · have ht : ((s[0].toNat : Int) != 38) = false := by rw [ha]; rfl
      by_cases h1 : ∃ h : 1 < s.size, s[1] = 35
      · obtain ⟨h1, hb⟩ := h1
        have HR := Lib.hid (show findB s attr = numB s from by unfold findB; rw [byte_at h0, byte_at h1, ha, hb]; rfl)
        have ht1 : ((s[1].toNat : Int) == 35) = true := by rw [hb]; rfl
        have HN := Lib.hid (fun W => number_any s W hs)
        clear ha hb
        go_enter Tryz.func71, Tryz.ntmps71
        go_wp2_with fail
        refine (HN.out _).mono ?_
        rintro e w1 ⟨rfl, hb⟩
        go_wp2_with fail
        go_ret2
        exact ⟨by rw [HR.out]; rfl, hb⟩
      · have HR := Lib.hid (show findB s attr = namedB s attr from by
          unfold findB
          rw [byte_at h0, ha, if_pos rfl, if_neg]
          intro h
          have h2 := (List.getElem?_eq_some_iff.1 h).1
          have h3 : 1 < s.size := by simpa using h2
          rw [byte_at h3] at h
          exact h1 ⟨h3, by simpa using h⟩)
        have HN := Lib.hid (fun W => named_any s attr W h0 hs)
        clear ha
        by_cases h2 : 1 < s.size
        · have ht1 : ((s[1].toNat : Int) == 35) = false := byte_test (k := 35) (by decide) (fun e => h1 ⟨h2, e⟩)
          clear h1
          go_enter Tryz.func71, Tryz.ntmps71
          go_wp2_with fail
          refine (HN.out _).mono ?_
          rintro e w1 ⟨rfl, hb⟩
          go_wp2_with fail
          go_ret2
          exact ⟨by rw [HR.out]; rfl, hb⟩
        · clear h1
          go_enter Tryz.func71, Tryz.ntmps71
          go_wp2_with fail
          refine (HN.out _).mono ?_
          rintro e w1 ⟨rfl, hb⟩
          go_wp2_with fail
          go_ret2
          exact ⟨by rw [HR.out]; rfl, hb⟩
    · have ht : ((s[0].toNat : Int) != 38) = true := by
        have := byte_test (k := 38) (by decide) ha
        simpa [bne] using this
      have HR := Lib.hid (show findB s attr = (⟨#[]⟩, 0) from by unfold findB; rw [byte_at h0, if_neg (by simpa using ha)])
      clear ha
      go_enter Tryz.func71, Tryz.ntmps71
      go_wp2_with fail
      go_ret2
      exact ⟨by rw [HR.out]; rfl, Below.refl _ _⟩
  · have he := empty_of (show s.size = 0 by omega)
    have hlen : s.data.toList.length ≤ 0 := by
      have : s.data.toList.length = s.size := by simp
      omega
    have HR := Lib.hid (show findB s attr = (⟨#[]⟩, 0) from by unfold findB; rw [List.getElem?_eq_none hlen, if_neg (by simp)])
    go_enter Tryz.func71, Tryz.ntmps71
    go_wp2_with fail
    go_ret2
    exact ⟨by rw [HR.out]; rfl, Below.refl _ _⟩

theorem bld_below {B b : Nat} {l : List Value} {w w' : World} (h : Bld B b l w) (hb : Below w.heap.size w w') : Bld B b l w' := by
  have hg : w.grownBy w' none := ⟨hb.os, hb.tape, hb.output, hb.size, fun k hk _ => hb.block k hk⟩
  have hn : ∀ v : Value, v.ownBlock = none ∨ v.ownBlock ≠ none := fun v => by cases v.ownBlock <;> simp
  rcases h with ⟨hB, v, hbk, hown, hne⟩ | ⟨hB, v, hbk, hown, hne⟩
  · exact Or.inl ⟨hB, v, (hb.block b (Lib.BuilderAt.lt ⟨hB, v, hbk, hown, hne⟩)).trans hbk, hown.kept hg (hn v), hne⟩
  · exact Or.inr ⟨hB, v, (hb.block b (Lib.BuilderAt.lt ⟨hB, v, hbk, hown, hne⟩)).trans hbk, hown.kept hg (hn v), hne⟩
/-- One step of reading: a reference, or a byte. -/
def stepB (s : ByteArray) (attr : Bool) : ByteArray × Nat := if (findB s attr).2 = 0 then (s.extract 0 1, 1) else findB s attr
def readN : Nat → ByteArray → Bool → List UInt8
  | 0, _, _ => []
  | f + 1, s, attr => if s.size = 0 then [] else (stepB s attr).1.data.toList ++ readN f (s.extract (stepB s attr).2 s.size) attr
def readL (s : ByteArray) (attr : Bool) : List UInt8 := readN s.size s attr
theorem stepB_le {s : ByteArray} (h1 : 1 ≤ s.size) (attr : Bool) : 1 ≤ (stepB s attr).2 ∧ (stepB s attr).2 ≤ s.size ∧ (stepB s attr).1.size ≤ 4 := by
  have h := find_le h1 attr
  unfold stepB
  split
  · refine ⟨Nat.le_refl _, h1, ?_⟩
    show (s.extract 0 1).size ≤ 4
    rw [ByteArray.size_extract]
    omega
  · exact ⟨by omega, h⟩
theorem cut_size (s : ByteArray) (n : Nat) : (s.extract n s.size).size = s.size - n := by rw [ByteArray.size_extract]; omega
theorem readN_more (f : Nat) : ∀ (s : ByteArray) (attr : Bool) (g : Nat), s.size ≤ f → s.size ≤ g → readN f s attr = readN g s attr := by
  induction f with
  | zero =>
    intro s attr g h hg
    cases g with
    | zero => rfl
    | succ g => rw [readN, readN, if_pos (by omega)]
  | succ f ih =>
    intro s attr g h hg
    by_cases h0 : s.size = 0
    · rw [readN, if_pos h0]
      cases g with
      | zero => rfl
      | succ g => rw [readN, if_pos h0]
    · obtain ⟨k, rfl⟩ : ∃ k, g = k + 1 := ⟨g - 1, by omega⟩
      have hs := stepB_le (show 1 ≤ s.size by omega) attr
      have hc := cut_size s (stepB s attr).2
      rw [readN, if_neg h0, readN, if_neg h0, ih _ attr k (by omega) (by omega)]
theorem readL_step {s : ByteArray} (h1 : 1 ≤ s.size) (attr : Bool) : readL s attr = (stepB s attr).1.data.toList ++ readL (s.extract (stepB s attr).2 s.size) attr := by
  obtain ⟨k, hk⟩ : ∃ k, s.size = k + 1 := ⟨s.size - 1, by omega⟩
  have hs := stepB_le h1 attr
  have hc := cut_size s (stepB s attr).2
  show readN s.size s attr = _
  rw [hk, readN, if_neg (by omega), readN_more k _ attr (s.extract (stepB s attr).2 s.size).size (by omega) (Nat.le_refl _), ← hk]
  rfl
theorem readL_nil {s : ByteArray} (h : s.size = 0) (attr : Bool) : readL s attr = [] := by
  unfold readL
  rw [h]
  rfl

theorem read_any (s : ByteArray) (attr : Bool) (w : World) (hs : s.size ≤ 1000000000) :
    Calls Tryz.prog 51 #[.string s, .bool attr] w fun e w' => e = .returned (.string ⟨(readL s attr).toArray⟩) ∧ Below w.heap.size w w' := by
  go_enter Tryz.func51, Tryz.ntmps51
  go_wp2_with fail
  go_loopw [0, 6, 7, 10] (fun t _ _ _ wr => ∃ (r : ByteArray) (l : List UInt8), t = .string r ∧ r.size ≤ s.size ∧ l.length + 4 * r.size ≤ 4 * s.size ∧ readL s attr = l ++ readL r attr ∧ Below w.heap.size w wr ∧ Bld w.heap.size w.heap.size (Lib.byteCells l) wr) (fun t _ _ _ _ => (match t with | .string r => r.size | _ => 0))
  case atStart => exact ⟨s, [], rfl, Nat.le_refl _, by simp, rfl, (Below.refl _ _).alloc (Nat.le_refl _) _, bld_new w⟩
  case round =>
    obtain ⟨r, l, rfl, hr, hl, he, hb, hbld⟩ := hrel
    by_cases h1 : 1 ≤ r.size
    · have hne := nempty_of h1
      have hse := stepB_le h1 attr
      have HE := Lib.hid (he.trans (by rw [readL_step h1 attr, ← List.append_assoc]))
      have HF := Lib.hid (fun W => find_any r attr W (by omega))
      have hsz := hb.size
      clear he
      by_cases h0 : (findB r attr).2 = 0
      · have hst : stepB r attr = (r.extract 0 1, 1) := by unfold stepB; rw [if_pos h0]
        rw [hst] at HE hse
        have hx1 : (r.extract 0 1).size = 1 := by rw [ByteArray.size_extract]; omega
        have HW := Lib.hid (fun W (h : Bld w.heap.size w.heap.size (Lib.byteCells l) W) (hW : w.heap.size ≤ W.heap.size) => writeString_any w.heap.size w.heap.size (Lib.byteCells l) (r.extract 0 1) W h (by rw [Lib.byteCells_length]; omega) hW)
        have ht : (((findB r attr).2 : Int) == 0) = true := by rw [h0]; rfl
        go_wp2_with fail
        refine (HF.out _).mono ?_
        rintro e w1 ⟨rfl, hb1⟩
        have hb2 := bld_below hbld hb1
        have hz1 := hb1.size
        go_wp2_with fail
        refine (HW.out _ hb2 (by omega)).mono ?_
        rintro e w2 ⟨rfl, hb3, hb4⟩
        go_wp2_with fail
        go_roundw
        case rel => exact ⟨r.extract 1 r.size, l ++ (r.extract 0 1).data.toList, rfl, by rw [cut_size]; omega, by rw [cut_size, List.length_append, show (r.extract 0 1).data.toList.length = (r.extract 0 1).size from by simp, hx1]; omega, HE.out, (hb.trans (hb1.mono hsz)).trans hb4, by rw [Lib.byteCells_append]; exact hb3⟩
        case measure =>
          show (r.extract 1 r.size).size < r.size
          rw [cut_size]
          omega
      · have hst : stepB r attr = findB r attr := by unfold stepB; rw [if_neg h0]
        rw [hst] at HE hse
        have HW := Lib.hid (fun W (h : Bld w.heap.size w.heap.size (Lib.byteCells l) W) (hW : w.heap.size ≤ W.heap.size) => writeString_any w.heap.size w.heap.size (Lib.byteCells l) (findB r attr).1 W h (by rw [Lib.byteCells_length]; omega) hW)
        have ht : (((findB r attr).2 : Int) == 0) = false := by rw [beq_eq_false_iff_ne]; omega
        generalize findB r attr = q at *
        obtain ⟨q1, q2⟩ := q
        clear hst
        dsimp only at *
        go_wp2_with fail
        refine (HF.out _).mono ?_
        rintro e w1 ⟨rfl, hb1⟩
        have hb2 := bld_below hbld hb1
        have hz1 := hb1.size
        go_wp2_with fail
        refine (HW.out _ hb2 (by omega)).mono ?_
        rintro e w2 ⟨rfl, hb3, hb4⟩
        go_wp2_with fail
        go_roundw
        case rel => exact ⟨r.extract q2 r.size, l ++ q1.data.toList, rfl, by rw [cut_size]; omega, by rw [cut_size, List.length_append, show q1.data.toList.length = q1.size from by simp]; omega, HE.out, (hb.trans (hb1.mono hsz)).trans hb4, by rw [Lib.byteCells_append]; exact hb3⟩
        case measure =>
          show (r.extract q2 r.size).size < r.size
          rw [cut_size]
          omega
    · have hem := empty_of (show r.size = 0 by omega)
      rw [readL_nil (show r.size = 0 by omega), List.append_nil] at he
      have HS := Lib.hid (Tryz.Builder_String_any w.heap.size w.heap.size l wr hbld hb.size)
      have HE := Lib.hid he
      clear he hbld
      go_wp2_with fail
      refine HS.out.mono ?_
      rintro e w2 ⟨rfl, hb2⟩
      go_wp2_with fail
      go_ret
      exact ⟨by rw [HE.out]; rfl, hb.trans hb2⟩

theorem text_any (s : ByteArray) (w : World) (hs : s.size ≤ 1000000000) :
    Calls Tryz.prog 43 #[.string s] w fun e w' => e = .returned (.string ⟨(readL s false).toArray⟩) ∧ Below w.heap.size w w' := by
  go_enter Tryz.func43, Tryz.ntmps43
  go_wp2_with fail
  refine (read_any s false _ hs).mono ?_
  rintro e w1 ⟨rfl, hb⟩
  go_wp2_with fail
  go_ret
  exact ⟨rfl, hb⟩
theorem value_any (s : ByteArray) (w : World) (hs : s.size ≤ 1000000000) :
    Calls Tryz.prog 83 #[.string s] w fun e w' => e = .returned (.string ⟨(readL s true).toArray⟩) ∧ Below w.heap.size w w' := by
  go_enter Tryz.func83, Tryz.ntmps83
  go_wp2_with fail
  refine (read_any s true _ hs).mono ?_
  rintro e w1 ⟨rfl, hb⟩
  go_wp2_with fail
  go_ret
  exact ⟨rfl, hb⟩
end Go.Proofs.YtbddnohbkafagaaGreatDoor
