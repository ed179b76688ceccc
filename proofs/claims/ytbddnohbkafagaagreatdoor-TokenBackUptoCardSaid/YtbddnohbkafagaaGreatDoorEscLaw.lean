/-
The plain law: what is escaped is read again.
-/
import Derived.Test.YtbddnohbkafagaaGreatDoorEntBegun
import Derived.Lib.Replace
import Derived.Lib.CountLaws
import Derived.KernelRfl
namespace Go.Proofs.YtbddnohbkafagaaGreatDoor
open Go.RowKit Go.Cl

/-! ### all instances replaced, byte by byte -/
theorem rep_all {old new : List UInt8} (hon : (old == new) = false) (s : List UInt8) : Lib.replaceAll s old new = Lib.replaceK old new (Lib.count s old) s := by
  unfold Lib.replaceAll Lib.replace Lib.replaceNum
  rw [hon, if_pos (Or.inl (by decide))]
  rfl
section
variable {old new : List UInt8} (hne : old ≠ [])
include hne
theorem repK_nil (k : Nat) : Lib.replaceK old new k [] = [] := by
  cases k with
  | zero => rfl
  | succ k =>
    rw [Lib.replaceK]
    have : Lib.index [] old = -1 := by
      rw [Lib.index]
      cases old with
      | nil => exact absurd rfl hne
      | cons => rfl
    rw [this]
    rfl
theorem rep_hit {b : UInt8} {l : List UInt8} (hon : (old == new) = false) (h : old.isPrefixOf (b :: l) = true) : Lib.replaceAll (b :: l) old new = new ++ Lib.replaceAll ((b :: l).drop old.length) old new := by
  have hi : Lib.index (b :: l) old = ((0 : Nat) : Int) := by rw [Lib.index, if_pos h]; rfl
  have hc := Lib.count_hit hne hi
  rw [rep_all hon, rep_all hon, hc, Nat.add_comm 1, Lib.replaceK_hit _ _ _ _ _ hi, Nat.zero_add]
  rfl
theorem rep_miss {b : UInt8} {l : List UInt8} (hon : (old == new) = false) (h : old.isPrefixOf (b :: l) = false) : Lib.replaceAll (b :: l) old new = b :: Lib.replaceAll l old new := by
  rw [rep_all hon, rep_all hon]
  have hge := Lib.index_ge l old
  by_cases hm : Lib.index l old = -1
  · have hi : Lib.index (b :: l) old = -1 := by rw [Lib.index, if_neg (by simp [h]), hm]; rfl
    rw [Lib.count_miss hm, Lib.count_miss hi]
    rfl
  · obtain ⟨i, hl⟩ : ∃ i : Nat, Lib.index l old = i := ⟨(Lib.index l old).toNat, by omega⟩
    have hi : Lib.index (b :: l) old = ((i + 1 : Nat) : Int) := by rw [Lib.index, if_neg (by simp [h]), if_neg (by simpa using hm), hl]; rfl
    rw [Lib.count_hit hne hl, Lib.count_hit hne hi]
    have e : (b :: l).drop (i + 1 + old.length) = l.drop (i + old.length) := by
      rw [show i + 1 + old.length = (i + old.length) + 1 from by omega]
      rfl
    rw [e, Nat.add_comm 1, Lib.replaceK_hit _ _ _ _ _ hi, Lib.replaceK_hit _ _ _ _ _ hl, e]
    rfl
theorem rep_nil (hon : (old == new) = false) : Lib.replaceAll [] old new = [] := by
  rw [rep_all hon, repK_nil hne]
end

/-- One byte replaced wherever it stands. -/
def subst1 (c : UInt8) (new : List UInt8) (l : List UInt8) : List UInt8 := l.flatMap fun b => if b = c then new else [b]
theorem rep_one (c : UInt8) (new : List UInt8) (hon : ([c] == new) = false) (l : List UInt8) : Lib.replaceAll l [c] new = subst1 c new l := by
  induction l with
  | nil => exact rep_nil (by simp) hon
  | cons b l ih =>
    by_cases h : b = c
    · subst h
      rw [rep_hit (by simp) hon (by simp [List.isPrefixOf])]
      show new ++ Lib.replaceAll l [b] new = _
      rw [ih]
      simp [subst1]
    · rw [rep_miss (by simp) hon (by simp [List.isPrefixOf, Ne.symm h]), ih]
      simp [subst1, h]
theorem sub_nil (c : UInt8) (new : List UInt8) : subst1 c new [] = [] := rfl
theorem sub_hit (c : UInt8) (new l : List UInt8) : subst1 c new (c :: l) = new ++ subst1 c new l := by simp [subst1]
theorem sub_miss {c b : UInt8} (h : b ≠ c) (new l : List UInt8) : subst1 c new (b :: l) = b :: subst1 c new l := by simp [subst1, h]
theorem sub_app (c : UInt8) (new a b : List UInt8) : subst1 c new (a ++ b) = subst1 c new a ++ subst1 c new b := by simp [subst1]

/-- A blank that does not break, replaced. -/
def nbB : List UInt8 := [194, 160]
def nbN : List UInt8 := [38, 110, 98, 115, 112, 59]
def rep2 (l : List UInt8) : List UInt8 := Lib.replaceAll l nbB nbN
theorem rep2_nil : rep2 [] = [] := rep_nil (by simp [nbB]) (by decide)
theorem rep2_hit (l : List UInt8) : rep2 (194 :: 160 :: l) = nbN ++ rep2 l := by
  unfold rep2
  rw [rep_hit (by simp [nbB]) (by decide) (by simp [nbB, List.isPrefixOf])]
  rfl
theorem rep2_miss {b : UInt8} {l : List UInt8} (h : b ≠ 194 ∨ l.head? ≠ some 160) : rep2 (b :: l) = b :: rep2 l := by
  unfold rep2
  refine rep_miss (by simp [nbB]) (by decide) ?_
  cases l with
  | nil => simp [nbB, List.isPrefixOf]
  | cons c l =>
    simp only [nbB, List.isPrefixOf, Bool.and_true, List.head?_cons, ne_eq, Option.some.injEq] at *
    rcases h with h | h
    · simp [Ne.symm h]
    · simp [Ne.symm h]

def ampN : List UInt8 := [38, 97, 109, 112, 59]
def ltN : List UInt8 := [38, 108, 116, 59]
def gtN : List UInt8 := [38, 103, 116, 59]
def quN : List UInt8 := [38, 113, 117, 111, 116, 59]
/-- The last steps: for a text, for a value. -/
def lastS (attr : Bool) (l : List UInt8) : List UInt8 := if attr then subst1 34 quN l else subst1 62 gtN (subst1 60 ltN l)
theorem last_app (attr : Bool) (a b : List UInt8) : lastS attr (a ++ b) = lastS attr a ++ lastS attr b := by
  cases attr
  · show subst1 62 gtN (subst1 60 ltN (a ++ b)) = _
    rw [sub_app, sub_app]
    rfl
  · exact sub_app _ _ _ _
/-- What Escape makes of bytes. -/
def escL (attr : Bool) (l : List UInt8) : List UInt8 := lastS attr (rep2 (subst1 38 ampN l))
theorem esc_nil (attr : Bool) : escL attr [] = [] := by
  unfold escL
  rw [sub_nil, rep2_nil]
  cases attr <;> rfl
theorem amp_head (l : List UInt8) : (subst1 38 ampN l).head? = some 160 ↔ l.head? = some 160 := by
  cases l with
  | nil => exact Iff.rfl
  | cons b l =>
    by_cases h : b = 38
    · subst h
      rw [sub_hit]
      simp [ampN]
    · rw [sub_miss h]
      simp
theorem esc_amp (attr : Bool) (l : List UInt8) : escL attr (38 :: l) = ampN ++ escL attr l := by
  unfold escL
  rw [sub_hit]
  have h : rep2 (ampN ++ subst1 38 ampN l) = ampN ++ rep2 (subst1 38 ampN l) := by
    show rep2 (38 :: 97 :: 109 :: 112 :: 59 :: subst1 38 ampN l) = _
    rw [rep2_miss (Or.inl (by decide)), rep2_miss (Or.inl (by decide)), rep2_miss (Or.inl (by decide)), rep2_miss (Or.inl (by decide)), rep2_miss (Or.inl (by decide))]
    rfl
  rw [h, last_app]
  congr 1
  cases attr <;> decide
theorem esc_nb (attr : Bool) (l : List UInt8) : escL attr (194 :: 160 :: l) = nbN ++ escL attr l := by
  unfold escL
  rw [sub_miss (by decide), sub_miss (by decide), rep2_hit, last_app]
  congr 1
  cases attr <;> decide
/-- One byte, that is no ampersand nor begins a blank. -/
theorem esc_one (attr : Bool) {b : UInt8} {l : List UInt8} (h1 : b ≠ 38) (h2 : b ≠ 194 ∨ l.head? ≠ some 160) : escL attr (b :: l) = lastS attr [b] ++ escL attr l := by
  unfold escL
  rw [sub_miss h1, rep2_miss (h2.imp_right fun h e => h ((amp_head l).1 e)), ← last_app]
  rfl

/-! ### read again -/
theorem read_ref {w v : List UInt8} (attr : Bool) (t : List UInt8) (h : stepB ⟨(w ++ t).toArray⟩ attr = (⟨v.toArray⟩, w.length)) (hw : 0 < w.length) : readL ⟨(w ++ t).toArray⟩ attr = v ++ readL ⟨t.toArray⟩ attr := by
  have hs : 1 ≤ (ByteArray.mk (w ++ t).toArray).size := by
    show 1 ≤ (w ++ t).toArray.size
    rw [List.size_toArray, List.length_append]
    omega
  rw [readL_step hs, h]
  have e : (ByteArray.mk (w ++ t).toArray).extract w.length (ByteArray.mk (w ++ t).toArray).size = ⟨t.toArray⟩ := by
    refine ByteArray.ext (Array.toList_inj.1 ?_)
    rw [ByteArray.data_extract, Array.toList_extract, List.extract_eq_take_drop]
    show (((w ++ t).drop w.length).take _) = t
    rw [List.drop_left]
    refine List.take_of_length_le ?_
    show t.length ≤ (w ++ t).toArray.size - w.length
    rw [List.size_toArray, List.length_append]
    omega
  rw [e]
set_option maxRecDepth 100000
theorem step_amp (attr : Bool) (t : List UInt8) : stepB ⟨(ampN ++ t).toArray⟩ attr = (⟨#[38]⟩, 5) := by cases attr <;> kernel_rfl
theorem step_lt (attr : Bool) (t : List UInt8) : stepB ⟨(ltN ++ t).toArray⟩ attr = (⟨#[60]⟩, 4) := by cases attr <;> kernel_rfl
theorem step_gt (attr : Bool) (t : List UInt8) : stepB ⟨(gtN ++ t).toArray⟩ attr = (⟨#[62]⟩, 4) := by cases attr <;> kernel_rfl
theorem step_qu (attr : Bool) (t : List UInt8) : stepB ⟨(quN ++ t).toArray⟩ attr = (⟨#[34]⟩, 6) := by cases attr <;> kernel_rfl
theorem step_nb (attr : Bool) (t : List UInt8) : stepB ⟨(nbN ++ t).toArray⟩ attr = (⟨#[194, 160]⟩, 6) := by cases attr <;> kernel_rfl

/-- A byte that stays. -/
def staysB (attr : Bool) (b : UInt8) : Prop := b ≠ 38 ∧ lastS attr [b] = [b]
theorem last_one (attr : Bool) (b : UInt8) : lastS attr [b] = [b] ∨ (attr = true ∧ b = 34) ∨ (attr = false ∧ b = 60) ∨ (attr = false ∧ b = 62) := by
  cases attr
  · by_cases h1 : b = 60
    · exact Or.inr (Or.inr (Or.inl ⟨rfl, h1⟩))
    · by_cases h2 : b = 62
      · exact Or.inr (Or.inr (Or.inr ⟨rfl, h2⟩))
      · refine Or.inl ?_
        show subst1 62 gtN (subst1 60 ltN [b]) = [b]
        rw [sub_miss h1, sub_nil, sub_miss h2, sub_nil]
  · by_cases h1 : b = 34
    · exact Or.inr (Or.inl ⟨rfl, h1⟩)
    · refine Or.inl ?_
      show subst1 34 quN [b] = [b]
      rw [sub_miss h1, sub_nil]
/-- What is escaped is read again. -/
theorem read_esc (attr : Bool) (s : List UInt8) : readL ⟨(escL attr s).toArray⟩ attr = s := by
  induction hn : s.length using Nat.strongRecOn generalizing s with
  | _ n ih =>
    match s, hn with
    | [], _ => rw [esc_nil]; exact readL_nil rfl attr
    | b :: l, hn =>
      have hl : l.length < n := by rw [← hn]; exact Nat.lt_succ_self _
      by_cases h38 : b = 38
      · subst h38
        rw [esc_amp, read_ref (v := [38]) attr _ (step_amp attr _) (by decide), ih _ hl l rfl]
        rfl
      · by_cases hnb : b = 194 ∧ l.head? = some 160
        · obtain ⟨rfl, h160⟩ := hnb
          match l, h160, hl with
          | c :: r, h160, hl =>
            simp only [List.head?_cons, Option.some.injEq] at h160
            subst h160
            rw [esc_nb, read_ref (v := [194, 160]) attr _ (step_nb attr _) (by decide), ih r.length (by simp only [List.length_cons] at hl; omega) r rfl]
            rfl
        · have h2 : b ≠ 194 ∨ l.head? ≠ some 160 := by
            by_cases h : b = 194
            · exact Or.inr fun e => hnb ⟨h, e⟩
            · exact Or.inl h
          rw [esc_one attr h38 h2]
          rcases last_one attr b with h | ⟨rfl, rfl⟩ | ⟨rfl, rfl⟩ | ⟨rfl, rfl⟩
          · rw [h]
            show readL ⟨(b :: escL attr l).toArray⟩ attr = _
            rw [read_cons b _ h38, ih _ hl l rfl]
          · rw [show lastS true [34] = quN from by decide, read_ref (v := [34]) true _ (step_qu true _) (by decide), ih _ hl l rfl]
            rfl
          · rw [show lastS false [60] = ltN from by decide, read_ref (v := [60]) false _ (step_lt false _) (by decide), ih _ hl l rfl]
            rfl
          · rw [show lastS false [62] = gtN from by decide, read_ref (v := [62]) false _ (step_gt false _) (by decide), ih _ hl l rfl]
            rfl
theorem sub_mem {c : UInt8} {new l : List UInt8} (hc : ∀ x ∈ new, x ≠ c) : ∀ x ∈ subst1 c new l, x ≠ c := by
  intro x hx
  obtain ⟨b, hb, hx⟩ := List.mem_flatMap.1 hx
  split at hx
  · exact hc x hx
  · simp at hx
    subst hx
    assumption
theorem sub_mem_other {c d : UInt8} {new l : List UInt8} (hd : ∀ x ∈ new, x ≠ d) (hl : ∀ x ∈ l, x ≠ d) : ∀ x ∈ subst1 c new l, x ≠ d := by
  intro x hx
  obtain ⟨b, hb, hx⟩ := List.mem_flatMap.1 hx
  split at hx
  · exact hd x hx
  · simp at hx
    subst hx
    exact hl _ hb
theorem esc_text (s : List UInt8) : ∀ x ∈ escL false s, x ≠ 60 ∧ x ≠ 62 := fun x hx =>
  ⟨sub_mem_other (d := 60) (by decide) (sub_mem (by decide)) x hx, sub_mem (by decide) x hx⟩
theorem esc_value (s : List UInt8) : ∀ x ∈ escL true s, x ≠ 34 := fun x hx => sub_mem (c := 34) (new := quN) (by decide) x hx
theorem sub_len (c : UInt8) {new : List UInt8} (h : new.length ≤ 6) (h1 : 1 ≤ new.length) (l : List UInt8) : (subst1 c new l).length ≤ 6 * l.length ∧ l.length ≤ (subst1 c new l).length := by
  induction l with
  | nil => exact ⟨Nat.le_refl _, Nat.le_refl _⟩
  | cons b l ih =>
    by_cases hb : b = c
    · subst hb
      rw [sub_hit, List.length_append, List.length_cons]
      omega
    · rw [sub_miss hb, List.length_cons, List.length_cons]
      omega
theorem rep2_len (l : List UInt8) : (rep2 l).length ≤ 6 * l.length := by
  induction hn : l.length using Nat.strongRecOn generalizing l with
  | _ n ih =>
    match l, hn with
    | [], _ => rw [rep2_nil]; exact Nat.zero_le _
    | b :: l, hn =>
      simp only [List.length_cons] at hn
      by_cases h : b = 194 ∧ l.head? = some 160
      · obtain ⟨rfl, h160⟩ := h
        match l, h160, hn with
        | c :: r, h160, hn =>
          simp only [List.head?_cons, Option.some.injEq] at h160
          subst h160
          simp only [List.length_cons] at hn
          have := ih r.length (by omega) r rfl
          rw [rep2_hit, List.length_append]
          show 6 + _ ≤ _
          omega
      · have h2 : b ≠ 194 ∨ l.head? ≠ some 160 := by
          by_cases h' : b = 194
          · exact Or.inr fun e => h ⟨h', e⟩
          · exact Or.inl h'
        have := ih l.length (by omega) l rfl
        rw [rep2_miss h2, List.length_cons]
        omega
end Go.Proofs.YtbddnohbkafagaaGreatDoor
