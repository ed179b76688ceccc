/-
The walk of entity.Escape; what it makes of bytes.
-/
import Derived.Test.YtfgmfmkibjfknaaDoorProg
import Derived.Test.YtfgmfmkibjfknaaDoorBase
import Derived.Test.YtfgmfmkibjfknaaDoorShelf
import Derived.Lib.Replace
import Derived.Lib.CountLaws
import Derived.KernelRfl
import Derived.Lib.ReplaceLaws
import Derived.WalkSpells
namespace Go.Proofs.YtfgmfmkibjfknaaDoor
open Go.RowKit Go.Cl

/-! ### all instances replaced, byte by byte -/
theorem rep_all {old new : List UInt8} (hon : (old == new) = false) (s : List UInt8) : Lib.replaceAll s old new = Lib.replaceK old new (Lib.count s old) s := by
  unfold Lib.replaceAll Lib.replace Lib.replaceNum
  rw [hon, if_pos (Or.inl (by decide))]
  rfl
section
variable {old new : List UInt8} (hne : old ≠ [])
include hne
theorem repK_nil (k : Nat) : Lib.replaceK old new k [] = [] := by
  cases k with
  | zero => rfl
  | succ k =>
    rw [Lib.replaceK]
    have : Lib.index [] old = -1 := by
      rw [Lib.index]
      cases old with
      | nil => exact absurd rfl hne
      | cons => rfl
    rw [this]
    rfl
theorem rep_hit {b : UInt8} {l : List UInt8} (hon : (old == new) = false) (h : old.isPrefixOf (b :: l) = true) : Lib.replaceAll (b :: l) old new = new ++ Lib.replaceAll ((b :: l).drop old.length) old new := by
  have hi : Lib.index (b :: l) old = ((0 : Nat) : Int) := by rw [Lib.index, if_pos h]; rfl
  have hc := Lib.count_hit hne hi
  rw [rep_all hon, rep_all hon, hc, Nat.add_comm 1, Lib.replaceK_hit _ _ _ _ _ hi, Nat.zero_add]
  rfl
theorem rep_miss {b : UInt8} {l : List UInt8} (hon : (old == new) = false) (h : old.isPrefixOf (b :: l) = false) : Lib.replaceAll (b :: l) old new = b :: Lib.replaceAll l old new := by
  rw [rep_all hon, rep_all hon]
  have hge := Lib.index_ge l old
  by_cases hm : Lib.index l old = -1
  · have hi : Lib.index (b :: l) old = -1 := by rw [Lib.index, if_neg (by simp [h]), hm]; rfl
    rw [Lib.count_miss hm, Lib.count_miss hi]
    rfl
  · obtain ⟨i, hl⟩ : ∃ i : Nat, Lib.index l old = i := ⟨(Lib.index l old).toNat, by omega⟩
    have hi : Lib.index (b :: l) old = ((i + 1 : Nat) : Int) := by rw [Lib.index, if_neg (by simp [h]), if_neg (by simpa using hm), hl]; rfl
    rw [Lib.count_hit hne hl, Lib.count_hit hne hi]
    have e : (b :: l).drop (i + 1 + old.length) = l.drop (i + old.length) := by
      rw [show i + 1 + old.length = (i + old.length) + 1 from by omega]
      rfl
    rw [e, Nat.add_comm 1, Lib.replaceK_hit _ _ _ _ _ hi, Lib.replaceK_hit _ _ _ _ _ hl, e]
    rfl
theorem rep_nil (hon : (old == new) = false) : Lib.replaceAll [] old new = [] := by
  rw [rep_all hon, repK_nil hne]
end

/-- One byte replaced wherever it stands. -/
def subst1 (c : UInt8) (new : List UInt8) (l : List UInt8) : List UInt8 := l.flatMap fun b => if b = c then new else [b]
theorem rep_one (c : UInt8) (new : List UInt8) (hon : ([c] == new) = false) (l : List UInt8) : Lib.replaceAll l [c] new = subst1 c new l := by
  induction l with
  | nil => exact rep_nil (by simp) hon
  | cons b l ih =>
    by_cases h : b = c
    · subst h
      rw [rep_hit (by simp) hon (by simp [List.isPrefixOf])]
      show new ++ Lib.replaceAll l [b] new = _
      rw [ih]
      simp [subst1]
    · rw [rep_miss (by simp) hon (by simp [List.isPrefixOf, Ne.symm h]), ih]
      simp [subst1, h]
theorem sub_nil (c : UInt8) (new : List UInt8) : subst1 c new [] = [] := rfl
theorem sub_hit (c : UInt8) (new l : List UInt8) : subst1 c new (c :: l) = new ++ subst1 c new l := by simp [subst1]
theorem sub_miss {c b : UInt8} (h : b ≠ c) (new l : List UInt8) : subst1 c new (b :: l) = b :: subst1 c new l := by simp [subst1, h]
theorem sub_app (c : UInt8) (new a b : List UInt8) : subst1 c new (a ++ b) = subst1 c new a ++ subst1 c new b := by simp [subst1]

/-- A blank that does not break, replaced. -/
def nbB : List UInt8 := [194, 160]
def nbN : List UInt8 := [38, 110, 98, 115, 112, 59]
def rep2 (l : List UInt8) : List UInt8 := Lib.replaceAll l nbB nbN
theorem rep2_nil : rep2 [] = [] := rep_nil (by simp [nbB]) (by decide)
theorem rep2_hit (l : List UInt8) : rep2 (194 :: 160 :: l) = nbN ++ rep2 l := by
  unfold rep2
  rw [rep_hit (by simp [nbB]) (by decide) (by simp [nbB, List.isPrefixOf])]
  rfl
theorem rep2_miss {b : UInt8} {l : List UInt8} (h : b ≠ 194 ∨ l.head? ≠ some 160) : rep2 (b :: l) = b :: rep2 l := by
  unfold rep2
  refine rep_miss (by simp [nbB]) (by decide) ?_
  cases l with
  | nil => simp [nbB, List.isPrefixOf]
  | cons c l =>
    simp only [nbB, List.isPrefixOf, Bool.and_true, List.head?_cons, ne_eq, Option.some.injEq] at *
    rcases h with h | h
    · simp [Ne.symm h]
    · simp [Ne.symm h]

def ampN : List UInt8 := [38, 97, 109, 112, 59]
def ltN : List UInt8 := [38, 108, 116, 59]
def gtN : List UInt8 := [38, 103, 116, 59]
def quN : List UInt8 := [38, 113, 117, 111, 116, 59]
/-- The last steps: for a text, for a value. -/
def lastS (attr : Bool) (l : List UInt8) : List UInt8 := if attr then subst1 34 quN l else subst1 62 gtN (subst1 60 ltN l)
theorem last_app (attr : Bool) (a b : List UInt8) : lastS attr (a ++ b) = lastS attr a ++ lastS attr b := by
  cases attr
  · show subst1 62 gtN (subst1 60 ltN (a ++ b)) = _
    rw [sub_app, sub_app]
    rfl
  · exact sub_app _ _ _ _
/-- What Escape makes of bytes. -/
def escL (attr : Bool) (l : List UInt8) : List UInt8 := lastS attr (rep2 (subst1 38 ampN l))
theorem esc_nil (attr : Bool) : escL attr [] = [] := by
  unfold escL
  rw [sub_nil, rep2_nil]
  cases attr <;> rfl
theorem sub_len (c : UInt8) {new : List UInt8} (h : new.length ≤ 6) (h1 : 1 ≤ new.length) (l : List UInt8) : (subst1 c new l).length ≤ 6 * l.length ∧ l.length ≤ (subst1 c new l).length := by
  induction l with
  | nil => exact ⟨Nat.le_refl _, Nat.le_refl _⟩
  | cons b l ih =>
    by_cases hb : b = c
    · subst hb
      rw [sub_hit, List.length_append, List.length_cons]
      omega
    · rw [sub_miss hb, List.length_cons, List.length_cons]
      omega
theorem rep2_len (l : List UInt8) : (rep2 l).length ≤ 6 * l.length := by
  induction hn : l.length using Nat.strongRecOn generalizing l with
  | _ n ih =>
    match l, hn with
    | [], _ => rw [rep2_nil]; exact Nat.zero_le _
    | b :: l, hn =>
      simp only [List.length_cons] at hn
      by_cases h : b = 194 ∧ l.head? = some 160
      · obtain ⟨rfl, h160⟩ := h
        match l, h160, hn with
        | c :: r, h160, hn =>
          simp only [List.head?_cons, Option.some.injEq] at h160
          subst h160
          simp only [List.length_cons] at hn
          have := ih r.length (by omega) r rfl
          rw [rep2_hit, List.length_append]
          show 6 + _ ≤ _
          omega
      · have h2 : b ≠ 194 ∨ l.head? ≠ some 160 := by
          by_cases h' : b = 194
          · exact Or.inr fun e => h ⟨h', e⟩
          · exact Or.inl h'
        have := ih l.length (by omega) l rfl
        rw [rep2_miss h2, List.length_cons]
        omega
/-- The variable that strings.Index reads. -/
abbrev maxLenAt (w : World) (m : Int) : Prop := w.cell? ⟨0, 0, none⟩ = some (.int .i64 m)
theorem replace_any (s old new : ByteArray) (w : World) (m : Int) (hm : maxLenAt w m) (hs : s.size ≤ 1000000) (h1 : 1 ≤ old.size) (hn : new.size ≤ 6) :
    Calls Tryd.prog 155 #[.string s, .string old, .string new] w fun e w' => e = .returned (.string ⟨(Lib.replaceAll s.data.toList old.data.toList new.data.toList).toArray⟩) ∧ Below w.heap.size w w' := by
  refine Tryd.strings_ReplaceAll s old new m w (by omega) hm h1 ?_
  have h2 := Lib.countB_mul_le old h1 s.size s (Nat.le_refl _)
  have h3 : Lib.countB s old ≤ Lib.countB s old * old.size := Nat.le_mul_of_pos_right _ h1
  have h4 : Lib.countB s old * new.size ≤ Lib.countB s old * 6 := Nat.mul_le_mul_left _ hn
  omega
theorem rep_one' {c : UInt8} {s : ByteArray} {new : List UInt8} (hon : ([c] == new) = false) : Lib.replaceAll s.data.toList (ByteArray.mk #[c]).data.toList new = subst1 c new s.data.toList := rep_one c new hon _

set_option maxRecDepth 100000 in
theorem escape_any (s : ByteArray) (attr : Bool) (w : World) (m : Int) (hm : maxLenAt w m) (hs : s.size ≤ 1000) :
    Calls Tryd.prog 130 #[.string s, .bool attr] w fun e w' => e = .returned (.string ⟨(escL attr s.data.toList).toArray⟩) ∧ Below w.heap.size w w' := by
  have H1 := Lib.hid (replace_any s ⟨#[38]⟩ ⟨#[38, 97, 109, 112, 59]⟩ w m hm (by omega) (by decide) (by decide))
  rw [rep_one' (by decide)] at H1
  have hs1 : (subst1 38 ampN s.data.toList).length ≤ 6000 := by
    have := (sub_len 38 (new := ampN) (by decide) (by decide) s.data.toList).1
    have h : s.data.toList.length = s.size := by simp
    omega
  obtain ⟨s1, hd1⟩ : ∃ s1 : ByteArray, s1 = ⟨(subst1 38 ampN s.data.toList).toArray⟩ := ⟨_, rfl⟩
  have hl1 : s1.size ≤ 6000 := by rw [hd1]; exact hs1
  have hs2 := rep2_len s1.data.toList
  obtain ⟨s2, hd2⟩ : ∃ s2 : ByteArray, s2 = ⟨(rep2 s1.data.toList).toArray⟩ := ⟨_, rfl⟩
  have hl2 : s2.size ≤ 36000 := by
    rw [hd2]
    have h : s1.data.toList.length = s1.size := by simp
    show (rep2 s1.data.toList).length ≤ _
    omega
  have H2 := Lib.hid (fun W (h : maxLenAt W m) => replace_any s1 ⟨#[194, 160]⟩ ⟨#[38, 110, 98, 115, 112, 59]⟩ W m h (by omega) (by decide) (by decide))
  have HE : Hid (escL attr s.data.toList = lastS attr s2.data.toList) := by rw [hd2, hd1]; rfl
  rw [show (ByteArray.mk (Lib.replaceAll s1.data.toList (ByteArray.mk #[194, 160]).data.toList (ByteArray.mk #[38, 110, 98, 115, 112, 59]).data.toList).toArray) = s2 from by rw [hd2]; rfl] at H2
  rw [show (ByteArray.mk (subst1 38 (ByteArray.mk #[38, 97, 109, 112, 59]).data.toList s.data.toList).toArray) = s1 from by rw [hd1]; rfl] at H1
  clear hs1 hs2 hd1 hd2
  cases attr with
  | true =>
    have H3 := Lib.hid (fun W (h : maxLenAt W m) => replace_any s2 ⟨#[34]⟩ ⟨#[38, 113, 117, 111, 116, 59]⟩ W m h (by omega) (by decide) (by decide))
    rw [rep_one' (by decide)] at H3
    go_enter Tryd.func130, Tryd.ntmps130
    go_wp2_with fail
    refine H1.out.mono ?_
    rintro e w1 ⟨rfl, hb1⟩
    have HB1 := Lib.hid hb1
    go_wp2_with fail
    refine (H2.out _ (cell_be hm HB1.out)).mono ?_
    rintro e w2 ⟨rfl, hb2⟩
    have HB2 := Lib.hid (HB1.out.trans (hb2.mono HB1.out.size))
    clear hb2 hb1
    go_wp2_with fail
    refine (H3.out _ (cell_be hm HB2.out)).mono ?_
    rintro e w3 ⟨rfl, hb3⟩
    have HB3 := Lib.hid (HB2.out.trans (hb3.mono HB2.out.size))
    go_wp2_with fail
    go_ret
    exact ⟨by rw [HE.out]; rfl, HB3.out⟩
  | false =>
    have H3 := Lib.hid (fun W (h : maxLenAt W m) => replace_any s2 ⟨#[60]⟩ ⟨#[38, 108, 116, 59]⟩ W m h (by omega) (by decide) (by decide))
    rw [rep_one' (by decide)] at H3
    obtain ⟨s3, hd3⟩ : ∃ s3 : ByteArray, s3 = ⟨(subst1 60 ltN s2.data.toList).toArray⟩ := ⟨_, rfl⟩
    have hl3 : s3.size ≤ 216000 := by
      rw [hd3]
      have := (sub_len 60 (new := ltN) (by decide) (by decide) s2.data.toList).1
      have h : s2.data.toList.length = s2.size := by simp
      show (subst1 60 ltN s2.data.toList).length ≤ _
      omega
    have H4 := Lib.hid (fun W (h : maxLenAt W m) => replace_any s3 ⟨#[62]⟩ ⟨#[38, 103, 116, 59]⟩ W m h (by omega) (by decide) (by decide))
    rw [rep_one' (by decide)] at H4
    rw [show (ByteArray.mk (subst1 60 (ByteArray.mk #[38, 108, 116, 59]).data.toList s2.data.toList).toArray) = s3 from by rw [hd3]; rfl] at H3
    have HE2 : Hid (lastS false s2.data.toList = subst1 62 gtN s3.data.toList) := by rw [hd3]; rfl
    clear hd3
    go_enter Tryd.func130, Tryd.ntmps130
    go_wp2_with fail
    refine H1.out.mono ?_
    rintro e w1 ⟨rfl, hb1⟩
    have HB1 := Lib.hid hb1
    go_wp2_with fail
    refine (H2.out _ (cell_be hm HB1.out)).mono ?_
    rintro e w2 ⟨rfl, hb2⟩
    have HB2 := Lib.hid (HB1.out.trans (hb2.mono HB1.out.size))
    clear hb2 hb1
    go_wp2_with fail
    refine (H3.out _ (cell_be hm HB2.out)).mono ?_
    rintro e w3 ⟨rfl, hb3⟩
    have HB3 := Lib.hid (HB2.out.trans (hb3.mono HB2.out.size))
    clear hb3
    go_wp2_with fail
    refine (H4.out _ (cell_be hm HB3.out)).mono ?_
    rintro e w4 ⟨rfl, hb4⟩
    have HB4 := Lib.hid (HB3.out.trans (hb4.mono HB3.out.size))
    go_wp2_with fail
    go_ret
    exact ⟨by rw [HE.out, HE2.out]; rfl, HB4.out⟩

theorem esc_len (attr : Bool) (s : List UInt8) : (escL attr s).length ≤ 1296 * s.length := by
  have h1 := (sub_len 38 (new := ampN) (by decide) (by decide) s).1
  have h2 := rep2_len (subst1 38 ampN s)
  unfold escL
  generalize rep2 (subst1 38 ampN s) = t at *
  cases attr
  · show (subst1 62 gtN (subst1 60 ltN t)).length ≤ _
    have h3 := (sub_len 60 (new := ltN) (by decide) (by decide) t).1
    have h4 := (sub_len 62 (new := gtN) (by decide) (by decide) (subst1 60 ltN t)).1
    omega
  · show (subst1 34 quN t).length ≤ _
    have h3 := (sub_len 34 (new := quN) (by decide) (by decide) t).1
    omega
end Go.Proofs.YtfgmfmkibjfknaaDoor
