/-
The walks of package dom: named, Name, attrName, find, attrs.
-/
import Derived.Test.YtmemadajjmmlpaaDoorDomKit
import Derived.Shelf.Strings.SlTrimAscii
import Derived.WalkSpells
import Derived.Outline
import Derived.Deep.QuietTactic
import Derived.BigQuiet
import Derived.Deep.RegionHeld3
import Derived.Deep.DrawnRows
import Derived.Deep.DeepMust
import Derived.Deep.DeepCutAuto
namespace Go.Proofs.YtmemadajjmmlpaaDoor
open Go.RowKit Go.Cl
attribute [local go_sem ↓] Go.wp_at_zero Go.wp_at_succ

theorem isE_of {s : ByteArray} (h : s.size = 0) : s.toList.isEmpty = true := by
  rw [ByteArray.toList_eq]
  have : s.data.toList.length = 0 := by simpa using h
  rw [List.eq_nil_of_length_eq_zero this]; rfl
theorem isE_not {s : ByteArray} (h : 0 < s.size) : s.toList.isEmpty = false := by
  rw [ByteArray.toList_eq]
  cases hl : s.data.toList with
  | nil => have : s.data.toList.length = s.size := by simp
           rw [hl] at this; simp at this; omega
  | cons => rfl
theorem headD_at {s : ByteArray} (h : 0 < s.size) : s.data.toList.headD 0 = s[0] := by
  have h0 : s.data.toList[0]? = some s[0] := by rw [List.getElem?_eq_getElem (by simpa using h)]; rfl
  cases hl : s.data.toList with
  | nil => rw [hl] at h0; cases h0
  | cons b l => rw [hl] at h0; simpa using h0
set_option maxRecDepth 100000 in
theorem named_any' (s first : ByteArray) (w : World) (hs : s.size ≤ 1152921504606846976) :
    Calls Tryd.prog 109 #[.string s, .string first] w fun e w' => e = .returned (.bool (namedR s first)) ∧ Below w.heap.size w w' := by
  by_cases h0 : 0 < s.size
  · have he := isE_not h0
    by_cases h40 : s.size ≤ 40
    · have HI := Lib.hid (fun W => Tryd.strings_IndexByte first (s[0].toNat : Int) W)
      rw [show ((s[0].toNat : Int)).toNat.toUInt8 = s[0] from by simp] at HI
      have HR := Lib.hid (show namedR s first = (decide ((0 : Int) ≤ Lib.indexByte first.data.toList s[0]) && (Lib.trimS s.data.toList signsB).isEmpty) from by
        unfold namedR
        rw [headD_at h0, decide_eq_true h0, decide_eq_true h40]
        rfl)
      generalize hx : Lib.indexByte first.data.toList s[0] = x at *
      by_cases hx0 : 0 ≤ x
      · have HT : Hid (∀ W, Calls Tryd.prog 128 #[.string s, .string (⟨#[97, 98, 99, 100, 101, 102, 103, 104, 105, 106, 107, 108, 109, 110, 111, 112, 113, 114, 115, 116, 117, 118, 119, 120, 121, 122, 48, 49, 50, 51, 52, 53, 54, 55, 56, 57, 45, 95, 58]⟩ : ByteArray)] W fun e w' => e = .returned (.string ⟨(Lib.trimS s.data.toList signsB).toArray⟩) ∧ Below W.heap.size W w') := fun W =>
          Any.strings_Trim_laid Tryd.laysTrim (by kernel_rfl) s (⟨#[97, 98, 99, 100, 101, 102, 103, 104, 105, 106, 107, 108, 109, 110, 111, 112, 113, 114, 115, 116, 117, 118, 119, 120, 121, 122, 48, 49, 50, 51, 52, 53, 54, 55, 56, 57, 45, 95, 58]⟩ : ByteArray) W (by omega) (by decide) (ascii_of_all (by decide))
        have HR2 : Hid (namedR s first = (ByteArray.mk (Lib.trimS s.data.toList signsB).toArray).toList.isEmpty) := by
          show namedR s first = _
          rw [HR.out, decide_eq_true hx0, ByteArray.toList_eq]
          rfl
        clear hx HR
        generalize ByteArray.mk (Lib.trimS s.data.toList signsB).toArray = t at *
        go_enter Tryd.func109, Tryd.ntmps109
        go_wp2_with fail
        refine (HI.out _).mono ?_
        rintro e w1 ⟨rfl, rfl⟩
        go_wp2_with fail
        refine (HT.out _).mono ?_
        rintro e w2 ⟨rfl, hb⟩
        go_wp2_with fail
        go_ret
        exact ⟨retB HR2.out.symm, hb⟩
      · have HR2 : Hid (namedR s first = false) := by
          show namedR s first = _
          rw [HR.out, decide_eq_false hx0]
          rfl
        clear hx HR
        go_enter Tryd.func109, Tryd.ntmps109
        go_wp2_with fail
        refine (HI.out _).mono ?_
        rintro e w1 ⟨rfl, rfl⟩
        go_wp2_with fail
        go_ret
        exact ⟨retB HR2.out.symm, Below.refl _ _⟩
    · have HR : Hid (namedR s first = false) := by
        show namedR s first = false
        unfold namedR
        rw [decide_eq_false h40]
        simp
      go_enter Tryd.func109, Tryd.ntmps109
      go_wp2_with fail
      go_ret
      exact ⟨retB HR.out.symm, Below.refl _ _⟩
  · have he := isE_of (s := s) (by omega)
    have HR : Hid (namedR s first = false) := by
      show namedR s first = false
      unfold namedR
      rw [decide_eq_false h0]
      simp
    go_enter Tryd.func109, Tryd.ntmps109
    go_wp2_with fail
    go_ret
    exact ⟨retB HR.out.symm, Below.refl _ _⟩
theorem name_any (s : ByteArray) (w : World) (hs : s.size ≤ 1152921504606846976) :
    Calls Tryd.prog 78 #[.string s] w fun e w' => e = .returned (.bool (namedR s lettersB)) ∧ Below w.heap.size w w' := by
  have HN := Lib.hid (fun W => named_any' s lettersB W hs)
  go_enter Tryd.func78, Tryd.ntmps78
  go_wp2_with fail
  refine (HN.out _).mono ?_
  rintro e w2 ⟨rfl, hb⟩
  go_wp2_with fail
  go_ret
  exact ⟨rfl, hb⟩
theorem attrName_any (s : ByteArray) (w : World) (hs : s.size ≤ 1152921504606846976) :
    Calls Tryd.prog 110 #[.string s] w fun e w' => e = .returned (.bool (namedR s attrB)) ∧ Below w.heap.size w w' := by
  have HN := Lib.hid (fun W => named_any' s attrB W hs)
  go_enter Tryd.func110, Tryd.ntmps110
  go_wp2_with fail
  refine (HN.out _).mono ?_
  rintro e w2 ⟨rfl, hb⟩
  go_wp2_with fail
  go_ret
  exact ⟨rfl, hb⟩
end Go.Proofs.YtmemadajjmmlpaaDoor
