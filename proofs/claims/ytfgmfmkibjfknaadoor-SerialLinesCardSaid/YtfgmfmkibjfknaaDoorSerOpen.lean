/-
The walks of open.One, open.Void, token.Raw.
-/
import Derived.Test.YtfgmfmkibjfknaaDoorProg
import Derived.Test.YtfgmfmkibjfknaaDoorBase
import Derived.Test.YtfgmfmkibjfknaaDoorShelf
import Derived.WalkSpells
import Derived.Outline
namespace Go.Proofs.YtfgmfmkibjfknaaDoor
open Go.RowKit Go.Cl

def oneB (name list : ByteArray) : Bool := !name.toList.isEmpty && !(decide (0 ≤ Lib.indexByte name.data.toList 32)) && Lib.contains list.data.toList (⟨#[32]⟩ ++ name ++ ⟨#[32]⟩ : ByteArray).data.toList
theorem one_any (name list : ByteArray) (m : Int) (w : World) (hn : name.size ≤ 1152921504606846976) (hs : list.size < 4294967281) (hm : w.cell? ⟨0, 0, none⟩ = some (.int .i64 m)) :
    Calls Tryd.prog 156 #[.string name, .string list] w fun e w' => e = .returned (.bool (oneB name list)) ∧ w' = w := by
  by_cases h1 : name.toList.isEmpty = true
  · go_enter Tryd.func156, Tryd.ntmps156
    go_wp2_with fail
    go_ret
    exact ⟨by simp [oneB, h1], rfl⟩
  · have h1' : name.toList.isEmpty = false := by simpa using h1
    clear h1
    by_cases h2 : decide (0 ≤ Lib.indexByte name.data.toList 32) = true
    · go_enter Tryd.func156, Tryd.ntmps156
      go_wp2_with fail
      refine (Tryd.strings_Contains_one name 32 _).mono ?_
      rintro e w' ⟨rfl, rfl⟩
      rw [h2]
      go_wp2_with fail
      go_ret
      exact ⟨by simp only [oneB, h2]; simp, rfl⟩
    · have h2' : decide (0 ≤ Lib.indexByte name.data.toList 32) = false := by simpa using h2
      clear h2
      go_enter Tryd.func156, Tryd.ntmps156
      go_wp2_with fail
      refine (Tryd.strings_Contains_one name 32 _).mono ?_
      rintro e w' ⟨rfl, rfl⟩
      rw [h2']
      go_wp2_with fail
      refine (Tryd.strings_Contains list _ m _ hs hm).mono ?_
      rintro e w' ⟨rfl, rfl⟩
      generalize hq : Lib.contains list.data.toList (⟨#[32]⟩ ++ name ++ ⟨#[32]⟩ : ByteArray).data.toList = q
      have HQ := Lib.hid hq
      clear hq
      go_wp2_with fail
      go_ret
      exact ⟨by simp only [oneB, h1', h2', HQ.out]; simp, rfl⟩
def voidB (name : ByteArray) : Bool := oneB name (⟨#[32, 97, 114, 101, 97, 32, 98, 97, 115, 101, 32, 98, 114, 32, 99, 111, 108, 32, 101, 109, 98, 101, 100, 32, 104, 114, 32, 105, 109, 103, 32, 105, 110, 112, 117, 116, 32, 108, 105, 110, 107, 32, 109, 101, 116, 97, 32, 115, 111, 117, 114, 99, 101, 32, 116, 114, 97, 99, 107, 32, 119, 98, 114, 32]⟩ : ByteArray)
theorem void_any (name : ByteArray) (m : Int) (w : World) (hn : name.size ≤ 1152921504606846976) (hm : w.cell? ⟨0, 0, none⟩ = some (.int .i64 m)) :
    Calls Tryd.prog 131 #[.string name] w fun e w' => e = .returned (.bool (voidB name)) ∧ w' = w := by
  have H := Lib.hid (one_any name (⟨#[32, 97, 114, 101, 97, 32, 98, 97, 115, 101, 32, 98, 114, 32, 99, 111, 108, 32, 101, 109, 98, 101, 100, 32, 104, 114, 32, 105, 109, 103, 32, 105, 110, 112, 117, 116, 32, 108, 105, 110, 107, 32, 109, 101, 116, 97, 32, 115, 111, 117, 114, 99, 101, 32, 116, 114, 97, 99, 107, 32, 119, 98, 114, 32]⟩ : ByteArray) m w hn (by decide) hm)
  go_enter Tryd.func131, Tryd.ntmps131
  go_wp2_with (go_at_call 156; refine H.out.mono ?_; rintro e w' ⟨rfl, rfl⟩)
  go_ret
  exact ⟨rfl, rfl⟩
/-- Raw names. -/
def rawN (name : ByteArray) : Int := if (name.toList == (⟨#[115, 99, 114, 105, 112, 116]⟩ : ByteArray).data.toList) = true ∨ (name.toList == (⟨#[115, 116, 121, 108, 101]⟩ : ByteArray).data.toList) = true then 1 else if (name.toList == (⟨#[116, 101, 120, 116, 97, 114, 101, 97]⟩ : ByteArray).data.toList) = true ∨ (name.toList == (⟨#[116, 105, 116, 108, 101]⟩ : ByteArray).data.toList) = true then 2 else 0
theorem raw_any (name : ByteArray) (w : World) :
    Calls Tryd.prog 129 #[.string name] w fun e w' => e = .returned (.int .i64 (rawN name)) ∧ w' = w := by
  unfold rawN
  cases h1 : name.toList == (⟨#[115, 99, 114, 105, 112, 116]⟩ : ByteArray).data.toList with
  | true =>
    go_enter Tryd.func129, Tryd.ntmps129
    go_wp2_with fail
    go_ret
    exact ⟨by simp, rfl⟩
  | false =>
    cases h2 : name.toList == (⟨#[115, 116, 121, 108, 101]⟩ : ByteArray).data.toList with
    | true =>
      go_enter Tryd.func129, Tryd.ntmps129
      go_wp2_with fail
      go_ret
      exact ⟨by simp, rfl⟩
    | false =>
      cases h3 : name.toList == (⟨#[116, 101, 120, 116, 97, 114, 101, 97]⟩ : ByteArray).data.toList with
      | true =>
        go_enter Tryd.func129, Tryd.ntmps129
        go_wp2_with fail
        go_ret
        exact ⟨by simp, rfl⟩
      | false =>
        cases h4 : name.toList == (⟨#[116, 105, 116, 108, 101]⟩ : ByteArray).data.toList with
        | true =>
          go_enter Tryd.func129, Tryd.ntmps129
          go_wp2_with fail
          go_ret
          exact ⟨by simp, rfl⟩
        | false =>
          go_enter Tryd.func129, Tryd.ntmps129
          go_wp2_with fail
          go_ret
          exact ⟨by simp, rfl⟩
end Go.Proofs.YtfgmfmkibjfknaaDoor
