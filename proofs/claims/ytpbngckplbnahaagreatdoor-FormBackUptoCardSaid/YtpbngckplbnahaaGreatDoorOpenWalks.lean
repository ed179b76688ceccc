/-
The walks of package open.
-/
import Derived.Test.YtpbngckplbnahaaGreatDoorProg
import Derived.Test.YtpbngckplbnahaaGreatDoorBase
import Derived.Test.YtpbngckplbnahaaGreatDoorShelf
import Derived.WalkSpells
import Derived.Outline
namespace Go.Proofs.YtpbngckplbnahaaGreatDoor
open Go.RowKit Go.Cl

def oneB (name list : ByteArray) : Bool := !name.toList.isEmpty && !(decide (0 ≤ Lib.indexByte name.data.toList 32)) && Lib.contains list.data.toList (⟨#[32]⟩ ++ name ++ ⟨#[32]⟩ : ByteArray).data.toList

theorem one_any (name list : ByteArray) (m : Int) (w : World) (hn : name.size ≤ 1152921504606846976) (hs : list.size < 4294967281) (hm : w.cell? ⟨0, 0, none⟩ = some (.int .i64 m)) :
    Calls Tryz.prog 27 #[.string name, .string list] w fun e w' => e = .returned (.bool (oneB name list)) ∧ w = w' := by
  by_cases h1 : name.toList.isEmpty = true
  · go_enter Tryz.func27, Tryz.ntmps27
    go_wp2_with fail
    go_ret
    exact ⟨by simp [oneB, h1], rfl⟩
  · have h1' : name.toList.isEmpty = false := by simpa using h1
    clear h1
    by_cases h2 : decide (0 ≤ Lib.indexByte name.data.toList 32) = true
    · go_enter Tryz.func27, Tryz.ntmps27
      go_wp2_with fail
      refine (Tryz.strings_Contains_one name 32 _).mono ?_
      rintro e w' ⟨rfl, rfl⟩
      rw [h2]
      go_wp2_with fail
      go_ret
      exact ⟨by simp only [oneB, h2]; simp, rfl⟩
    · have h2' : decide (0 ≤ Lib.indexByte name.data.toList 32) = false := by simpa using h2
      clear h2
      go_enter Tryz.func27, Tryz.ntmps27
      go_wp2_with fail
      refine (Tryz.strings_Contains_one name 32 _).mono ?_
      rintro e w' ⟨rfl, rfl⟩
      rw [h2']
      go_wp2_with fail
      refine (Tryz.strings_Contains list _ m _ hs hm).mono ?_
      rintro e w' ⟨rfl, rfl⟩
      generalize hq : Lib.contains list.data.toList (⟨#[32]⟩ ++ name ++ ⟨#[32]⟩ : ByteArray).data.toList = q
      have HQ := Lib.hid hq
      clear hq
      go_wp2_with fail
      go_ret
      exact ⟨by simp only [oneB, h1', h2', HQ.out]; simp, rfl⟩


def barB (name : ByteArray) (scope : Int) : Bool :=
  if scope = 2 then oneB name (⟨#[32, 99, 97, 112, 116, 105, 111, 110, 32, 104, 116, 109, 108, 32, 111, 98, 106, 101, 99, 116, 32, 116, 97, 98, 108, 101, 32, 116, 100, 32, 116, 101, 109, 112, 108, 97, 116, 101, 32, 116, 104, 32, 111, 108, 32, 117, 108, 32]⟩ : ByteArray)
  else if scope = 3 then oneB name (⟨#[32, 99, 97, 112, 116, 105, 111, 110, 32, 104, 116, 109, 108, 32, 111, 98, 106, 101, 99, 116, 32, 116, 97, 98, 108, 101, 32, 116, 100, 32, 116, 101, 109, 112, 108, 97, 116, 101, 32, 116, 104, 32, 98, 117, 116, 116, 111, 110, 32]⟩ : ByteArray)
  else if scope = 4 then oneB name (⟨#[32, 104, 116, 109, 108, 32, 116, 97, 98, 108, 101, 32, 116, 101, 109, 112, 108, 97, 116, 101, 32]⟩ : ByteArray)
  else if scope = 5 then !(name.toList == (⟨#[111, 112, 116, 103, 114, 111, 117, 112]⟩ : ByteArray).data.toList) && !(name.toList == (⟨#[111, 112, 116, 105, 111, 110]⟩ : ByteArray).data.toList)
  else oneB name (⟨#[32, 99, 97, 112, 116, 105, 111, 110, 32, 104, 116, 109, 108, 32, 111, 98, 106, 101, 99, 116, 32, 116, 97, 98, 108, 101, 32, 116, 100, 32, 116, 101, 109, 112, 108, 97, 116, 101, 32, 116, 104, 32]⟩ : ByteArray)

/-- Has: from the end, the first that is the name, or a bar. -/
def hasB (name : ByteArray) (scope : Int) : List ByteArray → Bool
  | [] => false
  | x :: r => if x.toList == name.toList then true else if barB x scope then false else hasB name scope r

/-- Ends: from the end, how many are of the implied ones. -/
def endsN (but : ByteArray) : List ByteArray → Nat
  | [] => 0
  | x :: r => if x.toList == but.toList then 0 else if oneB x (⟨#[32, 100, 100, 32, 100, 116, 32, 108, 105, 32, 111, 112, 116, 103, 114, 111, 117, 112, 32, 111, 112, 116, 105, 111, 110, 32, 112, 32]⟩ : ByteArray) then endsN but r + 1 else 0

def specialB (name : ByteArray) : Bool := oneB name (⟨#[32, 97, 100, 100, 114, 101, 115, 115, 32, 97, 114, 116, 105, 99, 108, 101, 32, 97, 115, 105, 100, 101, 32, 98, 108, 111, 99, 107, 113, 117, 111, 116, 101, 32, 98, 111, 100, 121, 32, 98, 114, 32, 98, 117, 116, 116, 111, 110, 32, 99, 97, 112, 116, 105, 111, 110, 32, 99, 111, 108, 32, 99, 111, 108, 103, 114, 111, 117, 112, 32, 100, 100, 32, 100, 101, 116, 97, 105, 108, 115, 32, 100, 105, 114, 32, 100, 105, 118, 32, 100, 108, 32, 100, 116, 32, 102, 105, 101, 108, 100, 115, 101, 116, 32, 102, 105, 103, 99, 97, 112, 116, 105, 111, 110, 32, 102, 105, 103, 117, 114, 101, 32, 102, 111, 111, 116, 101, 114, 32, 102, 111, 114, 109, 32, 104, 49, 32, 104, 50, 32, 104, 51, 32, 104, 52, 32, 104, 53, 32, 104, 54, 32, 104, 101, 97, 100, 32, 104, 101, 97, 100, 101, 114, 32, 104, 114, 32, 104, 116, 109, 108, 32, 105, 109, 103, 32, 105, 110, 112, 117, 116, 32, 108, 105, 32, 108, 105, 110, 107, 32, 109, 97, 105, 110, 32, 109, 101, 110, 117, 32, 109, 101, 116, 97, 32, 110, 97, 118, 32, 111, 98, 106, 101, 99, 116, 32, 111, 108, 32, 112, 32, 112, 114, 101, 32, 115, 99, 114, 105, 112, 116, 32, 115, 101, 97, 114, 99, 104, 32, 115, 101, 99, 116, 105, 111, 110, 32, 115, 101, 108, 101, 99, 116, 32, 115, 116, 121, 108, 101, 32, 115, 117, 109, 109, 97, 114, 121, 32, 116, 97, 98, 108, 101, 32, 116, 98, 111, 100, 121, 32, 116, 100, 32, 116, 101, 109, 112, 108, 97, 116, 101, 32, 116, 101, 120, 116, 97, 114, 101, 97, 32, 116, 102, 111, 111, 116, 32, 116, 104, 32, 116, 104, 101, 97, 100, 32, 116, 105, 116, 108, 101, 32, 116, 114, 32, 117, 108, 32]⟩ : ByteArray)
def formattingB (name : ByteArray) : Bool := oneB name (⟨#[32, 97, 32, 98, 32, 98, 105, 103, 32, 99, 111, 100, 101, 32, 101, 109, 32, 102, 111, 110, 116, 32, 105, 32, 110, 111, 98, 114, 32, 115, 32, 115, 109, 97, 108, 108, 32, 115, 116, 114, 105, 107, 101, 32, 115, 116, 114, 111, 110, 103, 32, 116, 116, 32, 117, 32]⟩ : ByteArray)
theorem two_bytes {s : ByteArray} (h : s.size = 2) : ∃ a b : UInt8, s = ⟨#[a, b]⟩ := by
  obtain ⟨⟨l⟩⟩ := s
  match l, h with
  | [a, b], _ => exact ⟨a, b, rfl⟩
def headingB (name : ByteArray) : Bool := match name.data.toList with
  | [a, b] => decide ((a.toNat : Int) = 104) && decide (49 ≤ (b.toNat : Int)) && decide ((b.toNat : Int) ≤ 54)
  | _ => false
end Go.Proofs.YtpbngckplbnahaaGreatDoor
