/-
Forms in plain words: what a control is, whose it is, what it tells. No program in sight.
-/
import Derived.Test.YtpbngckplbnahaaGreatDoorOpenWalks
import Derived.Test.YtpbngckplbnahaaGreatDoorPatLaw
import Derived.Test.YtpbngckplbnahaaGreatDoorSpanPartsLaw
import Derived.Lib.MapU
namespace Go.Proofs.YtpbngckplbnahaaGreatDoor
open Go.RowKit Go.Cl

/-! ### an attribute's value -/
def ofA (l : List DAttr) (nm : ByteArray) : ByteArray := if findA l nm < 0 then ⟨#[]⟩ else (l[(findA l nm).toNat]?.getD (⟨#[]⟩, ⟨#[]⟩)).2
theorem findA_is (ats : List DAttr) (nm : ByteArray) : findA ats nm = -1 ∨ ∃ (i : Nat) (a : DAttr), findA ats nm = (i : Int) ∧ ats[i]? = some a := by
  unfold findA
  cases h : ats.findIdx? (fun a => a.1.toList == nm.toList) with
  | none => exact .inl rfl
  | some i =>
    obtain ⟨hi, _⟩ := List.findIdx?_eq_some_iff_getElem.1 h
    exact .inr ⟨i, _, rfl, List.getElem?_eq_getElem hi⟩
theorem ofA_small {l : List DAttr} {B : Nat} (h : ∀ a ∈ l, a.2.size ≤ B) (nm : ByteArray) : (ofA l nm).size ≤ B := by
  unfold ofA
  split
  · exact Nat.zero_le _
  · rcases findA_is l nm with h1 | ⟨i, a, h1, ha⟩
    · omega
    · rw [h1, Int.toNat_natCast, ha]
      exact h a (List.mem_of_getElem? ha)

/-! ### a node -/
def atD (l : List Nd) (k : Int) : Nd := (if k < 0 then none else l[k.toNat]?).getD ⟨0, ⟨#[]⟩, [], ⟨#[]⟩, -1, []⟩
theorem atD_at {l : List Nd} {m : Nat} {x : Nd} (h : l[m]? = some x) : atD l m = x := by
  unfold atD
  rw [if_neg (by omega), Int.toNat_natCast, h]
  rfl
def hasF (l : List Nd) (k : Int) (nm : ByteArray) : Bool := hasA (atD l k).attrs nm
def attrF (l : List Nd) (k : Int) (nm : ByteArray) : ByteArray := ofA (atD l k).attrs nm
def namedF (l : List Nd) (nm : ByteArray) (k : Int) : Bool := (atD l k).name.toList == nm.toList && (atD l k).kind == 2
/-- The nearest node above for which it holds. -/
def aboveF (l : List Nd) (p : Int → Bool) (n : Int) : Int := ((chainR l (parD l n)).find? p).getD (-1)
/-- Is it of that id? -/
def idF (l : List Nd) (fid : ByteArray) (k : Int) : Bool := hasF l k (⟨#[105, 100]⟩ : ByteArray) && (attrF l k (⟨#[105, 100]⟩ : ByteArray)).toList == fid.toList
/-- Whose control it is. -/
def ownerF (l : List Nd) (ord : List Int) (n : Int) : Int :=
  if hasF l n (⟨#[102, 111, 114, 109]⟩ : ByteArray) then
    match ord.find? (idF l (attrF l n (⟨#[102, 111, 114, 109]⟩ : ByteArray))) with
    | some k => if namedF l (⟨#[102, 111, 114, 109]⟩ : ByteArray) k then k else -1
    | none => -1
  else aboveF l (namedF l (⟨#[102, 111, 114, 109]⟩ : ByteArray)) n
def lowB (r : Int) : Int := if 65 ≤ r ∧ r ≤ 90 then r + 32 else r
def lowerF (s : ByteArray) : ByteArray := ⟨(Lib.mapD lowB s.data.toList).toArray⟩
def kindF (l : List Nd) (n : Int) : ByteArray :=
  if (atD l n).name.toList == ([105, 110, 112, 117, 116] : List UInt8) then
    if 8 < (attrF l n (⟨#[116, 121, 112, 101]⟩ : ByteArray)).size ∨ oneB (lowerF (attrF l n (⟨#[116, 121, 112, 101]⟩ : ByteArray))) (⟨#[32, 104, 105, 100, 100, 101, 110, 32, 116, 101, 120, 116, 32, 110, 117, 109, 98, 101, 114, 32, 99, 104, 101, 99, 107, 98, 111, 120, 32, 114, 97, 100, 105, 111, 32, 115, 117, 98, 109, 105, 116, 32, 114, 101, 115, 101, 116, 32, 98, 117, 116, 116, 111, 110, 32, 105, 109, 97, 103, 101, 32, 102, 105, 108, 101, 32]⟩ : ByteArray) = false then (⟨#[116, 101, 120, 116]⟩ : ByteArray) else lowerF (attrF l n (⟨#[116, 121, 112, 101]⟩ : ByteArray))
  else (atD l n).name
def tickF (k : ByteArray) : Bool := k.toList == ([99, 104, 101, 99, 107, 98, 111, 120] : List UInt8) || k.toList == ([114, 97, 100, 105, 111] : List UInt8)
/-- All nodes below one, of a name. -/
def belR (l : List Nd) (nm : ByteArray) (n : Int) : List Int := ((kidsD l n).flatMap (preR l)).filter (namedF l nm)
def textF (l : List Nd) (n : Int) : ByteArray := joinB (wholeK l) (preR l n)
def optionF (l : List Nd) (n : Int) : ByteArray := if hasF l n (⟨#[118, 97, 108, 117, 101]⟩ : ByteArray) then attrF l n (⟨#[118, 97, 108, 117, 101]⟩ : ByteArray) else textF l n
def chosenF (l : List Nd) (n : Int) : List Int :=
  if 0 < ((belR l (⟨#[111, 112, 116, 105, 111, 110]⟩ : ByteArray) n).filter fun k => hasF l k (⟨#[115, 101, 108, 101, 99, 116, 101, 100]⟩ : ByteArray)).length ∨ hasF l n (⟨#[109, 117, 108, 116, 105, 112, 108, 101]⟩ : ByteArray) = true then (belR l (⟨#[111, 112, 116, 105, 111, 110]⟩ : ByteArray) n).filter fun k => hasF l k (⟨#[115, 101, 108, 101, 99, 116, 101, 100]⟩ : ByteArray)
  else match (belR l (⟨#[111, 112, 116, 105, 111, 110]⟩ : ByteArray) n).find? fun k => !hasF l k (⟨#[100, 105, 115, 97, 98, 108, 101, 100]⟩ : ByteArray) with
    | some k => [k]
    | none => []
def valueF (l : List Nd) (n : Int) : ByteArray :=
  if (atD l n).name.toList == ([116, 101, 120, 116, 97, 114, 101, 97] : List UInt8) then textF l n
  else if (atD l n).name.toList == ([115, 101, 108, 101, 99, 116] : List UInt8) then (match (chosenF l n).getLast? with
    | some k => optionF l k
    | none => ⟨#[]⟩)
  else if tickF (kindF l n) && !hasF l n (⟨#[118, 97, 108, 117, 101]⟩ : ByteArray) then (⟨#[111, 110]⟩ : ByteArray)
  else attrF l n (⟨#[118, 97, 108, 117, 101]⟩ : ByteArray)
def offF (l : List Nd) (k : Int) : Bool := namedF l (⟨#[102, 105, 101, 108, 100, 115, 101, 116]⟩ : ByteArray) k && hasF l k (⟨#[100, 105, 115, 97, 98, 108, 101, 100]⟩ : ByteArray)
def toldF (l : List Nd) (n : Int) : Bool :=
  if (attrF l n (⟨#[110, 97, 109, 101]⟩ : ByteArray)).size = 0 ∨ hasF l n (⟨#[100, 105, 115, 97, 98, 108, 101, 100]⟩ : ByteArray) = true ∨ 0 ≤ aboveF l (offF l) n then false
  else if oneB (kindF l n) (⟨#[32, 115, 117, 98, 109, 105, 116, 32, 114, 101, 115, 101, 116, 32, 98, 117, 116, 116, 111, 110, 32, 105, 109, 97, 103, 101, 32, 102, 105, 108, 101, 32]⟩ : ByteArray) then false
  else !tickF (kindF l n) || hasF l n (⟨#[99, 104, 101, 99, 107, 101, 100]⟩ : ByteArray)
abbrev Ent := ByteArray × ByteArray
def entriesF (l : List Nd) (n : Int) : List Ent :=
  if (atD l n).name.toList == ([115, 101, 108, 101, 99, 116] : List UInt8) then
    (if hasF l n (⟨#[109, 117, 108, 116, 105, 112, 108, 101]⟩ : ByteArray) then chosenF l n else (chosenF l n).drop ((chosenF l n).length - 1)).map fun k => (attrF l n (⟨#[110, 97, 109, 101]⟩ : ByteArray), optionF l k)
  else [(attrF l n (⟨#[110, 97, 109, 101]⟩ : ByteArray), valueF l n)]
/-- Is it told in this form? -/
def inF (l : List Nd) (ord : List Int) (form n : Int) : Bool := oneB (atD l n).name (⟨#[32, 105, 110, 112, 117, 116, 32, 116, 101, 120, 116, 97, 114, 101, 97, 32, 115, 101, 108, 101, 99, 116, 32, 98, 117, 116, 116, 111, 110, 32]⟩ : ByteArray) && ownerF l ord n == form && toldF l n
def radioF (l : List Nd) (n : Int) : Bool := (kindF l n).toList == ([114, 97, 100, 105, 111] : List UInt8)
/-- From the last one: what is told, and which radios were. -/
def entStep (l : List Nd) (ord : List Int) (form : Int) (s : List Ent × List ByteArray) (n : Int) : List Ent × List ByteArray :=
  if inF l ord form n then
    if radioF l n then
      if s.2.any (fun z => z.toList == (attrF l n (⟨#[110, 97, 109, 101]⟩ : ByteArray)).toList) then s else (entriesF l n ++ s.1, attrF l n (⟨#[110, 97, 109, 101]⟩ : ByteArray) :: s.2)
    else (entriesF l n ++ s.1, s.2)
  else s
def entFold (l : List Nd) (ord : List Int) (form : Int) : List Ent × List ByteArray := ord.reverse.foldl (entStep l ord form) ([], [])
/-- May it be asked of that node? -/
def ctrlE (l : List Nd) (n : Int) (names : ByteArray) : Int :=
  if checkD l ≠ 0 then checkD l
  else if n < 0 ∨ (l.length : Int) ≤ n then 1
  else if (atD l n).kind ≠ 2 ∨ oneB (atD l n).name names = false then 7
  else if n ∈ preR l 0 then 0 else 5
/-- What Entries tells. -/
def entR (l : List Nd) (form : Int) : List Ent × Int :=
  if ctrlE l form (⟨#[32, 102, 111, 114, 109, 32]⟩ : ByteArray) ≠ 0 then ([], ctrlE l form (⟨#[32, 102, 111, 114, 109, 32]⟩ : ByteArray))
  else if 100 < (entFold l (preR l 0) form).1.length then ([], 2)
  else ((entFold l (preR l 0) form).1, 0)
end Go.Proofs.YtpbngckplbnahaaGreatDoor
