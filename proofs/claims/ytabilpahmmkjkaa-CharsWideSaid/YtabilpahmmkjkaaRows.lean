/-
  No cell of these rows narrows 'for every input' (looked for: loops, veiled, ifaces, maps, wideKeys, modest, calm, conditions, laid).
  DERIVED. THE GIVEN ROWS OF THIS SEAT. 7 by the template 'for every input the law returns true; each argument reads behind the call as it read before'; 0 by the template 'total and deterministic' (their statements: YtabilpahmmkjkaaTotals.lean).
  GIVEN WITH THE SEED: the statements are not yours to turn. If you find one false, say at which input.
  Laid BY PROGRAM, IN A SANDBOX (cutbox-rows.mjs): the forced cells as the released guide's own fill.sh prints them over the translation 29ccd42b71f681d2… (all of the seat's roots in one cut). By AI agents, Wed Nov 11 2026. No macro, syntax, notation, axiom, sorry.
-/
import Derived.Test.YtabilpahmmkjkaaChecked
import GoSem.Claim
import GoSem.ClaimJoined
import GoSem.ClaimMapViews
import Derived.JoinedTies
import Derived.KernelRfl
namespace Go.Proofs.Ytabilpahmmkjkaa
/- THE CELL 'sum', in the pinned program and in every row, IS THE sha256 OF THE DUMP (.gsa) THAT YtabilpahmmkjkaaProg.lean LOADS. Nothing in Lean hashes anything: it is a label: what it is worth is what the hold of that sum in a sandbox is worth. -/
noncomputable def Try.pinned : Pinned := { name := "ytabilpahmmkjkaa", sum := "29ccd42b71f681d26dc4eec41642197abb0d5c84729233edc3ca158d205e96c5", checked := Try.checked }
namespace Rows
def none {H : Type} : Left H := { results := [], args := [] }

/-- 'clerestorykeep1.ActiveArk': WHATEVER THE INPUT: true; the input reads as it did. -/
def activeArkSpec : ChangeSpec := { name := "activeArk", fn := fun _ => fun
  | [d1, d2] => { results := [.lit (.bool true)], args := [d1, d2] }
  | _ => none }
def activeArkRow : OpenClaim := { program := "ytabilpahmmkjkaa", sum := "29ccd42b71f681d26dc4eec41642197abb0d5c84729233edc3ca158d205e96c5", func := "clerestory/clerestorykeep1.ActiveArk", spec := "activeArk", unfollowed := true, recurses := true, apart := false }
def ActiveArkSaid : Prop := activeArkRow.holds Try.pinned (OpenSpec.ofChange activeArkSpec)

/-- ITS FALSE NEIGHBOUR: 'it returns false'. Refute it at one input. -/
def activeArkWrong : ChangeSpec := { name := "activeArk", fn := fun _ => fun
  | [d1, d2] => { results := [.lit (.bool false)], args := [d1, d2] }
  | _ => none }
def ActiveArkWrongFalsely : Prop := activeArkRow.holds Try.pinned (OpenSpec.ofChange activeArkWrong)

/-- 'clerestorykeep1.ActiveMark': WHATEVER THE INPUT: true; the input reads as it did. -/
def activeMarkSpec : ChangeSpec := { name := "activeMark", fn := fun _ => fun
  | [d1, d2, d3] => { results := [.lit (.bool true)], args := [d1, d2, d3] }
  | _ => none }
def activeMarkRow : OpenClaim := { program := "ytabilpahmmkjkaa", sum := "29ccd42b71f681d26dc4eec41642197abb0d5c84729233edc3ca158d205e96c5", func := "clerestory/clerestorykeep1.ActiveMark", spec := "activeMark", unfollowed := true, recurses := true, apart := false }
def ActiveMarkSaid : Prop := activeMarkRow.holds Try.pinned (OpenSpec.ofChange activeMarkSpec)

/-- ITS FALSE NEIGHBOUR: 'it returns false'. Refute it at one input. -/
def activeMarkWrong : ChangeSpec := { name := "activeMark", fn := fun _ => fun
  | [d1, d2, d3] => { results := [.lit (.bool false)], args := [d1, d2, d3] }
  | _ => none }
def ActiveMarkWrongFalsely : Prop := activeMarkRow.holds Try.pinned (OpenSpec.ofChange activeMarkWrong)

/-- 'clerestorykeep1.OpenWider': WHATEVER THE INPUT: true; the input reads as it did. -/
def openWiderSpec : ChangeSpec := { name := "openWider", fn := fun _ => fun
  | [d1, d2, d3] => { results := [.lit (.bool true)], args := [d1, d2, d3] }
  | _ => none }
def openWiderRow : OpenClaim := { program := "ytabilpahmmkjkaa", sum := "29ccd42b71f681d26dc4eec41642197abb0d5c84729233edc3ca158d205e96c5", func := "clerestory/clerestorykeep1.OpenWider", spec := "openWider", inPlace := ["internal/bytealg.IndexByteString", "internal/bytealg.IndexString"], named := ["internal/bytealg.MaxLen"], apart := false }
def OpenWiderSaid : Prop := openWiderRow.holds Try.pinned (OpenSpec.ofChange openWiderSpec)

/-- ITS FALSE NEIGHBOUR: 'it returns false'. Refute it at one input. -/
def openWiderWrong : ChangeSpec := { name := "openWider", fn := fun _ => fun
  | [d1, d2, d3] => { results := [.lit (.bool false)], args := [d1, d2, d3] }
  | _ => none }
def OpenWiderWrongFalsely : Prop := openWiderRow.holds Try.pinned (OpenSpec.ofChange openWiderWrong)

/-- 'clerestorykeep1.OpenEnds': WHATEVER THE INPUT: true; the input reads as it did. -/
def openEndsSpec : ChangeSpec := { name := "openEnds", fn := fun _ => fun
  | [d1, d2] => { results := [.lit (.bool true)], args := [d1, d2] }
  | _ => none }
def openEndsRow : OpenClaim := { program := "ytabilpahmmkjkaa", sum := "29ccd42b71f681d26dc4eec41642197abb0d5c84729233edc3ca158d205e96c5", func := "clerestory/clerestorykeep1.OpenEnds", spec := "openEnds", inPlace := ["internal/bytealg.IndexByteString", "internal/bytealg.IndexString"], named := ["internal/bytealg.MaxLen"], apart := false }
def OpenEndsSaid : Prop := openEndsRow.holds Try.pinned (OpenSpec.ofChange openEndsSpec)

/-- ITS FALSE NEIGHBOUR: 'it returns false'. Refute it at one input. -/
def openEndsWrong : ChangeSpec := { name := "openEnds", fn := fun _ => fun
  | [d1, d2] => { results := [.lit (.bool false)], args := [d1, d2] }
  | _ => none }
def OpenEndsWrongFalsely : Prop := openEndsRow.holds Try.pinned (OpenSpec.ofChange openEndsWrong)

/-- 'clerestorykeep1.EntityPlain': WHATEVER THE INPUT: true; the input reads as it did. -/
def entityPlainSpec : ChangeSpec := { name := "entityPlain", fn := fun _ => fun
  | [d1, d2] => { results := [.lit (.bool true)], args := [d1, d2] }
  | _ => none }
def entityPlainRow : OpenClaim := { program := "ytabilpahmmkjkaa", sum := "29ccd42b71f681d26dc4eec41642197abb0d5c84729233edc3ca158d205e96c5", func := "clerestory/clerestorykeep1.EntityPlain", spec := "entityPlain", inPlace := ["internal/abi.NoEscape"], apart := false }
def EntityPlainSaid : Prop := entityPlainRow.holds Try.pinned (OpenSpec.ofChange entityPlainSpec)

/-- ITS FALSE NEIGHBOUR: 'it returns false'. Refute it at one input. -/
def entityPlainWrong : ChangeSpec := { name := "entityPlain", fn := fun _ => fun
  | [d1, d2] => { results := [.lit (.bool false)], args := [d1, d2] }
  | _ => none }
def EntityPlainWrongFalsely : Prop := entityPlainRow.holds Try.pinned (OpenSpec.ofChange entityPlainWrong)

/-- 'clerestorykeep1.EntityNumbers': WHATEVER THE INPUT: true; the input reads as it did. -/
def entityNumbersSpec : ChangeSpec := { name := "entityNumbers", fn := fun _ => fun
  | [d1, d2] => { results := [.lit (.bool true)], args := [d1, d2] }
  | _ => none }
def entityNumbersRow : OpenClaim := { program := "ytabilpahmmkjkaa", sum := "29ccd42b71f681d26dc4eec41642197abb0d5c84729233edc3ca158d205e96c5", func := "clerestory/clerestorykeep1.EntityNumbers", spec := "entityNumbers", inPlace := ["internal/abi.NoEscape"], apart := false }
def EntityNumbersSaid : Prop := entityNumbersRow.holds Try.pinned (OpenSpec.ofChange entityNumbersSpec)

/-- ITS FALSE NEIGHBOUR: 'it returns false'. Refute it at one input. -/
def entityNumbersWrong : ChangeSpec := { name := "entityNumbers", fn := fun _ => fun
  | [d1, d2] => { results := [.lit (.bool false)], args := [d1, d2] }
  | _ => none }
def EntityNumbersWrongFalsely : Prop := entityNumbersRow.holds Try.pinned (OpenSpec.ofChange entityNumbersWrong)

/-- 'clerestorykeep1.CharsWide': WHATEVER THE INPUT: true; the input reads as it did. -/
def charsWideSpec : ChangeSpec := { name := "charsWide", fn := fun _ => fun
  | [d] => { results := [.lit (.bool true)], args := [d] }
  | _ => none }
def charsWideRow : OpenClaim := { program := "ytabilpahmmkjkaa", sum := "29ccd42b71f681d26dc4eec41642197abb0d5c84729233edc3ca158d205e96c5", func := "clerestory/clerestorykeep1.CharsWide", spec := "charsWide", inPlace := ["internal/abi.NoEscape"], unfollowed := true, recurses := true, apart := false }
def CharsWideSaid : Prop := charsWideRow.holds Try.pinned (OpenSpec.ofChange charsWideSpec)

/-- ITS FALSE NEIGHBOUR: 'it returns false'. Refute it at one input. -/
def charsWideWrong : ChangeSpec := { name := "charsWide", fn := fun _ => fun
  | [d] => { results := [.lit (.bool false)], args := [d] }
  | _ => none }
def CharsWideWrongFalsely : Prop := charsWideRow.holds Try.pinned (OpenSpec.ofChange charsWideWrong)

/- THE SECOND FORM. 'bulk': how many values and letters a reading holds, each counted each time it is reached (what is shared counts as often as it is met; a slice's spare places count too). A statement '..UptoSaid' is the law's where the arguments, and the package variables that the reading takes, are together of bulk at most 1048576: NARROWER than '..Said'. Prove '..Said' where nothing that the law and all that it calls make is longer than what came in: it says more and counts as full. Else prove '..UptoSaid'. A law counts once. -/
mutual
def uptoBulk {H : Type} : DataW H → Nat
  | .lit (.string bytes) => bytes.length + 1
  | .lit _ => 1
  | .nil => 1
  | .ptr d => uptoBulk d + 1
  | .slice elems spare => uptoBulkAll elems + uptoBulkAll spare + 1
  | .agg parts => uptoBulkAll parts + 1
  | .iface _ d => uptoBulk d + 1
  | .map entries => uptoBulkEntries entries + 1
  | .held _ => 1
def uptoBulkAll {H : Type} : List (DataW H) → Nat
  | [] => 0
  | d :: r => uptoBulk d + uptoBulkAll r
def uptoBulkEntries {H : Type} : List (Lit × DataW H) → Nat
  | [] => 0
  | x :: r => uptoBulkEntry x + uptoBulkEntries r
def uptoBulkEntry {H : Type} : Lit × DataW H → Nat
  | (.string bytes, d) => bytes.length + uptoBulk d + 1
  | (_, d) => uptoBulk d + 1
 end
def uptoSmall : (H : Type) → List (DataW H) → Bool := fun _ ds => decide (uptoBulkAll ds ≤ 1048576)
def OpenSpec.upto (s : _root_.Go.ChangeSpec) : _root_.Go.OpenSpec := { _root_.Go.OpenSpec.ofChange s with cond := some uptoSmall }

/-- 'clerestorykeep1.ActiveArk', WHERE WHAT IT READS IS OF BULK AT MOST 1048576: true; the input reads as it did. -/
def activeArkUptoRow : OpenClaim := { program := "ytabilpahmmkjkaa", sum := "29ccd42b71f681d26dc4eec41642197abb0d5c84729233edc3ca158d205e96c5", func := "clerestory/clerestorykeep1.ActiveArk", spec := "activeArk", unfollowed := true, recurses := true, apart := false, narrowed := true }
def ActiveArkUptoSaid : Prop := activeArkUptoRow.holds Try.pinned (OpenSpec.upto activeArkSpec)

/-- 'clerestorykeep1.ActiveMark', WHERE WHAT IT READS IS OF BULK AT MOST 1048576: true; the input reads as it did. -/
def activeMarkUptoRow : OpenClaim := { program := "ytabilpahmmkjkaa", sum := "29ccd42b71f681d26dc4eec41642197abb0d5c84729233edc3ca158d205e96c5", func := "clerestory/clerestorykeep1.ActiveMark", spec := "activeMark", unfollowed := true, recurses := true, apart := false, narrowed := true }
def ActiveMarkUptoSaid : Prop := activeMarkUptoRow.holds Try.pinned (OpenSpec.upto activeMarkSpec)

/-- 'clerestorykeep1.OpenWider', WHERE WHAT IT READS IS OF BULK AT MOST 1048576: true; the input reads as it did. -/
def openWiderUptoRow : OpenClaim := { program := "ytabilpahmmkjkaa", sum := "29ccd42b71f681d26dc4eec41642197abb0d5c84729233edc3ca158d205e96c5", func := "clerestory/clerestorykeep1.OpenWider", spec := "openWider", inPlace := ["internal/bytealg.IndexByteString", "internal/bytealg.IndexString"], named := ["internal/bytealg.MaxLen"], apart := false, narrowed := true }
def OpenWiderUptoSaid : Prop := openWiderUptoRow.holds Try.pinned (OpenSpec.upto openWiderSpec)

/-- 'clerestorykeep1.OpenEnds', WHERE WHAT IT READS IS OF BULK AT MOST 1048576: true; the input reads as it did. -/
def openEndsUptoRow : OpenClaim := { program := "ytabilpahmmkjkaa", sum := "29ccd42b71f681d26dc4eec41642197abb0d5c84729233edc3ca158d205e96c5", func := "clerestory/clerestorykeep1.OpenEnds", spec := "openEnds", inPlace := ["internal/bytealg.IndexByteString", "internal/bytealg.IndexString"], named := ["internal/bytealg.MaxLen"], apart := false, narrowed := true }
def OpenEndsUptoSaid : Prop := openEndsUptoRow.holds Try.pinned (OpenSpec.upto openEndsSpec)

/-- 'clerestorykeep1.EntityPlain', WHERE WHAT IT READS IS OF BULK AT MOST 1048576: true; the input reads as it did. -/
def entityPlainUptoRow : OpenClaim := { program := "ytabilpahmmkjkaa", sum := "29ccd42b71f681d26dc4eec41642197abb0d5c84729233edc3ca158d205e96c5", func := "clerestory/clerestorykeep1.EntityPlain", spec := "entityPlain", inPlace := ["internal/abi.NoEscape"], apart := false, narrowed := true }
def EntityPlainUptoSaid : Prop := entityPlainUptoRow.holds Try.pinned (OpenSpec.upto entityPlainSpec)

/-- 'clerestorykeep1.EntityNumbers', WHERE WHAT IT READS IS OF BULK AT MOST 1048576: true; the input reads as it did. -/
def entityNumbersUptoRow : OpenClaim := { program := "ytabilpahmmkjkaa", sum := "29ccd42b71f681d26dc4eec41642197abb0d5c84729233edc3ca158d205e96c5", func := "clerestory/clerestorykeep1.EntityNumbers", spec := "entityNumbers", inPlace := ["internal/abi.NoEscape"], apart := false, narrowed := true }
def EntityNumbersUptoSaid : Prop := entityNumbersUptoRow.holds Try.pinned (OpenSpec.upto entityNumbersSpec)

/-- 'clerestorykeep1.CharsWide', WHERE WHAT IT READS IS OF BULK AT MOST 1048576: true; the input reads as it did. -/
def charsWideUptoRow : OpenClaim := { program := "ytabilpahmmkjkaa", sum := "29ccd42b71f681d26dc4eec41642197abb0d5c84729233edc3ca158d205e96c5", func := "clerestory/clerestorykeep1.CharsWide", spec := "charsWide", inPlace := ["internal/abi.NoEscape"], unfollowed := true, recurses := true, apart := false, narrowed := true }
def CharsWideUptoSaid : Prop := charsWideUptoRow.holds Try.pinned (OpenSpec.upto charsWideSpec)

end Rows
end Go.Proofs.Ytabilpahmmkjkaa
