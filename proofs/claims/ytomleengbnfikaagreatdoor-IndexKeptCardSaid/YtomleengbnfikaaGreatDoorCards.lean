/-
  DERIVED. GIVEN WITH THE SEED: THE CARDS: each row of YtomleengbnfikaaGreatDoorRows.lean that lists a variable, with what it lists TIED to the program's text (the seventh form; the later family's looks); each row that meets fmt, with fmt's text TOLD by the authors' own Lean function (tested against real Go, not proved from fmt's source: count such statements apart). THE CARD IS WHAT COUNTS. Prove the row's statement (the work); the ties are given (YtomleengbnfikaaGreatDoorTie.lean); close each card by the builder's one call (the guide's Derived/Test/ToyasCard.lean, 'card_holds'). Laid BY PROGRAM, IN A SANDBOX (cutbox-door.mjs). By AI agents, Wed Nov 11 2026. No macro, syntax, notation, axiom, sorry.
-/
import Derived.Test.YtomleengbnfikaaGreatDoorRows
import GoSem.ClaimSeven
namespace Go.Proofs.YtomleengbnfikaaGreatDoor
namespace Rows

/-- THE TIED CARD OF 'clerestorykeep1.IndexKept'. -/
def indexKeptCard : Claim7 := { stood := { row := indexKeptRow, standIns := [], harness := (true, "992110740b651905e381fbf17e3a2b267dfb034f6d424fc73443e896e1fd6880"), looks := false }, kinds := [], alts := [], laidByText := true, laidKinds := [.data, .pinned], laidTests := true, laidLooks := .later }
def IndexKeptCardSaid : Prop := Claim7.holds Tryz.pinned (.plain (OpenSpec.ofChange indexKeptSpec)) indexKeptCard

/-- THE SECOND FORM's CARD OF 'clerestorykeep1.IndexKept'. -/
def indexKeptUptoCard : Claim7 := { stood := { row := indexKeptUptoRow, standIns := [], harness := (true, "992110740b651905e381fbf17e3a2b267dfb034f6d424fc73443e896e1fd6880"), looks := false }, kinds := [], alts := [], laidByText := true, laidKinds := [.data, .pinned], laidTests := true, laidLooks := .later }
def IndexKeptUptoCardSaid : Prop := Claim7.holds Tryz.pinned (.plain (OpenSpec.upto indexKeptSpec)) indexKeptUptoCard
end Rows
end Go.Proofs.YtomleengbnfikaaGreatDoor
