/-
  DERIVED. GIVEN WITH THE SEED: THE CARDS: each row of YtfeighclpaijoaaGreatDoorRows.lean that lists a variable, with what it lists TIED to the program's text (the seventh form; the later family's looks); each row that meets fmt, with fmt's text TOLD by the authors' own Lean function (tested against real Go, not proved from fmt's source: count such statements apart). THE CARD IS WHAT COUNTS. Prove the row's statement (the work); the ties are given (YtfeighclpaijoaaGreatDoorTie.lean); close each card by the builder's one call (the guide's Derived/Test/ToyasCard.lean, 'card_holds'). Laid BY PROGRAM, IN A SANDBOX (cutbox-door.mjs). By AI agents, Wed Nov 11 2026. No macro, syntax, notation, axiom, sorry.
-/
import Derived.Test.YtfeighclpaijoaaGreatDoorRows
import GoSem.ClaimSeven
namespace Go.Proofs.YtfeighclpaijoaaGreatDoor
namespace Rows

/-- THE TIED CARD OF 'clerestorykeep1.RecordParts'. -/
def recordPartsCard : Claim7 := { stood := { row := recordPartsRow, standIns := [], harness := (true, "f8b67cf47dfcabf25ab1a606dee57673ca1cb7f90ed530d5c84de0514a7c2b17"), looks := false }, kinds := [], alts := [], laidByText := true, laidKinds := [.data, .pinned], laidTests := true, laidLooks := .later }
def RecordPartsCardSaid : Prop := Claim7.holds Tryz.pinned (.plain (OpenSpec.ofChange recordPartsSpec)) recordPartsCard

/-- THE TIED CARD OF 'clerestorykeep1.RecordRest'. -/
def recordRestCard : Claim7 := { stood := { row := recordRestRow, standIns := [], harness := (true, "f8b67cf47dfcabf25ab1a606dee57673ca1cb7f90ed530d5c84de0514a7c2b17"), looks := false }, kinds := [], alts := [], laidByText := true, laidKinds := [.data, .pinned], laidTests := true, laidLooks := .later }
def RecordRestCardSaid : Prop := Claim7.holds Tryz.pinned (.plain (OpenSpec.ofChange recordRestSpec)) recordRestCard

/-- THE TIED CARD OF 'clerestorykeep1.RecordBack'. -/
def recordBackCard : Claim7 := { stood := { row := recordBackRow, standIns := [], harness := (true, "f8b67cf47dfcabf25ab1a606dee57673ca1cb7f90ed530d5c84de0514a7c2b17"), looks := false }, kinds := [], alts := [], laidByText := true, laidKinds := [.data, .pinned], laidTests := true, laidLooks := .later }
def RecordBackCardSaid : Prop := Claim7.holds Tryz.pinned (.plain (OpenSpec.ofChange recordBackSpec)) recordBackCard

/-- THE SECOND FORM's CARD OF 'clerestorykeep1.RecordParts'. -/
def recordPartsUptoCard : Claim7 := { stood := { row := recordPartsUptoRow, standIns := [], harness := (true, "f8b67cf47dfcabf25ab1a606dee57673ca1cb7f90ed530d5c84de0514a7c2b17"), looks := false }, kinds := [], alts := [], laidByText := true, laidKinds := [.data, .pinned], laidTests := true, laidLooks := .later }
def RecordPartsUptoCardSaid : Prop := Claim7.holds Tryz.pinned (.plain (OpenSpec.upto recordPartsSpec)) recordPartsUptoCard

/-- THE SECOND FORM's CARD OF 'clerestorykeep1.RecordRest'. -/
def recordRestUptoCard : Claim7 := { stood := { row := recordRestUptoRow, standIns := [], harness := (true, "f8b67cf47dfcabf25ab1a606dee57673ca1cb7f90ed530d5c84de0514a7c2b17"), looks := false }, kinds := [], alts := [], laidByText := true, laidKinds := [.data, .pinned], laidTests := true, laidLooks := .later }
def RecordRestUptoCardSaid : Prop := Claim7.holds Tryz.pinned (.plain (OpenSpec.upto recordRestSpec)) recordRestUptoCard

/-- THE SECOND FORM's CARD OF 'clerestorykeep1.RecordBack'. -/
def recordBackUptoCard : Claim7 := { stood := { row := recordBackUptoRow, standIns := [], harness := (true, "f8b67cf47dfcabf25ab1a606dee57673ca1cb7f90ed530d5c84de0514a7c2b17"), looks := false }, kinds := [], alts := [], laidByText := true, laidKinds := [.data, .pinned], laidTests := true, laidLooks := .later }
def RecordBackUptoCardSaid : Prop := Claim7.holds Tryz.pinned (.plain (OpenSpec.upto recordBackSpec)) recordBackUptoCard
end Rows
end Go.Proofs.YtfeighclpaijoaaGreatDoor
