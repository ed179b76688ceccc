/-
  DERIVED. GIVEN WITH THE SEED: THE CARDS: each row of YtegcedboeemedaaGreatDoorRows.lean that lists a variable, with what it lists TIED to the program's text (the seventh form; the later family's looks); each row that meets fmt, with fmt's text TOLD by the authors' own Lean function (tested against real Go, not proved from fmt's source: count such statements apart). THE CARD IS WHAT COUNTS. Prove the row's statement (the work); the ties are given (YtegcedboeemedaaGreatDoorTie.lean); close each card by the builder's one call (the guide's Derived/Test/ToyasCard.lean, 'card_holds'). Laid BY PROGRAM, IN A SANDBOX (cutbox-door.mjs). By AI agents, Wed Nov 11 2026. No macro, syntax, notation, axiom, sorry.
-/
import Derived.Test.YtegcedboeemedaaGreatDoorRows
import GoSem.ClaimSeven
namespace Go.Proofs.YtegcedboeemedaaGreatDoor
namespace Rows

/-- THE TIED CARD OF 'clerestorytop.TopTokens'. -/
def topTokensCard : Claim7 := { stood := { row := topTokensRow, standIns := [], harness := (true, "6a6e34ee17634ccf970d776e34252613b87cb35fa6bcb1d0040fe463b7f0ba1d"), looks := true }, kinds := [], alts := [], laidByText := true, laidKinds := [.data, .data, .data, .pinned, .pinned], laidTests := true, laidLooks := .later }
def TopTokensCardSaid : Prop := Claim7.holds Tryz.pinned (.plain (OpenSpec.ofChange topTokensSpec)) topTokensCard

/-- THE TIED CARD OF 'clerestorykeep1.BuildBold'. -/
def buildBoldCard : Claim7 := { stood := { row := buildBoldRow, standIns := [], harness := (true, "6a6e34ee17634ccf970d776e34252613b87cb35fa6bcb1d0040fe463b7f0ba1d"), looks := true }, kinds := [], alts := [], laidByText := true, laidKinds := [.data, .data, .data, .pinned, .pinned], laidTests := true, laidLooks := .later }
def BuildBoldCardSaid : Prop := Claim7.holds Tryz.pinned (.plain (OpenSpec.ofChange buildBoldSpec)) buildBoldCard

/-- THE TIED CARD OF 'clerestorykeep1.BuildShape'. -/
def buildShapeCard : Claim7 := { stood := { row := buildShapeRow, standIns := [], harness := (true, "6a6e34ee17634ccf970d776e34252613b87cb35fa6bcb1d0040fe463b7f0ba1d"), looks := true }, kinds := [], alts := [], laidByText := true, laidKinds := [.data, .data, .data, .pinned, .pinned], laidTests := true, laidLooks := .later }
def BuildShapeCardSaid : Prop := Claim7.holds Tryz.pinned (.plain (OpenSpec.ofChange buildShapeSpec)) buildShapeCard

/-- THE TIED CARD OF 'clerestorykeep1.BuildPlain'. -/
def buildPlainCard : Claim7 := { stood := { row := buildPlainRow, standIns := [], harness := (true, "6a6e34ee17634ccf970d776e34252613b87cb35fa6bcb1d0040fe463b7f0ba1d"), looks := true }, kinds := [], alts := [], laidByText := true, laidKinds := [.data, .data, .data, .pinned, .pinned], laidTests := true, laidLooks := .later }
def BuildPlainCardSaid : Prop := Claim7.holds Tryz.pinned (.plain (OpenSpec.ofChange buildPlainSpec)) buildPlainCard

/-- THE TIED CARD OF 'clerestorykeep1.BuildTable'. -/
def buildTableCard : Claim7 := { stood := { row := buildTableRow, standIns := [], harness := (true, "6a6e34ee17634ccf970d776e34252613b87cb35fa6bcb1d0040fe463b7f0ba1d"), looks := true }, kinds := [], alts := [], laidByText := true, laidKinds := [.data, .data, .data, .pinned, .pinned], laidTests := true, laidLooks := .later }
def BuildTableCardSaid : Prop := Claim7.holds Tryz.pinned (.plain (OpenSpec.ofChange buildTableSpec)) buildTableCard

/-- THE TIED CARD OF 'clerestorykeep1.SerialBuild'. -/
def serialBuildCard : Claim7 := { stood := { row := serialBuildRow, standIns := [], harness := (true, "6a6e34ee17634ccf970d776e34252613b87cb35fa6bcb1d0040fe463b7f0ba1d"), looks := true }, kinds := [], alts := [], laidByText := true, laidKinds := [.data, .data, .data, .pinned, .pinned], laidTests := true, laidLooks := .later }
def SerialBuildCardSaid : Prop := Claim7.holds Tryz.pinned (.plain (OpenSpec.ofChange serialBuildSpec)) serialBuildCard

/-- THE SECOND FORM's CARD OF 'clerestorytop.TopTokens'. -/
def topTokensUptoCard : Claim7 := { stood := { row := topTokensUptoRow, standIns := [], harness := (true, "6a6e34ee17634ccf970d776e34252613b87cb35fa6bcb1d0040fe463b7f0ba1d"), looks := true }, kinds := [], alts := [], laidByText := true, laidKinds := [.data, .data, .data, .pinned, .pinned], laidTests := true, laidLooks := .later }
def TopTokensUptoCardSaid : Prop := Claim7.holds Tryz.pinned (.plain (OpenSpec.upto topTokensSpec)) topTokensUptoCard

/-- THE SECOND FORM's CARD OF 'clerestorykeep1.BuildBold'. -/
def buildBoldUptoCard : Claim7 := { stood := { row := buildBoldUptoRow, standIns := [], harness := (true, "6a6e34ee17634ccf970d776e34252613b87cb35fa6bcb1d0040fe463b7f0ba1d"), looks := true }, kinds := [], alts := [], laidByText := true, laidKinds := [.data, .data, .data, .pinned, .pinned], laidTests := true, laidLooks := .later }
def BuildBoldUptoCardSaid : Prop := Claim7.holds Tryz.pinned (.plain (OpenSpec.upto buildBoldSpec)) buildBoldUptoCard

/-- THE SECOND FORM's CARD OF 'clerestorykeep1.BuildShape'. -/
def buildShapeUptoCard : Claim7 := { stood := { row := buildShapeUptoRow, standIns := [], harness := (true, "6a6e34ee17634ccf970d776e34252613b87cb35fa6bcb1d0040fe463b7f0ba1d"), looks := true }, kinds := [], alts := [], laidByText := true, laidKinds := [.data, .data, .data, .pinned, .pinned], laidTests := true, laidLooks := .later }
def BuildShapeUptoCardSaid : Prop := Claim7.holds Tryz.pinned (.plain (OpenSpec.upto buildShapeSpec)) buildShapeUptoCard

/-- THE SECOND FORM's CARD OF 'clerestorykeep1.BuildPlain'. -/
def buildPlainUptoCard : Claim7 := { stood := { row := buildPlainUptoRow, standIns := [], harness := (true, "6a6e34ee17634ccf970d776e34252613b87cb35fa6bcb1d0040fe463b7f0ba1d"), looks := true }, kinds := [], alts := [], laidByText := true, laidKinds := [.data, .data, .data, .pinned, .pinned], laidTests := true, laidLooks := .later }
def BuildPlainUptoCardSaid : Prop := Claim7.holds Tryz.pinned (.plain (OpenSpec.upto buildPlainSpec)) buildPlainUptoCard

/-- THE SECOND FORM's CARD OF 'clerestorykeep1.BuildTable'. -/
def buildTableUptoCard : Claim7 := { stood := { row := buildTableUptoRow, standIns := [], harness := (true, "6a6e34ee17634ccf970d776e34252613b87cb35fa6bcb1d0040fe463b7f0ba1d"), looks := true }, kinds := [], alts := [], laidByText := true, laidKinds := [.data, .data, .data, .pinned, .pinned], laidTests := true, laidLooks := .later }
def BuildTableUptoCardSaid : Prop := Claim7.holds Tryz.pinned (.plain (OpenSpec.upto buildTableSpec)) buildTableUptoCard

/-- THE SECOND FORM's CARD OF 'clerestorykeep1.SerialBuild'. -/
def serialBuildUptoCard : Claim7 := { stood := { row := serialBuildUptoRow, standIns := [], harness := (true, "6a6e34ee17634ccf970d776e34252613b87cb35fa6bcb1d0040fe463b7f0ba1d"), looks := true }, kinds := [], alts := [], laidByText := true, laidKinds := [.data, .data, .data, .pinned, .pinned], laidTests := true, laidLooks := .later }
def SerialBuildUptoCardSaid : Prop := Claim7.holds Tryz.pinned (.plain (OpenSpec.upto serialBuildSpec)) serialBuildUptoCard
end Rows
end Go.Proofs.YtegcedboeemedaaGreatDoor
