/-
  DERIVED. GIVEN WITH THE SEED: THE CARDS: each row of YtpbngckplbnahaaGreatDoorRows.lean that lists a variable, with what it lists TIED to the program's text (the seventh form; the later family's looks); each row that meets fmt, with fmt's text TOLD by the authors' own Lean function (tested against real Go, not proved from fmt's source: count such statements apart). THE CARD IS WHAT COUNTS. Prove the row's statement (the work); the ties are given (YtpbngckplbnahaaGreatDoorTie.lean); close each card by the builder's one call (the guide's Derived/Test/ToyasCard.lean, 'card_holds'). Laid BY PROGRAM, IN A SANDBOX (cutbox-door.mjs). By AI agents, Wed Nov 11 2026. No macro, syntax, notation, axiom, sorry.
-/
import Derived.Test.YtpbngckplbnahaaGreatDoorRows
import GoSem.ClaimSeven
namespace Go.Proofs.YtpbngckplbnahaaGreatDoor
namespace Rows

/-- THE TIED CARD OF 'clerestorykeep1.FormRadio'. -/
def formRadioCard : Claim7 := { stood := { row := formRadioRow, standIns := [], harness := (true, "cccff12d06bf3d529c2e87d612d997ea0e089428dbeb9741d42dc5d2e1b9e291"), looks := false }, kinds := [], alts := [], laidByText := true, laidKinds := [.data, .pinned], laidTests := true, laidLooks := .later }
def FormRadioCardSaid : Prop := Claim7.holds Tryz.pinned (.plain (OpenSpec.ofChange formRadioSpec)) formRadioCard

/-- THE TIED CARD OF 'clerestorykeep1.TokenBack'. -/
def tokenBackCard : Claim7 := { stood := { row := tokenBackRow, standIns := [], harness := (true, "cccff12d06bf3d529c2e87d612d997ea0e089428dbeb9741d42dc5d2e1b9e291"), looks := false }, kinds := [], alts := [], laidByText := true, laidKinds := [.data, .data, .data, .pinned, .pinned], laidTests := true, laidLooks := .later }
def TokenBackCardSaid : Prop := Claim7.holds Tryz.pinned (.plain (OpenSpec.ofChange tokenBackSpec)) tokenBackCard

/-- THE TIED CARD OF 'clerestorykeep1.TokenPlaces'. -/
def tokenPlacesCard : Claim7 := { stood := { row := tokenPlacesRow, standIns := [], harness := (true, "cccff12d06bf3d529c2e87d612d997ea0e089428dbeb9741d42dc5d2e1b9e291"), looks := false }, kinds := [], alts := [], laidByText := true, laidKinds := [.data, .data, .data, .pinned, .pinned], laidTests := true, laidLooks := .later }
def TokenPlacesCardSaid : Prop := Claim7.holds Tryz.pinned (.plain (OpenSpec.ofChange tokenPlacesSpec)) tokenPlacesCard

/-- THE TIED CARD OF 'clerestorykeep1.TokenSize'. -/
def tokenSizeCard : Claim7 := { stood := { row := tokenSizeRow, standIns := [], harness := (true, "cccff12d06bf3d529c2e87d612d997ea0e089428dbeb9741d42dc5d2e1b9e291"), looks := false }, kinds := [], alts := [], laidByText := true, laidKinds := [.data, .data, .data, .pinned, .pinned], laidTests := true, laidLooks := .later }
def TokenSizeCardSaid : Prop := Claim7.holds Tryz.pinned (.plain (OpenSpec.ofChange tokenSizeSpec)) tokenSizeCard

/-- THE TIED CARD OF 'clerestorykeep1.TokenSafe'. -/
def tokenSafeCard : Claim7 := { stood := { row := tokenSafeRow, standIns := [], harness := (true, "cccff12d06bf3d529c2e87d612d997ea0e089428dbeb9741d42dc5d2e1b9e291"), looks := false }, kinds := [], alts := [], laidByText := true, laidKinds := [.data, .data, .data, .pinned, .pinned], laidTests := true, laidLooks := .later }
def TokenSafeCardSaid : Prop := Claim7.holds Tryz.pinned (.plain (OpenSpec.ofChange tokenSafeSpec)) tokenSafeCard

/-- THE TIED CARD OF 'clerestorykeep1.FormBack'. -/
def formBackCard : Claim7 := { stood := { row := formBackRow, standIns := [], harness := (true, "cccff12d06bf3d529c2e87d612d997ea0e089428dbeb9741d42dc5d2e1b9e291"), looks := false }, kinds := [], alts := [], laidByText := true, laidKinds := [.data, .pinned], laidTests := true, laidLooks := .later }
def FormBackCardSaid : Prop := Claim7.holds Tryz.pinned (.plain (OpenSpec.ofChange formBackSpec)) formBackCard

/-- THE TIED CARD OF 'clerestorykeep1.FormOff'. -/
def formOffCard : Claim7 := { stood := { row := formOffRow, standIns := [], harness := (true, "cccff12d06bf3d529c2e87d612d997ea0e089428dbeb9741d42dc5d2e1b9e291"), looks := false }, kinds := [], alts := [], laidByText := true, laidKinds := [.data, .pinned], laidTests := true, laidLooks := .later }
def FormOffCardSaid : Prop := Claim7.holds Tryz.pinned (.plain (OpenSpec.ofChange formOffSpec)) formOffCard

/-- THE SECOND FORM's CARD OF 'clerestorykeep1.FormRadio'. -/
def formRadioUptoCard : Claim7 := { stood := { row := formRadioUptoRow, standIns := [], harness := (true, "cccff12d06bf3d529c2e87d612d997ea0e089428dbeb9741d42dc5d2e1b9e291"), looks := false }, kinds := [], alts := [], laidByText := true, laidKinds := [.data, .pinned], laidTests := true, laidLooks := .later }
def FormRadioUptoCardSaid : Prop := Claim7.holds Tryz.pinned (.plain (OpenSpec.upto formRadioSpec)) formRadioUptoCard

/-- THE SECOND FORM's CARD OF 'clerestorykeep1.TokenBack'. -/
def tokenBackUptoCard : Claim7 := { stood := { row := tokenBackUptoRow, standIns := [], harness := (true, "cccff12d06bf3d529c2e87d612d997ea0e089428dbeb9741d42dc5d2e1b9e291"), looks := false }, kinds := [], alts := [], laidByText := true, laidKinds := [.data, .data, .data, .pinned, .pinned], laidTests := true, laidLooks := .later }
def TokenBackUptoCardSaid : Prop := Claim7.holds Tryz.pinned (.plain (OpenSpec.upto tokenBackSpec)) tokenBackUptoCard

/-- THE SECOND FORM's CARD OF 'clerestorykeep1.TokenPlaces'. -/
def tokenPlacesUptoCard : Claim7 := { stood := { row := tokenPlacesUptoRow, standIns := [], harness := (true, "cccff12d06bf3d529c2e87d612d997ea0e089428dbeb9741d42dc5d2e1b9e291"), looks := false }, kinds := [], alts := [], laidByText := true, laidKinds := [.data, .data, .data, .pinned, .pinned], laidTests := true, laidLooks := .later }
def TokenPlacesUptoCardSaid : Prop := Claim7.holds Tryz.pinned (.plain (OpenSpec.upto tokenPlacesSpec)) tokenPlacesUptoCard

/-- THE SECOND FORM's CARD OF 'clerestorykeep1.TokenSize'. -/
def tokenSizeUptoCard : Claim7 := { stood := { row := tokenSizeUptoRow, standIns := [], harness := (true, "cccff12d06bf3d529c2e87d612d997ea0e089428dbeb9741d42dc5d2e1b9e291"), looks := false }, kinds := [], alts := [], laidByText := true, laidKinds := [.data, .data, .data, .pinned, .pinned], laidTests := true, laidLooks := .later }
def TokenSizeUptoCardSaid : Prop := Claim7.holds Tryz.pinned (.plain (OpenSpec.upto tokenSizeSpec)) tokenSizeUptoCard

/-- THE SECOND FORM's CARD OF 'clerestorykeep1.TokenSafe'. -/
def tokenSafeUptoCard : Claim7 := { stood := { row := tokenSafeUptoRow, standIns := [], harness := (true, "cccff12d06bf3d529c2e87d612d997ea0e089428dbeb9741d42dc5d2e1b9e291"), looks := false }, kinds := [], alts := [], laidByText := true, laidKinds := [.data, .data, .data, .pinned, .pinned], laidTests := true, laidLooks := .later }
def TokenSafeUptoCardSaid : Prop := Claim7.holds Tryz.pinned (.plain (OpenSpec.upto tokenSafeSpec)) tokenSafeUptoCard

/-- THE SECOND FORM's CARD OF 'clerestorykeep1.FormBack'. -/
def formBackUptoCard : Claim7 := { stood := { row := formBackUptoRow, standIns := [], harness := (true, "cccff12d06bf3d529c2e87d612d997ea0e089428dbeb9741d42dc5d2e1b9e291"), looks := false }, kinds := [], alts := [], laidByText := true, laidKinds := [.data, .pinned], laidTests := true, laidLooks := .later }
def FormBackUptoCardSaid : Prop := Claim7.holds Tryz.pinned (.plain (OpenSpec.upto formBackSpec)) formBackUptoCard

/-- THE SECOND FORM's CARD OF 'clerestorykeep1.FormOff'. -/
def formOffUptoCard : Claim7 := { stood := { row := formOffUptoRow, standIns := [], harness := (true, "cccff12d06bf3d529c2e87d612d997ea0e089428dbeb9741d42dc5d2e1b9e291"), looks := false }, kinds := [], alts := [], laidByText := true, laidKinds := [.data, .pinned], laidTests := true, laidLooks := .later }
def FormOffUptoCardSaid : Prop := Claim7.holds Tryz.pinned (.plain (OpenSpec.upto formOffSpec)) formOffUptoCard
end Rows
end Go.Proofs.YtpbngckplbnahaaGreatDoor
