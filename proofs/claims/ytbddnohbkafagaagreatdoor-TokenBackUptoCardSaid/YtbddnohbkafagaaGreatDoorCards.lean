/-
  DERIVED. GIVEN WITH THE SEED: THE CARDS: each row of YtbddnohbkafagaaGreatDoorRows.lean that lists a variable, with what it lists TIED to the program's text (the seventh form; the later family's looks); each row that meets fmt, with fmt's text TOLD by the authors' own Lean function (tested against real Go, not proved from fmt's source: count such statements apart). THE CARD IS WHAT COUNTS. Prove the row's statement (the work); the ties are given (YtbddnohbkafagaaGreatDoorTie.lean); close each card by the builder's one call (the guide's Derived/Test/ToyasCard.lean, 'card_holds'). Laid BY PROGRAM, IN A SANDBOX (cutbox-door.mjs). By AI agents, Wed Nov 11 2026. No macro, syntax, notation, axiom, sorry.
-/
import Derived.Test.YtbddnohbkafagaaGreatDoorRows
import GoSem.ClaimSeven
namespace Go.Proofs.YtbddnohbkafagaaGreatDoor
namespace Rows

/-- THE TIED CARD OF 'clerestorykeep1.TokenBack'. -/
def tokenBackCard : Claim7 := { stood := { row := tokenBackRow, standIns := [], harness := (true, "837a2485f42d23c489075e14e7017cea17e5b3ddf5986621c720e24e035ec815"), looks := false }, kinds := [], alts := [], laidByText := true, laidKinds := [.data, .data, .data, .pinned, .pinned], laidTests := true, laidLooks := .later }
def TokenBackCardSaid : Prop := Claim7.holds Tryz.pinned (.plain (OpenSpec.ofChange tokenBackSpec)) tokenBackCard

/-- THE TIED CARD OF 'clerestorykeep1.TokenPlaces'. -/
def tokenPlacesCard : Claim7 := { stood := { row := tokenPlacesRow, standIns := [], harness := (true, "837a2485f42d23c489075e14e7017cea17e5b3ddf5986621c720e24e035ec815"), looks := false }, kinds := [], alts := [], laidByText := true, laidKinds := [.data, .data, .data, .pinned, .pinned], laidTests := true, laidLooks := .later }
def TokenPlacesCardSaid : Prop := Claim7.holds Tryz.pinned (.plain (OpenSpec.ofChange tokenPlacesSpec)) tokenPlacesCard

/-- THE TIED CARD OF 'clerestorykeep1.TokenSize'. -/
def tokenSizeCard : Claim7 := { stood := { row := tokenSizeRow, standIns := [], harness := (true, "837a2485f42d23c489075e14e7017cea17e5b3ddf5986621c720e24e035ec815"), looks := false }, kinds := [], alts := [], laidByText := true, laidKinds := [.data, .data, .data, .pinned, .pinned], laidTests := true, laidLooks := .later }
def TokenSizeCardSaid : Prop := Claim7.holds Tryz.pinned (.plain (OpenSpec.ofChange tokenSizeSpec)) tokenSizeCard

/-- THE TIED CARD OF 'clerestorykeep1.TokenSafe'. -/
def tokenSafeCard : Claim7 := { stood := { row := tokenSafeRow, standIns := [], harness := (true, "837a2485f42d23c489075e14e7017cea17e5b3ddf5986621c720e24e035ec815"), looks := false }, kinds := [], alts := [], laidByText := true, laidKinds := [.data, .data, .data, .pinned, .pinned], laidTests := true, laidLooks := .later }
def TokenSafeCardSaid : Prop := Claim7.holds Tryz.pinned (.plain (OpenSpec.ofChange tokenSafeSpec)) tokenSafeCard

/-- THE SECOND FORM's CARD OF 'clerestorykeep1.TokenBack'. -/
def tokenBackUptoCard : Claim7 := { stood := { row := tokenBackUptoRow, standIns := [], harness := (true, "837a2485f42d23c489075e14e7017cea17e5b3ddf5986621c720e24e035ec815"), looks := false }, kinds := [], alts := [], laidByText := true, laidKinds := [.data, .data, .data, .pinned, .pinned], laidTests := true, laidLooks := .later }
def TokenBackUptoCardSaid : Prop := Claim7.holds Tryz.pinned (.plain (OpenSpec.upto tokenBackSpec)) tokenBackUptoCard

/-- THE SECOND FORM's CARD OF 'clerestorykeep1.TokenPlaces'. -/
def tokenPlacesUptoCard : Claim7 := { stood := { row := tokenPlacesUptoRow, standIns := [], harness := (true, "837a2485f42d23c489075e14e7017cea17e5b3ddf5986621c720e24e035ec815"), looks := false }, kinds := [], alts := [], laidByText := true, laidKinds := [.data, .data, .data, .pinned, .pinned], laidTests := true, laidLooks := .later }
def TokenPlacesUptoCardSaid : Prop := Claim7.holds Tryz.pinned (.plain (OpenSpec.upto tokenPlacesSpec)) tokenPlacesUptoCard

/-- THE SECOND FORM's CARD OF 'clerestorykeep1.TokenSize'. -/
def tokenSizeUptoCard : Claim7 := { stood := { row := tokenSizeUptoRow, standIns := [], harness := (true, "837a2485f42d23c489075e14e7017cea17e5b3ddf5986621c720e24e035ec815"), looks := false }, kinds := [], alts := [], laidByText := true, laidKinds := [.data, .data, .data, .pinned, .pinned], laidTests := true, laidLooks := .later }
def TokenSizeUptoCardSaid : Prop := Claim7.holds Tryz.pinned (.plain (OpenSpec.upto tokenSizeSpec)) tokenSizeUptoCard

/-- THE SECOND FORM's CARD OF 'clerestorykeep1.TokenSafe'. -/
def tokenSafeUptoCard : Claim7 := { stood := { row := tokenSafeUptoRow, standIns := [], harness := (true, "837a2485f42d23c489075e14e7017cea17e5b3ddf5986621c720e24e035ec815"), looks := false }, kinds := [], alts := [], laidByText := true, laidKinds := [.data, .data, .data, .pinned, .pinned], laidTests := true, laidLooks := .later }
def TokenSafeUptoCardSaid : Prop := Claim7.holds Tryz.pinned (.plain (OpenSpec.upto tokenSafeSpec)) tokenSafeUptoCard
end Rows
end Go.Proofs.YtbddnohbkafagaaGreatDoor
