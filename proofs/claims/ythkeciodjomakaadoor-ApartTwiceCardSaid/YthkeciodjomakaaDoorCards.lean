/-
  DERIVED. GIVEN WITH THE SEED: THE CARDS: each row of YthkeciodjomakaaDoorRows.lean that lists a variable, with what it lists TIED to the program's text (the seventh form; the later family's looks); each row that meets fmt, with fmt's text TOLD by the authors' own Lean function (tested against real Go, not proved from fmt's source: count such statements apart). THE CARD IS WHAT COUNTS. Prove the row's statement (the work); the ties are given (YthkeciodjomakaaDoorTie.lean); close each card by the builder's one call (the guide's Derived/Test/ToyasCard.lean, 'card_holds'). Laid BY PROGRAM, IN A SANDBOX (cutbox-door.mjs). By AI agents, Wed Nov 11 2026. No macro, syntax, notation, axiom, sorry.
-/
import Derived.Test.YthkeciodjomakaaDoorRows
import GoSem.ClaimSeven
namespace Go.Proofs.YthkeciodjomakaaDoor
namespace Rows

/-- THE TIED CARD OF 'clerestorykeep1.ApartTouch'. -/
def apartTouchCard : Claim7 := { stood := { row := apartTouchRow, standIns := [], harness := (true, "a2ce6fc860d9cbb0a1906f53366489be1ebcd7368c3a9462e49eaa6a8b2dce54"), looks := false }, kinds := [], alts := [], laidByText := true, laidKinds := [.data, .pinned], laidTests := true, laidLooks := .later }
def ApartTouchCardSaid : Prop := Claim7.holds Tryd.pinned (.plain (OpenSpec.ofChange apartTouchSpec)) apartTouchCard

/-- THE TIED CARD OF 'clerestorykeep1.ApartOrder'. -/
def apartOrderCard : Claim7 := { stood := { row := apartOrderRow, standIns := [], harness := (true, "a2ce6fc860d9cbb0a1906f53366489be1ebcd7368c3a9462e49eaa6a8b2dce54"), looks := false }, kinds := [], alts := [], laidByText := true, laidKinds := [.data, .pinned], laidTests := true, laidLooks := .later }
def ApartOrderCardSaid : Prop := Claim7.holds Tryd.pinned (.plain (OpenSpec.ofChange apartOrderSpec)) apartOrderCard

/-- THE TIED CARD OF 'clerestorykeep1.ApartTwice'. -/
def apartTwiceCard : Claim7 := { stood := { row := apartTwiceRow, standIns := [], harness := (true, "a2ce6fc860d9cbb0a1906f53366489be1ebcd7368c3a9462e49eaa6a8b2dce54"), looks := false }, kinds := [], alts := [], laidByText := true, laidKinds := [.data, .pinned], laidTests := true, laidLooks := .later }
def ApartTwiceCardSaid : Prop := Claim7.holds Tryd.pinned (.plain (OpenSpec.ofChange apartTwiceSpec)) apartTwiceCard

/-- THE TIED CARD OF 'clerestorykeep1.IndexOnce'. -/
def indexOnceCard : Claim7 := { stood := { row := indexOnceRow, standIns := [], harness := (true, "a2ce6fc860d9cbb0a1906f53366489be1ebcd7368c3a9462e49eaa6a8b2dce54"), looks := false }, kinds := [], alts := [], laidByText := true, laidKinds := [.data, .pinned], laidTests := true, laidLooks := .later }
def IndexOnceCardSaid : Prop := Claim7.holds Tryd.pinned (.plain (OpenSpec.ofChange indexOnceSpec)) indexOnceCard

/-- THE TIED CARD OF 'clerestorykeep1.SerialParts'. -/
def serialPartsCard : Claim7 := { stood := { row := serialPartsRow, standIns := [], harness := (true, "a2ce6fc860d9cbb0a1906f53366489be1ebcd7368c3a9462e49eaa6a8b2dce54"), looks := false }, kinds := [], alts := [], laidByText := true, laidKinds := [.data, .pinned], laidTests := true, laidLooks := .later }
def SerialPartsCardSaid : Prop := Claim7.holds Tryd.pinned (.plain (OpenSpec.ofChange serialPartsSpec)) serialPartsCard

/-- THE TIED CARD OF 'clerestorykeep1.SerialLines'. -/
def serialLinesCard : Claim7 := { stood := { row := serialLinesRow, standIns := [], harness := (true, "a2ce6fc860d9cbb0a1906f53366489be1ebcd7368c3a9462e49eaa6a8b2dce54"), looks := false }, kinds := [], alts := [], laidByText := true, laidKinds := [.data, .pinned], laidTests := true, laidLooks := .later }
def SerialLinesCardSaid : Prop := Claim7.holds Tryd.pinned (.plain (OpenSpec.ofChange serialLinesSpec)) serialLinesCard

/-- THE TIED CARD OF 'clerestorykeep1.PatchNone'. -/
def patchNoneCard : Claim7 := { stood := { row := patchNoneRow, standIns := [], harness := (true, "a2ce6fc860d9cbb0a1906f53366489be1ebcd7368c3a9462e49eaa6a8b2dce54"), looks := false }, kinds := [], alts := [], laidByText := true, laidKinds := [.data, .pinned], laidTests := true, laidLooks := .later }
def PatchNoneCardSaid : Prop := Claim7.holds Tryd.pinned (.plain (OpenSpec.ofChange patchNoneSpec)) patchNoneCard

/-- THE TIED CARD OF 'clerestorykeep1.PatchOne'. -/
def patchOneCard : Claim7 := { stood := { row := patchOneRow, standIns := [], harness := (true, "a2ce6fc860d9cbb0a1906f53366489be1ebcd7368c3a9462e49eaa6a8b2dce54"), looks := false }, kinds := [], alts := [], laidByText := true, laidKinds := [.data, .pinned], laidTests := true, laidLooks := .later }
def PatchOneCardSaid : Prop := Claim7.holds Tryd.pinned (.plain (OpenSpec.ofChange patchOneSpec)) patchOneCard

/-- THE SECOND FORM's CARD OF 'clerestorykeep1.ApartTouch'. -/
def apartTouchUptoCard : Claim7 := { stood := { row := apartTouchUptoRow, standIns := [], harness := (true, "a2ce6fc860d9cbb0a1906f53366489be1ebcd7368c3a9462e49eaa6a8b2dce54"), looks := false }, kinds := [], alts := [], laidByText := true, laidKinds := [.data, .pinned], laidTests := true, laidLooks := .later }
def ApartTouchUptoCardSaid : Prop := Claim7.holds Tryd.pinned (.plain (OpenSpec.upto apartTouchSpec)) apartTouchUptoCard

/-- THE SECOND FORM's CARD OF 'clerestorykeep1.ApartOrder'. -/
def apartOrderUptoCard : Claim7 := { stood := { row := apartOrderUptoRow, standIns := [], harness := (true, "a2ce6fc860d9cbb0a1906f53366489be1ebcd7368c3a9462e49eaa6a8b2dce54"), looks := false }, kinds := [], alts := [], laidByText := true, laidKinds := [.data, .pinned], laidTests := true, laidLooks := .later }
def ApartOrderUptoCardSaid : Prop := Claim7.holds Tryd.pinned (.plain (OpenSpec.upto apartOrderSpec)) apartOrderUptoCard

/-- THE SECOND FORM's CARD OF 'clerestorykeep1.ApartTwice'. -/
def apartTwiceUptoCard : Claim7 := { stood := { row := apartTwiceUptoRow, standIns := [], harness := (true, "a2ce6fc860d9cbb0a1906f53366489be1ebcd7368c3a9462e49eaa6a8b2dce54"), looks := false }, kinds := [], alts := [], laidByText := true, laidKinds := [.data, .pinned], laidTests := true, laidLooks := .later }
def ApartTwiceUptoCardSaid : Prop := Claim7.holds Tryd.pinned (.plain (OpenSpec.upto apartTwiceSpec)) apartTwiceUptoCard

/-- THE SECOND FORM's CARD OF 'clerestorykeep1.IndexOnce'. -/
def indexOnceUptoCard : Claim7 := { stood := { row := indexOnceUptoRow, standIns := [], harness := (true, "a2ce6fc860d9cbb0a1906f53366489be1ebcd7368c3a9462e49eaa6a8b2dce54"), looks := false }, kinds := [], alts := [], laidByText := true, laidKinds := [.data, .pinned], laidTests := true, laidLooks := .later }
def IndexOnceUptoCardSaid : Prop := Claim7.holds Tryd.pinned (.plain (OpenSpec.upto indexOnceSpec)) indexOnceUptoCard

/-- THE SECOND FORM's CARD OF 'clerestorykeep1.SerialParts'. -/
def serialPartsUptoCard : Claim7 := { stood := { row := serialPartsUptoRow, standIns := [], harness := (true, "a2ce6fc860d9cbb0a1906f53366489be1ebcd7368c3a9462e49eaa6a8b2dce54"), looks := false }, kinds := [], alts := [], laidByText := true, laidKinds := [.data, .pinned], laidTests := true, laidLooks := .later }
def SerialPartsUptoCardSaid : Prop := Claim7.holds Tryd.pinned (.plain (OpenSpec.upto serialPartsSpec)) serialPartsUptoCard

/-- THE SECOND FORM's CARD OF 'clerestorykeep1.SerialLines'. -/
def serialLinesUptoCard : Claim7 := { stood := { row := serialLinesUptoRow, standIns := [], harness := (true, "a2ce6fc860d9cbb0a1906f53366489be1ebcd7368c3a9462e49eaa6a8b2dce54"), looks := false }, kinds := [], alts := [], laidByText := true, laidKinds := [.data, .pinned], laidTests := true, laidLooks := .later }
def SerialLinesUptoCardSaid : Prop := Claim7.holds Tryd.pinned (.plain (OpenSpec.upto serialLinesSpec)) serialLinesUptoCard

/-- THE SECOND FORM's CARD OF 'clerestorykeep1.PatchNone'. -/
def patchNoneUptoCard : Claim7 := { stood := { row := patchNoneUptoRow, standIns := [], harness := (true, "a2ce6fc860d9cbb0a1906f53366489be1ebcd7368c3a9462e49eaa6a8b2dce54"), looks := false }, kinds := [], alts := [], laidByText := true, laidKinds := [.data, .pinned], laidTests := true, laidLooks := .later }
def PatchNoneUptoCardSaid : Prop := Claim7.holds Tryd.pinned (.plain (OpenSpec.upto patchNoneSpec)) patchNoneUptoCard

/-- THE SECOND FORM's CARD OF 'clerestorykeep1.PatchOne'. -/
def patchOneUptoCard : Claim7 := { stood := { row := patchOneUptoRow, standIns := [], harness := (true, "a2ce6fc860d9cbb0a1906f53366489be1ebcd7368c3a9462e49eaa6a8b2dce54"), looks := false }, kinds := [], alts := [], laidByText := true, laidKinds := [.data, .pinned], laidTests := true, laidLooks := .later }
def PatchOneUptoCardSaid : Prop := Claim7.holds Tryd.pinned (.plain (OpenSpec.upto patchOneSpec)) patchOneUptoCard
end Rows
end Go.Proofs.YthkeciodjomakaaDoor
