/-
  DERIVED. GIVEN WITH THE SEED: THE CARDS: each row of YtpbpcmmlloholaaDoorRows.lean that lists a variable, with what it lists TIED to the program's text (the seventh form; the later family's looks); each row that meets fmt, with fmt's text TOLD by the authors' own Lean function (tested against real Go, not proved from fmt's source: count such statements apart). THE CARD IS WHAT COUNTS. Prove the row's statement (the work); the ties are given (YtpbpcmmlloholaaDoorTie.lean); close each card by the builder's one call (the guide's Derived/Test/ToyasCard.lean, 'card_holds'). Laid BY PROGRAM, IN A SANDBOX (cutbox-door.mjs). By AI agents, Wed Nov 11 2026. No macro, syntax, notation, axiom, sorry.
-/
import Derived.Test.YtpbpcmmlloholaaDoorRows
import GoSem.ClaimSeven
namespace Go.Proofs.YtpbpcmmlloholaaDoor
namespace Rows

/-- THE TIED CARD OF 'clerestorykeep1.SerialParts'. -/
def serialPartsCard : Claim7 := { stood := { row := serialPartsRow, standIns := [], harness := (true, "16a4aa87868c023bae1a363d1ddf0243c507c0a5b80be146aa46036c6d884337"), looks := false }, kinds := [], alts := [], laidByText := true, laidKinds := [.data, .pinned], laidTests := true, laidLooks := .later }
def SerialPartsCardSaid : Prop := Claim7.holds Tryd.pinned (.plain (OpenSpec.ofChange serialPartsSpec)) serialPartsCard

/-- THE TIED CARD OF 'clerestorykeep1.SerialLines'. -/
def serialLinesCard : Claim7 := { stood := { row := serialLinesRow, standIns := [], harness := (true, "16a4aa87868c023bae1a363d1ddf0243c507c0a5b80be146aa46036c6d884337"), looks := false }, kinds := [], alts := [], laidByText := true, laidKinds := [.data, .pinned], laidTests := true, laidLooks := .later }
def SerialLinesCardSaid : Prop := Claim7.holds Tryd.pinned (.plain (OpenSpec.ofChange serialLinesSpec)) serialLinesCard

/-- THE SECOND FORM's CARD OF 'clerestorykeep1.SerialParts'. -/
def serialPartsUptoCard : Claim7 := { stood := { row := serialPartsUptoRow, standIns := [], harness := (true, "16a4aa87868c023bae1a363d1ddf0243c507c0a5b80be146aa46036c6d884337"), looks := false }, kinds := [], alts := [], laidByText := true, laidKinds := [.data, .pinned], laidTests := true, laidLooks := .later }
def SerialPartsUptoCardSaid : Prop := Claim7.holds Tryd.pinned (.plain (OpenSpec.upto serialPartsSpec)) serialPartsUptoCard

/-- THE SECOND FORM's CARD OF 'clerestorykeep1.SerialLines'. -/
def serialLinesUptoCard : Claim7 := { stood := { row := serialLinesUptoRow, standIns := [], harness := (true, "16a4aa87868c023bae1a363d1ddf0243c507c0a5b80be146aa46036c6d884337"), looks := false }, kinds := [], alts := [], laidByText := true, laidKinds := [.data, .pinned], laidTests := true, laidLooks := .later }
def SerialLinesUptoCardSaid : Prop := Claim7.holds Tryd.pinned (.plain (OpenSpec.upto serialLinesSpec)) serialLinesUptoCard
end Rows
end Go.Proofs.YtpbpcmmlloholaaDoor
