/-
  DERIVED. GIVEN WITH THE SEED: THE CARDS: each row of YtfgmfmkibjfknaaDoorRows.lean that lists a variable, with what it lists TIED to the program's text (the seventh form; the later family's looks); each row that meets fmt, with fmt's text TOLD by the authors' own Lean function (tested against real Go, not proved from fmt's source: count such statements apart). THE CARD IS WHAT COUNTS. Prove the row's statement (the work); the ties are given (YtfgmfmkibjfknaaDoorTie.lean); close each card by the builder's one call (the guide's Derived/Test/ToyasCard.lean, 'card_holds'). Laid BY PROGRAM, IN A SANDBOX (cutbox-door.mjs). By AI agents, Wed Nov 11 2026. No macro, syntax, notation, axiom, sorry.
-/
import Derived.Test.YtfgmfmkibjfknaaDoorRows
import GoSem.ClaimSeven
namespace Go.Proofs.YtfgmfmkibjfknaaDoor
namespace Rows

/-- THE TIED CARD OF 'clerestorykeep1.SerialLines'. -/
def serialLinesCard : Claim7 := { stood := { row := serialLinesRow, standIns := [], harness := (true, "cd25014a260ad01c589bf79e5bf72a738813a1377da22d7d546ecaf23e12cd36"), looks := false }, kinds := [], alts := [], laidByText := true, laidKinds := [.data, .pinned], laidTests := true, laidLooks := .later }
def SerialLinesCardSaid : Prop := Claim7.holds Tryd.pinned (.plain (OpenSpec.ofChange serialLinesSpec)) serialLinesCard

/-- THE TIED CARD OF 'clerestorykeep1.IndexOnce'. -/
def indexOnceCard : Claim7 := { stood := { row := indexOnceRow, standIns := [], harness := (true, "cd25014a260ad01c589bf79e5bf72a738813a1377da22d7d546ecaf23e12cd36"), looks := false }, kinds := [], alts := [], laidByText := true, laidKinds := [.data, .pinned], laidTests := true, laidLooks := .later }
def IndexOnceCardSaid : Prop := Claim7.holds Tryd.pinned (.plain (OpenSpec.ofChange indexOnceSpec)) indexOnceCard

/-- THE TIED CARD OF 'clerestorykeep1.PatchOne'. -/
def patchOneCard : Claim7 := { stood := { row := patchOneRow, standIns := [], harness := (true, "cd25014a260ad01c589bf79e5bf72a738813a1377da22d7d546ecaf23e12cd36"), looks := false }, kinds := [], alts := [], laidByText := true, laidKinds := [.data, .pinned], laidTests := true, laidLooks := .later }
def PatchOneCardSaid : Prop := Claim7.holds Tryd.pinned (.plain (OpenSpec.ofChange patchOneSpec)) patchOneCard

/-- THE SECOND FORM's CARD OF 'clerestorykeep1.SerialLines'. -/
def serialLinesUptoCard : Claim7 := { stood := { row := serialLinesUptoRow, standIns := [], harness := (true, "cd25014a260ad01c589bf79e5bf72a738813a1377da22d7d546ecaf23e12cd36"), looks := false }, kinds := [], alts := [], laidByText := true, laidKinds := [.data, .pinned], laidTests := true, laidLooks := .later }
def SerialLinesUptoCardSaid : Prop := Claim7.holds Tryd.pinned (.plain (OpenSpec.upto serialLinesSpec)) serialLinesUptoCard

/-- THE SECOND FORM's CARD OF 'clerestorykeep1.IndexOnce'. -/
def indexOnceUptoCard : Claim7 := { stood := { row := indexOnceUptoRow, standIns := [], harness := (true, "cd25014a260ad01c589bf79e5bf72a738813a1377da22d7d546ecaf23e12cd36"), looks := false }, kinds := [], alts := [], laidByText := true, laidKinds := [.data, .pinned], laidTests := true, laidLooks := .later }
def IndexOnceUptoCardSaid : Prop := Claim7.holds Tryd.pinned (.plain (OpenSpec.upto indexOnceSpec)) indexOnceUptoCard

/-- THE SECOND FORM's CARD OF 'clerestorykeep1.PatchOne'. -/
def patchOneUptoCard : Claim7 := { stood := { row := patchOneUptoRow, standIns := [], harness := (true, "cd25014a260ad01c589bf79e5bf72a738813a1377da22d7d546ecaf23e12cd36"), looks := false }, kinds := [], alts := [], laidByText := true, laidKinds := [.data, .pinned], laidTests := true, laidLooks := .later }
def PatchOneUptoCardSaid : Prop := Claim7.holds Tryd.pinned (.plain (OpenSpec.upto patchOneSpec)) patchOneUptoCard
end Rows
end Go.Proofs.YtfgmfmkibjfknaaDoor
