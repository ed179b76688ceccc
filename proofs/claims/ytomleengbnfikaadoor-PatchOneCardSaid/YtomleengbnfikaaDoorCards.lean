/-
  DERIVED. GIVEN WITH THE SEED: THE CARDS: each row of YtomleengbnfikaaDoorRows.lean that lists a variable, with what it lists TIED to the program's text (the seventh form; the later family's looks); each row that meets fmt, with fmt's text TOLD by the authors' own Lean function (tested against real Go, not proved from fmt's source: count such statements apart). THE CARD IS WHAT COUNTS. Prove the row's statement (the work); the ties are given (YtomleengbnfikaaDoorTie.lean); close each card by the builder's one call (the guide's Derived/Test/ToyasCard.lean, 'card_holds'). Laid BY PROGRAM, IN A SANDBOX (cutbox-door.mjs). By AI agents, Wed Nov 11 2026. No macro, syntax, notation, axiom, sorry.
-/
import Derived.Test.YtomleengbnfikaaDoorRows
import GoSem.ClaimSeven
namespace Go.Proofs.YtomleengbnfikaaDoor
namespace Rows

/-- THE TIED CARD OF 'clerestorykeep1.PatchOne'. -/
def patchOneCard : Claim7 := { stood := { row := patchOneRow, standIns := [], harness := (true, "6aacf8b6e2c5e8d87809a7c420681934d849acd1b4c05802c9dac07f720d317f"), looks := false }, kinds := [], alts := [], laidByText := true, laidKinds := [.data, .pinned], laidTests := true, laidLooks := .later }
def PatchOneCardSaid : Prop := Claim7.holds Tryd.pinned (.plain (OpenSpec.ofChange patchOneSpec)) patchOneCard

/-- THE SECOND FORM's CARD OF 'clerestorykeep1.PatchOne'. -/
def patchOneUptoCard : Claim7 := { stood := { row := patchOneUptoRow, standIns := [], harness := (true, "6aacf8b6e2c5e8d87809a7c420681934d849acd1b4c05802c9dac07f720d317f"), looks := false }, kinds := [], alts := [], laidByText := true, laidKinds := [.data, .pinned], laidTests := true, laidLooks := .later }
def PatchOneUptoCardSaid : Prop := Claim7.holds Tryd.pinned (.plain (OpenSpec.upto patchOneSpec)) patchOneUptoCard
end Rows
end Go.Proofs.YtomleengbnfikaaDoor
