/-
  DERIVED. GIVEN WITH THE SEED: THE CARDS: each row of YtmemadajjmmlpaaDoorRows.lean that lists a variable, with what it lists TIED to the program's text (the seventh form; the later family's looks); each row that meets fmt, with fmt's text TOLD by the authors' own Lean function (tested against real Go, not proved from fmt's source: count such statements apart). THE CARD IS WHAT COUNTS. Prove the row's statement (the work); the ties are given (YtmemadajjmmlpaaDoorTie.lean); close each card by the builder's one call (the guide's Derived/Test/ToyasCard.lean, 'card_holds'). Laid BY PROGRAM, IN A SANDBOX (cutbox-door.mjs). By AI agents, Wed Nov 11 2026. No macro, syntax, notation, axiom, sorry.
-/
import Derived.Test.YtmemadajjmmlpaaDoorRows
import GoSem.ClaimSeven
namespace Go.Proofs.YtmemadajjmmlpaaDoor
namespace Rows

/-- THE TIED CARD OF 'clerestorykeep1.WalkCommon'. -/
def walkCommonCard : Claim7 := { stood := { row := walkCommonRow, standIns := [], harness := (true, "dc76623bbb974f09e27f788a6ff029f924099bcc7f33b3228702f75869630e0e"), looks := false }, kinds := [], alts := [], laidByText := true, laidKinds := [.data, .pinned], laidTests := true, laidLooks := .later }
def WalkCommonCardSaid : Prop := Claim7.holds Tryd.pinned (.plain (OpenSpec.ofChange walkCommonSpec)) walkCommonCard

/-- THE TIED CARD OF 'clerestorykeep1.IndexOnce'. -/
def indexOnceCard : Claim7 := { stood := { row := indexOnceRow, standIns := [], harness := (true, "dc76623bbb974f09e27f788a6ff029f924099bcc7f33b3228702f75869630e0e"), looks := false }, kinds := [], alts := [], laidByText := true, laidKinds := [.data, .pinned], laidTests := true, laidLooks := .later }
def IndexOnceCardSaid : Prop := Claim7.holds Tryd.pinned (.plain (OpenSpec.ofChange indexOnceSpec)) indexOnceCard

/-- THE TIED CARD OF 'clerestorykeep1.DomBoth'. -/
def domBothCard : Claim7 := { stood := { row := domBothRow, standIns := [], harness := (true, "dc76623bbb974f09e27f788a6ff029f924099bcc7f33b3228702f75869630e0e"), looks := false }, kinds := [], alts := [], laidByText := true, laidKinds := [.data, .pinned], laidTests := true, laidLooks := .later }
def DomBothCardSaid : Prop := Claim7.holds Tryd.pinned (.plain (OpenSpec.ofChange domBothSpec)) domBothCard

/-- THE TIED CARD OF 'clerestorykeep1.DomStays'. -/
def domStaysCard : Claim7 := { stood := { row := domStaysRow, standIns := [], harness := (true, "dc76623bbb974f09e27f788a6ff029f924099bcc7f33b3228702f75869630e0e"), looks := false }, kinds := [], alts := [], laidByText := true, laidKinds := [.data, .pinned], laidTests := true, laidLooks := .later }
def DomStaysCardSaid : Prop := Claim7.holds Tryd.pinned (.plain (OpenSpec.ofChange domStaysSpec)) domStaysCard

/-- THE TIED CARD OF 'clerestorykeep1.DomOrder'. -/
def domOrderCard : Claim7 := { stood := { row := domOrderRow, standIns := [], harness := (true, "dc76623bbb974f09e27f788a6ff029f924099bcc7f33b3228702f75869630e0e"), looks := false }, kinds := [], alts := [], laidByText := true, laidKinds := [.data, .pinned], laidTests := true, laidLooks := .later }
def DomOrderCardSaid : Prop := Claim7.holds Tryd.pinned (.plain (OpenSpec.ofChange domOrderSpec)) domOrderCard

/-- THE TIED CARD OF 'clerestorykeep1.DomCopy'. -/
def domCopyCard : Claim7 := { stood := { row := domCopyRow, standIns := [], harness := (true, "dc76623bbb974f09e27f788a6ff029f924099bcc7f33b3228702f75869630e0e"), looks := false }, kinds := [], alts := [], laidByText := true, laidKinds := [.data, .pinned], laidTests := true, laidLooks := .later }
def DomCopyCardSaid : Prop := Claim7.holds Tryd.pinned (.plain (OpenSpec.ofChange domCopySpec)) domCopyCard

/-- THE TIED CARD OF 'clerestorykeep1.SpanOrder'. -/
def spanOrderCard : Claim7 := { stood := { row := spanOrderRow, standIns := [], harness := (true, "dc76623bbb974f09e27f788a6ff029f924099bcc7f33b3228702f75869630e0e"), looks := false }, kinds := [], alts := [], laidByText := true, laidKinds := [.data, .pinned], laidTests := true, laidLooks := .later }
def SpanOrderCardSaid : Prop := Claim7.holds Tryd.pinned (.plain (OpenSpec.ofChange spanOrderSpec)) spanOrderCard

/-- THE TIED CARD OF 'clerestorykeep1.SpanStays'. -/
def spanStaysCard : Claim7 := { stood := { row := spanStaysRow, standIns := [], harness := (true, "dc76623bbb974f09e27f788a6ff029f924099bcc7f33b3228702f75869630e0e"), looks := false }, kinds := [], alts := [], laidByText := true, laidKinds := [.data, .pinned], laidTests := true, laidLooks := .later }
def SpanStaysCardSaid : Prop := Claim7.holds Tryd.pinned (.plain (OpenSpec.ofChange spanStaysSpec)) spanStaysCard

/-- THE TIED CARD OF 'clerestorykeep1.SpanParts'. -/
def spanPartsCard : Claim7 := { stood := { row := spanPartsRow, standIns := [], harness := (true, "dc76623bbb974f09e27f788a6ff029f924099bcc7f33b3228702f75869630e0e"), looks := false }, kinds := [], alts := [], laidByText := true, laidKinds := [.data, .pinned], laidTests := true, laidLooks := .later }
def SpanPartsCardSaid : Prop := Claim7.holds Tryd.pinned (.plain (OpenSpec.ofChange spanPartsSpec)) spanPartsCard

/-- THE SECOND FORM's CARD OF 'clerestorykeep1.WalkCommon'. -/
def walkCommonUptoCard : Claim7 := { stood := { row := walkCommonUptoRow, standIns := [], harness := (true, "dc76623bbb974f09e27f788a6ff029f924099bcc7f33b3228702f75869630e0e"), looks := false }, kinds := [], alts := [], laidByText := true, laidKinds := [.data, .pinned], laidTests := true, laidLooks := .later }
def WalkCommonUptoCardSaid : Prop := Claim7.holds Tryd.pinned (.plain (OpenSpec.upto walkCommonSpec)) walkCommonUptoCard

/-- THE SECOND FORM's CARD OF 'clerestorykeep1.IndexOnce'. -/
def indexOnceUptoCard : Claim7 := { stood := { row := indexOnceUptoRow, standIns := [], harness := (true, "dc76623bbb974f09e27f788a6ff029f924099bcc7f33b3228702f75869630e0e"), looks := false }, kinds := [], alts := [], laidByText := true, laidKinds := [.data, .pinned], laidTests := true, laidLooks := .later }
def IndexOnceUptoCardSaid : Prop := Claim7.holds Tryd.pinned (.plain (OpenSpec.upto indexOnceSpec)) indexOnceUptoCard

/-- THE SECOND FORM's CARD OF 'clerestorykeep1.DomBoth'. -/
def domBothUptoCard : Claim7 := { stood := { row := domBothUptoRow, standIns := [], harness := (true, "dc76623bbb974f09e27f788a6ff029f924099bcc7f33b3228702f75869630e0e"), looks := false }, kinds := [], alts := [], laidByText := true, laidKinds := [.data, .pinned], laidTests := true, laidLooks := .later }
def DomBothUptoCardSaid : Prop := Claim7.holds Tryd.pinned (.plain (OpenSpec.upto domBothSpec)) domBothUptoCard

/-- THE SECOND FORM's CARD OF 'clerestorykeep1.DomStays'. -/
def domStaysUptoCard : Claim7 := { stood := { row := domStaysUptoRow, standIns := [], harness := (true, "dc76623bbb974f09e27f788a6ff029f924099bcc7f33b3228702f75869630e0e"), looks := false }, kinds := [], alts := [], laidByText := true, laidKinds := [.data, .pinned], laidTests := true, laidLooks := .later }
def DomStaysUptoCardSaid : Prop := Claim7.holds Tryd.pinned (.plain (OpenSpec.upto domStaysSpec)) domStaysUptoCard

/-- THE SECOND FORM's CARD OF 'clerestorykeep1.DomOrder'. -/
def domOrderUptoCard : Claim7 := { stood := { row := domOrderUptoRow, standIns := [], harness := (true, "dc76623bbb974f09e27f788a6ff029f924099bcc7f33b3228702f75869630e0e"), looks := false }, kinds := [], alts := [], laidByText := true, laidKinds := [.data, .pinned], laidTests := true, laidLooks := .later }
def DomOrderUptoCardSaid : Prop := Claim7.holds Tryd.pinned (.plain (OpenSpec.upto domOrderSpec)) domOrderUptoCard

/-- THE SECOND FORM's CARD OF 'clerestorykeep1.DomCopy'. -/
def domCopyUptoCard : Claim7 := { stood := { row := domCopyUptoRow, standIns := [], harness := (true, "dc76623bbb974f09e27f788a6ff029f924099bcc7f33b3228702f75869630e0e"), looks := false }, kinds := [], alts := [], laidByText := true, laidKinds := [.data, .pinned], laidTests := true, laidLooks := .later }
def DomCopyUptoCardSaid : Prop := Claim7.holds Tryd.pinned (.plain (OpenSpec.upto domCopySpec)) domCopyUptoCard

/-- THE SECOND FORM's CARD OF 'clerestorykeep1.SpanOrder'. -/
def spanOrderUptoCard : Claim7 := { stood := { row := spanOrderUptoRow, standIns := [], harness := (true, "dc76623bbb974f09e27f788a6ff029f924099bcc7f33b3228702f75869630e0e"), looks := false }, kinds := [], alts := [], laidByText := true, laidKinds := [.data, .pinned], laidTests := true, laidLooks := .later }
def SpanOrderUptoCardSaid : Prop := Claim7.holds Tryd.pinned (.plain (OpenSpec.upto spanOrderSpec)) spanOrderUptoCard

/-- THE SECOND FORM's CARD OF 'clerestorykeep1.SpanStays'. -/
def spanStaysUptoCard : Claim7 := { stood := { row := spanStaysUptoRow, standIns := [], harness := (true, "dc76623bbb974f09e27f788a6ff029f924099bcc7f33b3228702f75869630e0e"), looks := false }, kinds := [], alts := [], laidByText := true, laidKinds := [.data, .pinned], laidTests := true, laidLooks := .later }
def SpanStaysUptoCardSaid : Prop := Claim7.holds Tryd.pinned (.plain (OpenSpec.upto spanStaysSpec)) spanStaysUptoCard

/-- THE SECOND FORM's CARD OF 'clerestorykeep1.SpanParts'. -/
def spanPartsUptoCard : Claim7 := { stood := { row := spanPartsUptoRow, standIns := [], harness := (true, "dc76623bbb974f09e27f788a6ff029f924099bcc7f33b3228702f75869630e0e"), looks := false }, kinds := [], alts := [], laidByText := true, laidKinds := [.data, .pinned], laidTests := true, laidLooks := .later }
def SpanPartsUptoCardSaid : Prop := Claim7.holds Tryd.pinned (.plain (OpenSpec.upto spanPartsSpec)) spanPartsUptoCard
end Rows
end Go.Proofs.YtmemadajjmmlpaaDoor
