/-
  DERIVED. GIVEN WITH THE SEED: THE CARDS: each row of YtdnjooallhdjdaaDoorRows.lean that lists a variable, with what it lists TIED to the program's text (the seventh form; the later family's looks); each row that meets fmt, with fmt's text TOLD by the authors' own Lean function (tested against real Go, not proved from fmt's source: count such statements apart). THE CARD IS WHAT COUNTS. Prove the row's statement (the work); the ties are given (YtdnjooallhdjdaaDoorTie.lean); close each card by the builder's one call (the guide's Derived/Test/ToyasCard.lean, 'card_holds'). Laid BY PROGRAM, IN A SANDBOX (cutbox-door.mjs). By AI agents, Wed Nov 11 2026. No macro, syntax, notation, axiom, sorry.
-/
import Derived.Test.YtdnjooallhdjdaaDoorRows
import GoSem.ClaimSeven
namespace Go.Proofs.YtdnjooallhdjdaaDoor
namespace Rows

/-- THE TIED CARD OF 'almonrylaw09.PmpRanges'. -/
def pmpRangesCard : Claim7 := { stood := { row := pmpRangesRow, standIns := [], harness := (true, "dc9f75e384e940edef9346394cd41a73b0a9077bb8f2b3a4c8d0401c6da75800"), looks := false }, kinds := [], alts := [], laidByText := true, laidKinds := [.data], laidTests := true, laidLooks := .later }
def PmpRangesCardSaid : Prop := Claim7.holds Tryd.pinned (.plain (OpenSpec.ofChange pmpRangesSpec)) pmpRangesCard

/-- THE TIED CARD OF 'almonrylaw09.PmpKnown'. -/
def pmpKnownCard : Claim7 := { stood := { row := pmpKnownRow, standIns := [], harness := (true, "dc9f75e384e940edef9346394cd41a73b0a9077bb8f2b3a4c8d0401c6da75800"), looks := false }, kinds := [], alts := [], laidByText := true, laidKinds := [.data], laidTests := true, laidLooks := .later }
def PmpKnownCardSaid : Prop := Claim7.holds Tryd.pinned (.plain (OpenSpec.ofChange pmpKnownSpec)) pmpKnownCard

/-- THE TIED CARD OF 'almonrylaw09.PmpBytes'. -/
def pmpBytesCard : Claim7 := { stood := { row := pmpBytesRow, standIns := [], harness := (true, "dc9f75e384e940edef9346394cd41a73b0a9077bb8f2b3a4c8d0401c6da75800"), looks := false }, kinds := [], alts := [], laidByText := true, laidKinds := [.data], laidTests := true, laidLooks := .later }
def PmpBytesCardSaid : Prop := Claim7.holds Tryd.pinned (.plain (OpenSpec.ofChange pmpBytesSpec)) pmpBytesCard

/-- THE TIED CARD OF 'almonrylaw09.PmpBehind'. -/
def pmpBehindCard : Claim7 := { stood := { row := pmpBehindRow, standIns := [], harness := (true, "dc9f75e384e940edef9346394cd41a73b0a9077bb8f2b3a4c8d0401c6da75800"), looks := false }, kinds := [], alts := [], laidByText := true, laidKinds := [.data], laidTests := true, laidLooks := .later }
def PmpBehindCardSaid : Prop := Claim7.holds Tryd.pinned (.plain (OpenSpec.ofChange pmpBehindSpec)) pmpBehindCard

/-- THE TIED CARD OF 'almonrylaw09.PmpSizes'. -/
def pmpSizesCard : Claim7 := { stood := { row := pmpSizesRow, standIns := [], harness := (true, "dc9f75e384e940edef9346394cd41a73b0a9077bb8f2b3a4c8d0401c6da75800"), looks := false }, kinds := [], alts := [], laidByText := true, laidKinds := [.data], laidTests := true, laidLooks := .later }
def PmpSizesCardSaid : Prop := Claim7.holds Tryd.pinned (.plain (OpenSpec.ofChange pmpSizesSpec)) pmpSizesCard

/-- THE SECOND FORM's CARD OF 'almonrylaw09.PmpRanges'. -/
def pmpRangesUptoCard : Claim7 := { stood := { row := pmpRangesUptoRow, standIns := [], harness := (true, "dc9f75e384e940edef9346394cd41a73b0a9077bb8f2b3a4c8d0401c6da75800"), looks := false }, kinds := [], alts := [], laidByText := true, laidKinds := [.data], laidTests := true, laidLooks := .later }
def PmpRangesUptoCardSaid : Prop := Claim7.holds Tryd.pinned (.plain (OpenSpec.upto pmpRangesSpec)) pmpRangesUptoCard

/-- THE SECOND FORM's CARD OF 'almonrylaw09.PmpKnown'. -/
def pmpKnownUptoCard : Claim7 := { stood := { row := pmpKnownUptoRow, standIns := [], harness := (true, "dc9f75e384e940edef9346394cd41a73b0a9077bb8f2b3a4c8d0401c6da75800"), looks := false }, kinds := [], alts := [], laidByText := true, laidKinds := [.data], laidTests := true, laidLooks := .later }
def PmpKnownUptoCardSaid : Prop := Claim7.holds Tryd.pinned (.plain (OpenSpec.upto pmpKnownSpec)) pmpKnownUptoCard

/-- THE SECOND FORM's CARD OF 'almonrylaw09.PmpBytes'. -/
def pmpBytesUptoCard : Claim7 := { stood := { row := pmpBytesUptoRow, standIns := [], harness := (true, "dc9f75e384e940edef9346394cd41a73b0a9077bb8f2b3a4c8d0401c6da75800"), looks := false }, kinds := [], alts := [], laidByText := true, laidKinds := [.data], laidTests := true, laidLooks := .later }
def PmpBytesUptoCardSaid : Prop := Claim7.holds Tryd.pinned (.plain (OpenSpec.upto pmpBytesSpec)) pmpBytesUptoCard

/-- THE SECOND FORM's CARD OF 'almonrylaw09.PmpBehind'. -/
def pmpBehindUptoCard : Claim7 := { stood := { row := pmpBehindUptoRow, standIns := [], harness := (true, "dc9f75e384e940edef9346394cd41a73b0a9077bb8f2b3a4c8d0401c6da75800"), looks := false }, kinds := [], alts := [], laidByText := true, laidKinds := [.data], laidTests := true, laidLooks := .later }
def PmpBehindUptoCardSaid : Prop := Claim7.holds Tryd.pinned (.plain (OpenSpec.upto pmpBehindSpec)) pmpBehindUptoCard

/-- THE SECOND FORM's CARD OF 'almonrylaw09.PmpSizes'. -/
def pmpSizesUptoCard : Claim7 := { stood := { row := pmpSizesUptoRow, standIns := [], harness := (true, "dc9f75e384e940edef9346394cd41a73b0a9077bb8f2b3a4c8d0401c6da75800"), looks := false }, kinds := [], alts := [], laidByText := true, laidKinds := [.data], laidTests := true, laidLooks := .later }
def PmpSizesUptoCardSaid : Prop := Claim7.holds Tryd.pinned (.plain (OpenSpec.upto pmpSizesSpec)) pmpSizesUptoCard
end Rows
end Go.Proofs.YtdnjooallhdjdaaDoor
