/-
  DERIVED. GIVEN WITH THE SEED: THE CARDS: each row of YtkbiadobkheafaaDoorRows.lean that lists a variable, with what it lists TIED to the program's text (the seventh form; the later family's looks); each row that meets fmt, with fmt's text TOLD by the authors' own Lean function (tested against real Go, not proved from fmt's source: count such statements apart). THE CARD IS WHAT COUNTS. Prove the row's statement (the work); the ties are given (YtkbiadobkheafaaDoorTie.lean); close each card by the builder's one call (the guide's Derived/Test/ToyasCard.lean, 'card_holds'). Laid BY PROGRAM, IN A SANDBOX (cutbox-door.mjs). By AI agents, Wed Nov 11 2026. No macro, syntax, notation, axiom, sorry.
-/
import Derived.Test.YtkbiadobkheafaaDoorRows
import GoSem.ClaimSeven
namespace Go.Proofs.YtkbiadobkheafaaDoor
namespace Rows

/-- THE TIED CARD OF 'almonrylaw16.BlkKnown'. -/
def blkKnownCard : Claim7 := { stood := { row := blkKnownRow, standIns := [], harness := (true, "2ccce88b1854518ea534b307a75a9e08886a445f68df43e2895a78391df62d32"), looks := false }, kinds := [], alts := [], laidByText := true, laidKinds := [.data, .data, .data], laidTests := true, laidLooks := .later }
def BlkKnownCardSaid : Prop := Claim7.holds Tryd.pinned (.plain (OpenSpec.ofChange blkKnownSpec)) blkKnownCard

/-- THE TIED CARD OF 'almonrylaw16.BlkPlays'. -/
def blkPlaysCard : Claim7 := { stood := { row := blkPlaysRow, standIns := [], harness := (true, "2ccce88b1854518ea534b307a75a9e08886a445f68df43e2895a78391df62d32"), looks := false }, kinds := [], alts := [], laidByText := true, laidKinds := [.data, .data, .data], laidTests := true, laidLooks := .later }
def BlkPlaysCardSaid : Prop := Claim7.holds Tryd.pinned (.plain (OpenSpec.ofChange blkPlaysSpec)) blkPlaysCard

/-- THE SECOND FORM's CARD OF 'almonrylaw16.BlkKnown'. -/
def blkKnownUptoCard : Claim7 := { stood := { row := blkKnownUptoRow, standIns := [], harness := (true, "2ccce88b1854518ea534b307a75a9e08886a445f68df43e2895a78391df62d32"), looks := false }, kinds := [], alts := [], laidByText := true, laidKinds := [.data, .data, .data], laidTests := true, laidLooks := .later }
def BlkKnownUptoCardSaid : Prop := Claim7.holds Tryd.pinned (.plain (OpenSpec.upto blkKnownSpec)) blkKnownUptoCard

/-- THE SECOND FORM's CARD OF 'almonrylaw16.BlkPlays'. -/
def blkPlaysUptoCard : Claim7 := { stood := { row := blkPlaysUptoRow, standIns := [], harness := (true, "2ccce88b1854518ea534b307a75a9e08886a445f68df43e2895a78391df62d32"), looks := false }, kinds := [], alts := [], laidByText := true, laidKinds := [.data, .data, .data], laidTests := true, laidLooks := .later }
def BlkPlaysUptoCardSaid : Prop := Claim7.holds Tryd.pinned (.plain (OpenSpec.upto blkPlaysSpec)) blkPlaysUptoCard
end Rows
end Go.Proofs.YtkbiadobkheafaaDoor
