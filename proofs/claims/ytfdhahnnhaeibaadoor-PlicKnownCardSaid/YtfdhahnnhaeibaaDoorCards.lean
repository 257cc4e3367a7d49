/-
  DERIVED. GIVEN WITH THE SEED: THE CARDS: each row of YtfdhahnnhaeibaaDoorRows.lean that lists a variable, with what it lists TIED to the program's text (the seventh form; the later family's looks); each row that meets fmt, with fmt's text TOLD by the authors' own Lean function (tested against real Go, not proved from fmt's source: count such statements apart). THE CARD IS WHAT COUNTS. Prove the row's statement (the work); the ties are given (YtfdhahnnhaeibaaDoorTie.lean); close each card by the builder's one call (the guide's Derived/Test/ToyasCard.lean, 'card_holds'). Laid BY PROGRAM, IN A SANDBOX (cutbox-door.mjs). By AI agents, Wed Nov 11 2026. No macro, syntax, notation, axiom, sorry.
-/
import Derived.Test.YtfdhahnnhaeibaaDoorRows
import GoSem.ClaimSeven
namespace Go.Proofs.YtfdhahnnhaeibaaDoor
namespace Rows

/-- THE TIED CARD OF 'almonrylaw14.PlicPlays'. -/
def plicPlaysCard : Claim7 := { stood := { row := plicPlaysRow, standIns := [], harness := (true, "15c89e3045c32a0f01ce0ff43a91e2c46f462afaa420ae97fd69991b1e485d6b"), looks := false }, kinds := [], alts := [], laidByText := true, laidKinds := [.data, .data, .data], laidTests := true, laidLooks := .later }
def PlicPlaysCardSaid : Prop := Claim7.holds Tryd.pinned (.plain (OpenSpec.ofChange plicPlaysSpec)) plicPlaysCard

/-- THE TIED CARD OF 'almonrylaw14.PlicApart'. -/
def plicApartCard : Claim7 := { stood := { row := plicApartRow, standIns := [], harness := (true, "15c89e3045c32a0f01ce0ff43a91e2c46f462afaa420ae97fd69991b1e485d6b"), looks := false }, kinds := [], alts := [], laidByText := true, laidKinds := [.data, .data, .data], laidTests := true, laidLooks := .later }
def PlicApartCardSaid : Prop := Claim7.holds Tryd.pinned (.plain (OpenSpec.ofChange plicApartSpec)) plicApartCard

/-- THE TIED CARD OF 'almonrylaw14.PlicSame'. -/
def plicSameCard : Claim7 := { stood := { row := plicSameRow, standIns := [], harness := (true, "15c89e3045c32a0f01ce0ff43a91e2c46f462afaa420ae97fd69991b1e485d6b"), looks := false }, kinds := [], alts := [], laidByText := true, laidKinds := [.data, .data, .data], laidTests := true, laidLooks := .later }
def PlicSameCardSaid : Prop := Claim7.holds Tryd.pinned (.plain (OpenSpec.ofChange plicSameSpec)) plicSameCard

/-- THE TIED CARD OF 'almonrylaw14.PlicKnown'. -/
def plicKnownCard : Claim7 := { stood := { row := plicKnownRow, standIns := [], harness := (true, "15c89e3045c32a0f01ce0ff43a91e2c46f462afaa420ae97fd69991b1e485d6b"), looks := false }, kinds := [], alts := [], laidByText := true, laidKinds := [.data, .data, .data], laidTests := true, laidLooks := .later }
def PlicKnownCardSaid : Prop := Claim7.holds Tryd.pinned (.plain (OpenSpec.ofChange plicKnownSpec)) plicKnownCard

/-- THE SECOND FORM's CARD OF 'almonrylaw14.PlicPlays'. -/
def plicPlaysUptoCard : Claim7 := { stood := { row := plicPlaysUptoRow, standIns := [], harness := (true, "15c89e3045c32a0f01ce0ff43a91e2c46f462afaa420ae97fd69991b1e485d6b"), looks := false }, kinds := [], alts := [], laidByText := true, laidKinds := [.data, .data, .data], laidTests := true, laidLooks := .later }
def PlicPlaysUptoCardSaid : Prop := Claim7.holds Tryd.pinned (.plain (OpenSpec.upto plicPlaysSpec)) plicPlaysUptoCard

/-- THE SECOND FORM's CARD OF 'almonrylaw14.PlicApart'. -/
def plicApartUptoCard : Claim7 := { stood := { row := plicApartUptoRow, standIns := [], harness := (true, "15c89e3045c32a0f01ce0ff43a91e2c46f462afaa420ae97fd69991b1e485d6b"), looks := false }, kinds := [], alts := [], laidByText := true, laidKinds := [.data, .data, .data], laidTests := true, laidLooks := .later }
def PlicApartUptoCardSaid : Prop := Claim7.holds Tryd.pinned (.plain (OpenSpec.upto plicApartSpec)) plicApartUptoCard

/-- THE SECOND FORM's CARD OF 'almonrylaw14.PlicSame'. -/
def plicSameUptoCard : Claim7 := { stood := { row := plicSameUptoRow, standIns := [], harness := (true, "15c89e3045c32a0f01ce0ff43a91e2c46f462afaa420ae97fd69991b1e485d6b"), looks := false }, kinds := [], alts := [], laidByText := true, laidKinds := [.data, .data, .data], laidTests := true, laidLooks := .later }
def PlicSameUptoCardSaid : Prop := Claim7.holds Tryd.pinned (.plain (OpenSpec.upto plicSameSpec)) plicSameUptoCard

/-- THE SECOND FORM's CARD OF 'almonrylaw14.PlicKnown'. -/
def plicKnownUptoCard : Claim7 := { stood := { row := plicKnownUptoRow, standIns := [], harness := (true, "15c89e3045c32a0f01ce0ff43a91e2c46f462afaa420ae97fd69991b1e485d6b"), looks := false }, kinds := [], alts := [], laidByText := true, laidKinds := [.data, .data, .data], laidTests := true, laidLooks := .later }
def PlicKnownUptoCardSaid : Prop := Claim7.holds Tryd.pinned (.plain (OpenSpec.upto plicKnownSpec)) plicKnownUptoCard
end Rows
end Go.Proofs.YtfdhahnnhaeibaaDoor
