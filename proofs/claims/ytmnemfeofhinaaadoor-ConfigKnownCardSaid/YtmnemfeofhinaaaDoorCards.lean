/-
  DERIVED. GIVEN WITH THE SEED: THE CARDS: each row of YtmnemfeofhinaaaDoorRows.lean that lists a variable, with what it lists TIED to the program's text (the seventh form; the later family's looks); each row that meets fmt, with fmt's text TOLD by the authors' own Lean function (tested against real Go, not proved from fmt's source: count such statements apart). THE CARD IS WHAT COUNTS. Prove the row's statement (the work); the ties are given (YtmnemfeofhinaaaDoorTie.lean); close each card by the builder's one call (the guide's Derived/Test/ToyasCard.lean, 'card_holds'). Laid BY PROGRAM, IN A SANDBOX (cutbox-door.mjs). By AI agents, Wed Nov 11 2026. No macro, syntax, notation, axiom, sorry.
-/
import Derived.Test.YtmnemfeofhinaaaDoorRows
import GoSem.ClaimSeven
namespace Go.Proofs.YtmnemfeofhinaaaDoor
namespace Rows

/-- THE TIED CARD OF 'almonrylaw28.ConfigParses'. -/
def configParsesCard : Claim7 := { stood := { row := configParsesRow, standIns := [], harness := (true, "95557bf894d13a73d9b783c2c257c6e872ebb6c41f353d5f170ffef41af6e65f"), looks := true }, kinds := [], alts := [], laidByText := true, laidKinds := [.handle], laidTests := true, laidLooks := .later }
def ConfigParsesCardSaid : Prop := Claim7.holds Tryd.pinned (.plain (OpenSpec.ofChange configParsesSpec)) configParsesCard

/-- THE TIED CARD OF 'almonrylaw28.ConfigSpoilt'. -/
def configSpoiltCard : Claim7 := { stood := { row := configSpoiltRow, standIns := [], harness := (true, "95557bf894d13a73d9b783c2c257c6e872ebb6c41f353d5f170ffef41af6e65f"), looks := true }, kinds := [], alts := [], laidByText := true, laidKinds := [.handle], laidTests := true, laidLooks := .later }
def ConfigSpoiltCardSaid : Prop := Claim7.holds Tryd.pinned (.plain (OpenSpec.ofChange configSpoiltSpec)) configSpoiltCard

/-- THE TIED CARD OF 'almonrylaw28.ConfigBuilds'. -/
def configBuildsCard : Claim7 := { stood := { row := configBuildsRow, standIns := [], harness := (true, "95557bf894d13a73d9b783c2c257c6e872ebb6c41f353d5f170ffef41af6e65f"), looks := true }, kinds := [], alts := [], laidByText := true, laidKinds := [.handle], laidTests := true, laidLooks := .later }
def ConfigBuildsCardSaid : Prop := Claim7.holds Tryd.pinned (.plain (OpenSpec.ofChange configBuildsSpec)) configBuildsCard

/-- THE TIED CARD OF 'almonrylaw28.ConfigBack'. -/
def configBackCard : Claim7 := { stood := { row := configBackRow, standIns := [], harness := (true, "95557bf894d13a73d9b783c2c257c6e872ebb6c41f353d5f170ffef41af6e65f"), looks := true }, kinds := [], alts := [], laidByText := true, laidKinds := [.handle], laidTests := true, laidLooks := .later }
def ConfigBackCardSaid : Prop := Claim7.holds Tryd.pinned (.plain (OpenSpec.ofChange configBackSpec)) configBackCard

/-- THE TIED CARD OF 'almonrylaw28.ConfigKnown'. -/
def configKnownCard : Claim7 := { stood := { row := configKnownRow, standIns := [], harness := (true, "95557bf894d13a73d9b783c2c257c6e872ebb6c41f353d5f170ffef41af6e65f"), looks := true }, kinds := [], alts := [], laidByText := true, laidKinds := [.data, .data, .data, .handle], laidTests := true, laidLooks := .later }
def ConfigKnownCardSaid : Prop := Claim7.holds Tryd.pinned (.plain (OpenSpec.ofChange configKnownSpec)) configKnownCard

/-- THE SECOND FORM's CARD OF 'almonrylaw28.ConfigParses'. -/
def configParsesUptoCard : Claim7 := { stood := { row := configParsesUptoRow, standIns := [], harness := (true, "95557bf894d13a73d9b783c2c257c6e872ebb6c41f353d5f170ffef41af6e65f"), looks := true }, kinds := [], alts := [], laidByText := true, laidKinds := [.handle], laidTests := true, laidLooks := .later }
def ConfigParsesUptoCardSaid : Prop := Claim7.holds Tryd.pinned (.plain (OpenSpec.upto configParsesSpec)) configParsesUptoCard

/-- THE SECOND FORM's CARD OF 'almonrylaw28.ConfigSpoilt'. -/
def configSpoiltUptoCard : Claim7 := { stood := { row := configSpoiltUptoRow, standIns := [], harness := (true, "95557bf894d13a73d9b783c2c257c6e872ebb6c41f353d5f170ffef41af6e65f"), looks := true }, kinds := [], alts := [], laidByText := true, laidKinds := [.handle], laidTests := true, laidLooks := .later }
def ConfigSpoiltUptoCardSaid : Prop := Claim7.holds Tryd.pinned (.plain (OpenSpec.upto configSpoiltSpec)) configSpoiltUptoCard

/-- THE SECOND FORM's CARD OF 'almonrylaw28.ConfigBuilds'. -/
def configBuildsUptoCard : Claim7 := { stood := { row := configBuildsUptoRow, standIns := [], harness := (true, "95557bf894d13a73d9b783c2c257c6e872ebb6c41f353d5f170ffef41af6e65f"), looks := true }, kinds := [], alts := [], laidByText := true, laidKinds := [.handle], laidTests := true, laidLooks := .later }
def ConfigBuildsUptoCardSaid : Prop := Claim7.holds Tryd.pinned (.plain (OpenSpec.upto configBuildsSpec)) configBuildsUptoCard

/-- THE SECOND FORM's CARD OF 'almonrylaw28.ConfigBack'. -/
def configBackUptoCard : Claim7 := { stood := { row := configBackUptoRow, standIns := [], harness := (true, "95557bf894d13a73d9b783c2c257c6e872ebb6c41f353d5f170ffef41af6e65f"), looks := true }, kinds := [], alts := [], laidByText := true, laidKinds := [.handle], laidTests := true, laidLooks := .later }
def ConfigBackUptoCardSaid : Prop := Claim7.holds Tryd.pinned (.plain (OpenSpec.upto configBackSpec)) configBackUptoCard

/-- THE SECOND FORM's CARD OF 'almonrylaw28.ConfigKnown'. -/
def configKnownUptoCard : Claim7 := { stood := { row := configKnownUptoRow, standIns := [], harness := (true, "95557bf894d13a73d9b783c2c257c6e872ebb6c41f353d5f170ffef41af6e65f"), looks := true }, kinds := [], alts := [], laidByText := true, laidKinds := [.data, .data, .data, .handle], laidTests := true, laidLooks := .later }
def ConfigKnownUptoCardSaid : Prop := Claim7.holds Tryd.pinned (.plain (OpenSpec.upto configKnownSpec)) configKnownUptoCard
end Rows
end Go.Proofs.YtmnemfeofhinaaaDoor
