/-
  DERIVED. GIVEN WITH THE SEED: THE CARDS: each row of YtcbagjhbmdmjfaaDoorRows.lean that lists a variable, with what it lists TIED to the program's text (the seventh form; the later family's looks); each row that meets fmt, with fmt's text TOLD by the authors' own Lean function (tested against real Go, not proved from fmt's source: count such statements apart). THE CARD IS WHAT COUNTS. Prove the row's statement (the work); the ties are given (YtcbagjhbmdmjfaaDoorTie.lean); close each card by the builder's one call (the guide's Derived/Test/ToyasCard.lean, 'card_holds'). Laid BY PROGRAM, IN A SANDBOX (cutbox-door.mjs). By AI agents, Wed Nov 11 2026. No macro, syntax, notation, axiom, sorry.
-/
import Derived.Test.YtcbagjhbmdmjfaaDoorRows
import GoSem.ClaimSeven
namespace Go.Proofs.YtcbagjhbmdmjfaaDoor
namespace Rows

/-- THE TIED CARD OF 'almonrylaw07.ImageBuilds'. -/
def imageBuildsCard : Claim7 := { stood := { row := imageBuildsRow, standIns := [], harness := (true, "a79cc6ba2863ee9602fc81c0eda02563b805bf282a7eb04fe281422679371778"), looks := true }, kinds := [], alts := [], laidByText := true, laidKinds := [.handle], laidTests := true, laidLooks := .later }
def ImageBuildsCardSaid : Prop := Claim7.holds Tryd.pinned (.plain (OpenSpec.ofChange imageBuildsSpec)) imageBuildsCard

/-- THE TIED CARD OF 'almonrylaw07.ImageParses'. -/
def imageParsesCard : Claim7 := { stood := { row := imageParsesRow, standIns := [], harness := (true, "a79cc6ba2863ee9602fc81c0eda02563b805bf282a7eb04fe281422679371778"), looks := true }, kinds := [], alts := [], laidByText := true, laidKinds := [.handle], laidTests := true, laidLooks := .later }
def ImageParsesCardSaid : Prop := Claim7.holds Tryd.pinned (.plain (OpenSpec.ofChange imageParsesSpec)) imageParsesCard

/-- THE TIED CARD OF 'almonrylaw07.ImageBack'. -/
def imageBackCard : Claim7 := { stood := { row := imageBackRow, standIns := [], harness := (true, "a79cc6ba2863ee9602fc81c0eda02563b805bf282a7eb04fe281422679371778"), looks := true }, kinds := [], alts := [], laidByText := true, laidKinds := [.handle], laidTests := true, laidLooks := .later }
def ImageBackCardSaid : Prop := Claim7.holds Tryd.pinned (.plain (OpenSpec.ofChange imageBackSpec)) imageBackCard

/-- THE TIED CARD OF 'almonrylaw07.ImageSpoilt'. -/
def imageSpoiltCard : Claim7 := { stood := { row := imageSpoiltRow, standIns := [], harness := (true, "a79cc6ba2863ee9602fc81c0eda02563b805bf282a7eb04fe281422679371778"), looks := true }, kinds := [], alts := [], laidByText := true, laidKinds := [.handle], laidTests := true, laidLooks := .later }
def ImageSpoiltCardSaid : Prop := Claim7.holds Tryd.pinned (.plain (OpenSpec.ofChange imageSpoiltSpec)) imageSpoiltCard

/-- THE TIED CARD OF 'almonrylaw07.ImageLoads'. -/
def imageLoadsCard : Claim7 := { stood := { row := imageLoadsRow, standIns := [], harness := (true, "a79cc6ba2863ee9602fc81c0eda02563b805bf282a7eb04fe281422679371778"), looks := true }, kinds := [], alts := [], laidByText := true, laidKinds := [.handle], laidTests := true, laidLooks := .later }
def ImageLoadsCardSaid : Prop := Claim7.holds Tryd.pinned (.plain (OpenSpec.ofChange imageLoadsSpec)) imageLoadsCard

/-- THE TIED CARD OF 'almonrylaw07.ImageKnown'. -/
def imageKnownCard : Claim7 := { stood := { row := imageKnownRow, standIns := [], harness := (true, "a79cc6ba2863ee9602fc81c0eda02563b805bf282a7eb04fe281422679371778"), looks := true }, kinds := [], alts := [], laidByText := true, laidKinds := [.data, .data, .data, .handle], laidTests := true, laidLooks := .later }
def ImageKnownCardSaid : Prop := Claim7.holds Tryd.pinned (.plain (OpenSpec.ofChange imageKnownSpec)) imageKnownCard

/-- THE SECOND FORM's CARD OF 'almonrylaw07.ImageBuilds'. -/
def imageBuildsUptoCard : Claim7 := { stood := { row := imageBuildsUptoRow, standIns := [], harness := (true, "a79cc6ba2863ee9602fc81c0eda02563b805bf282a7eb04fe281422679371778"), looks := true }, kinds := [], alts := [], laidByText := true, laidKinds := [.handle], laidTests := true, laidLooks := .later }
def ImageBuildsUptoCardSaid : Prop := Claim7.holds Tryd.pinned (.plain (OpenSpec.upto imageBuildsSpec)) imageBuildsUptoCard

/-- THE SECOND FORM's CARD OF 'almonrylaw07.ImageParses'. -/
def imageParsesUptoCard : Claim7 := { stood := { row := imageParsesUptoRow, standIns := [], harness := (true, "a79cc6ba2863ee9602fc81c0eda02563b805bf282a7eb04fe281422679371778"), looks := true }, kinds := [], alts := [], laidByText := true, laidKinds := [.handle], laidTests := true, laidLooks := .later }
def ImageParsesUptoCardSaid : Prop := Claim7.holds Tryd.pinned (.plain (OpenSpec.upto imageParsesSpec)) imageParsesUptoCard

/-- THE SECOND FORM's CARD OF 'almonrylaw07.ImageBack'. -/
def imageBackUptoCard : Claim7 := { stood := { row := imageBackUptoRow, standIns := [], harness := (true, "a79cc6ba2863ee9602fc81c0eda02563b805bf282a7eb04fe281422679371778"), looks := true }, kinds := [], alts := [], laidByText := true, laidKinds := [.handle], laidTests := true, laidLooks := .later }
def ImageBackUptoCardSaid : Prop := Claim7.holds Tryd.pinned (.plain (OpenSpec.upto imageBackSpec)) imageBackUptoCard

/-- THE SECOND FORM's CARD OF 'almonrylaw07.ImageSpoilt'. -/
def imageSpoiltUptoCard : Claim7 := { stood := { row := imageSpoiltUptoRow, standIns := [], harness := (true, "a79cc6ba2863ee9602fc81c0eda02563b805bf282a7eb04fe281422679371778"), looks := true }, kinds := [], alts := [], laidByText := true, laidKinds := [.handle], laidTests := true, laidLooks := .later }
def ImageSpoiltUptoCardSaid : Prop := Claim7.holds Tryd.pinned (.plain (OpenSpec.upto imageSpoiltSpec)) imageSpoiltUptoCard

/-- THE SECOND FORM's CARD OF 'almonrylaw07.ImageLoads'. -/
def imageLoadsUptoCard : Claim7 := { stood := { row := imageLoadsUptoRow, standIns := [], harness := (true, "a79cc6ba2863ee9602fc81c0eda02563b805bf282a7eb04fe281422679371778"), looks := true }, kinds := [], alts := [], laidByText := true, laidKinds := [.handle], laidTests := true, laidLooks := .later }
def ImageLoadsUptoCardSaid : Prop := Claim7.holds Tryd.pinned (.plain (OpenSpec.upto imageLoadsSpec)) imageLoadsUptoCard

/-- THE SECOND FORM's CARD OF 'almonrylaw07.ImageKnown'. -/
def imageKnownUptoCard : Claim7 := { stood := { row := imageKnownUptoRow, standIns := [], harness := (true, "a79cc6ba2863ee9602fc81c0eda02563b805bf282a7eb04fe281422679371778"), looks := true }, kinds := [], alts := [], laidByText := true, laidKinds := [.data, .data, .data, .handle], laidTests := true, laidLooks := .later }
def ImageKnownUptoCardSaid : Prop := Claim7.holds Tryd.pinned (.plain (OpenSpec.upto imageKnownSpec)) imageKnownUptoCard
end Rows
end Go.Proofs.YtcbagjhbmdmjfaaDoor
