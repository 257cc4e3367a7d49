/-
  No cell of these rows narrows 'for every input' (looked for: loops, veiled, ifaces, maps, wideKeys, modest, calm, conditions, laid).
  DERIVED. THE GIVEN ROWS OF THIS SEAT. 7 by the template 'for every input the law returns true; each argument reads behind the call as it read before'; 0 by the template 'total and deterministic' (their statements: YtcfgagpjdhhddaaTotals.lean).
  GIVEN WITH THE SEED: the statements are not yours to turn. If you find one false, say at which input.
  Laid BY PROGRAM, IN A SANDBOX (cutbox-rows.mjs): the forced cells as the released guide's own fill.sh prints them over the translation 5e93afc9a2dbf666… (all of the seat's roots in one cut). By AI agents, Wed Nov 11 2026. No macro, syntax, notation, axiom, sorry.
-/
import Derived.Test.YtcfgagpjdhhddaaChecked
import GoSem.Claim
import GoSem.ClaimJoined
import GoSem.ClaimMapViews
import Derived.JoinedTies
import Derived.KernelRfl
namespace Go.Proofs.Ytcfgagpjdhhddaa
/- THE CELL 'sum', in the pinned program and in every row, IS THE sha256 OF THE DUMP (.gsa) THAT YtcfgagpjdhhddaaProg.lean LOADS. Nothing in Lean hashes anything: it is a label: what it is worth is what the hold of that sum in a sandbox is worth. -/
noncomputable def Try.pinned : Pinned := { name := "ytcfgagpjdhhddaa", sum := "5e93afc9a2dbf66696aa6d22811453c2a130a8d8effef80448d3cd9c07dea0c7", checked := Try.checked }
namespace Rows
def none {H : Type} : Left H := { results := [], args := [] }

/-- 'almonrylaw30.EventParses': WHATEVER THE INPUT: true; the input reads as it did. -/
def eventParsesSpec : ChangeSpec := { name := "eventParses", fn := fun _ => fun
  | [d1, d2] => { results := [.lit (.bool true)], args := [d1, d2] }
  | _ => none }
def eventParsesRow : OpenClaim := { program := "ytcfgagpjdhhddaa", sum := "5e93afc9a2dbf66696aa6d22811453c2a130a8d8effef80448d3cd9c07dea0c7", func := "almonry/almonrylaw30.EventParses", spec := "eventParses", unfollowed := true, recurses := true, apart := false }
def EventParsesSaid : Prop := eventParsesRow.holds Try.pinned (OpenSpec.ofChange eventParsesSpec)

/-- ITS FALSE NEIGHBOUR: 'it returns false'. Refute it at one input. -/
def eventParsesWrong : ChangeSpec := { name := "eventParses", fn := fun _ => fun
  | [d1, d2] => { results := [.lit (.bool false)], args := [d1, d2] }
  | _ => none }
def EventParsesWrongFalsely : Prop := eventParsesRow.holds Try.pinned (OpenSpec.ofChange eventParsesWrong)

/-- 'almonrylaw30.EventEach': WHATEVER THE INPUT: true; the input reads as it did. -/
def eventEachSpec : ChangeSpec := { name := "eventEach", fn := fun _ => fun
  | [d1, d2] => { results := [.lit (.bool true)], args := [d1, d2] }
  | _ => none }
def eventEachRow : OpenClaim := { program := "ytcfgagpjdhhddaa", sum := "5e93afc9a2dbf66696aa6d22811453c2a130a8d8effef80448d3cd9c07dea0c7", func := "almonry/almonrylaw30.EventEach", spec := "eventEach", unfollowed := true, recurses := true, apart := false }
def EventEachSaid : Prop := eventEachRow.holds Try.pinned (OpenSpec.ofChange eventEachSpec)

/-- ITS FALSE NEIGHBOUR: 'it returns false'. Refute it at one input. -/
def eventEachWrong : ChangeSpec := { name := "eventEach", fn := fun _ => fun
  | [d1, d2] => { results := [.lit (.bool false)], args := [d1, d2] }
  | _ => none }
def EventEachWrongFalsely : Prop := eventEachRow.holds Try.pinned (OpenSpec.ofChange eventEachWrong)

/-- 'almonrylaw30.EventApart': WHATEVER THE INPUT: true; the input reads as it did. -/
def eventApartSpec : ChangeSpec := { name := "eventApart", fn := fun _ => fun
  | [d1, d2, d3] => { results := [.lit (.bool true)], args := [d1, d2, d3] }
  | _ => none }
def eventApartRow : OpenClaim := { program := "ytcfgagpjdhhddaa", sum := "5e93afc9a2dbf66696aa6d22811453c2a130a8d8effef80448d3cd9c07dea0c7", func := "almonry/almonrylaw30.EventApart", spec := "eventApart", unfollowed := true, recurses := true, apart := false }
def EventApartSaid : Prop := eventApartRow.holds Try.pinned (OpenSpec.ofChange eventApartSpec)

/-- ITS FALSE NEIGHBOUR: 'it returns false'. Refute it at one input. -/
def eventApartWrong : ChangeSpec := { name := "eventApart", fn := fun _ => fun
  | [d1, d2, d3] => { results := [.lit (.bool false)], args := [d1, d2, d3] }
  | _ => none }
def EventApartWrongFalsely : Prop := eventApartRow.holds Try.pinned (OpenSpec.ofChange eventApartWrong)

/-- 'almonrylaw30.EventGuests': WHATEVER THE INPUT: true; the input reads as it did. -/
def eventGuestsSpec : ChangeSpec := { name := "eventGuests", fn := fun _ => fun
  | [d1, d2, d3] => { results := [.lit (.bool true)], args := [d1, d2, d3] }
  | _ => none }
def eventGuestsRow : OpenClaim := { program := "ytcfgagpjdhhddaa", sum := "5e93afc9a2dbf66696aa6d22811453c2a130a8d8effef80448d3cd9c07dea0c7", func := "almonry/almonrylaw30.EventGuests", spec := "eventGuests", unfollowed := true, recurses := true, apart := false }
def EventGuestsSaid : Prop := eventGuestsRow.holds Try.pinned (OpenSpec.ofChange eventGuestsSpec)

/-- ITS FALSE NEIGHBOUR: 'it returns false'. Refute it at one input. -/
def eventGuestsWrong : ChangeSpec := { name := "eventGuests", fn := fun _ => fun
  | [d1, d2, d3] => { results := [.lit (.bool false)], args := [d1, d2, d3] }
  | _ => none }
def EventGuestsWrongFalsely : Prop := eventGuestsRow.holds Try.pinned (OpenSpec.ofChange eventGuestsWrong)

/-- 'almonrylaw30.EventTells': WHATEVER THE INPUT: true; the input reads as it did. -/
def eventTellsSpec : ChangeSpec := { name := "eventTells", fn := fun _ => fun
  | [d1, d2] => { results := [.lit (.bool true)], args := [d1, d2] }
  | _ => none }
def eventTellsRow : OpenClaim := { program := "ytcfgagpjdhhddaa", sum := "5e93afc9a2dbf66696aa6d22811453c2a130a8d8effef80448d3cd9c07dea0c7", func := "almonry/almonrylaw30.EventTells", spec := "eventTells", unfollowed := true, recurses := true, apart := false }
def EventTellsSaid : Prop := eventTellsRow.holds Try.pinned (OpenSpec.ofChange eventTellsSpec)

/-- ITS FALSE NEIGHBOUR: 'it returns false'. Refute it at one input. -/
def eventTellsWrong : ChangeSpec := { name := "eventTells", fn := fun _ => fun
  | [d1, d2] => { results := [.lit (.bool false)], args := [d1, d2] }
  | _ => none }
def EventTellsWrongFalsely : Prop := eventTellsRow.holds Try.pinned (OpenSpec.ofChange eventTellsWrong)

/-- 'almonrylaw30.EventKnown': WHATEVER THE INPUT: true; the input reads as it did. -/
def eventKnownSpec : ChangeSpec := { name := "eventKnown", fn := fun _ => fun
  | [] => { results := [.lit (.bool true)], args := [] }
  | _ => none }
def eventKnownRow : OpenClaim := { program := "ytcfgagpjdhhddaa", sum := "5e93afc9a2dbf66696aa6d22811453c2a130a8d8effef80448d3cd9c07dea0c7", func := "almonry/almonrylaw30.EventKnown", spec := "eventKnown", unfollowed := true, recurses := true, apart := false }
def EventKnownSaid : Prop := eventKnownRow.holds Try.pinned (OpenSpec.ofChange eventKnownSpec)

/-- ITS FALSE NEIGHBOUR: 'it returns false'. Refute it at one input. -/
def eventKnownWrong : ChangeSpec := { name := "eventKnown", fn := fun _ => fun
  | [] => { results := [.lit (.bool false)], args := [] }
  | _ => none }
def EventKnownWrongFalsely : Prop := eventKnownRow.holds Try.pinned (OpenSpec.ofChange eventKnownWrong)

/-- 'almonrylaw30.EventOnce': WHATEVER THE INPUT: true; the input reads as it did. -/
def eventOnceSpec : ChangeSpec := { name := "eventOnce", fn := fun _ => fun
  | [d1, d2] => { results := [.lit (.bool true)], args := [d1, d2] }
  | _ => none }
def eventOnceRow : OpenClaim := { program := "ytcfgagpjdhhddaa", sum := "5e93afc9a2dbf66696aa6d22811453c2a130a8d8effef80448d3cd9c07dea0c7", func := "almonry/almonrylaw30.EventOnce", spec := "eventOnce", unfollowed := true, recurses := true, apart := false }
def EventOnceSaid : Prop := eventOnceRow.holds Try.pinned (OpenSpec.ofChange eventOnceSpec)

/-- ITS FALSE NEIGHBOUR: 'it returns false'. Refute it at one input. -/
def eventOnceWrong : ChangeSpec := { name := "eventOnce", fn := fun _ => fun
  | [d1, d2] => { results := [.lit (.bool false)], args := [d1, d2] }
  | _ => none }
def EventOnceWrongFalsely : Prop := eventOnceRow.holds Try.pinned (OpenSpec.ofChange eventOnceWrong)

/- THE SECOND FORM. 'bulk': how many values and letters a reading holds, each counted each time it is reached (what is shared counts as often as it is met; a slice's spare places count too). A statement '..UptoSaid' is the law's where the arguments, and the package variables that the reading takes, are together of bulk at most 1048576: NARROWER than '..Said'. Prove '..Said' where nothing that the law and all that it calls make is longer than what came in: it says more and counts as full. Else prove '..UptoSaid'. A law counts once. -/
mutual
def uptoBulk {H : Type} : DataW H → Nat
  | .lit (.string bytes) => bytes.length + 1
  | .lit _ => 1
  | .nil => 1
  | .ptr d => uptoBulk d + 1
  | .slice elems spare => uptoBulkAll elems + uptoBulkAll spare + 1
  | .agg parts => uptoBulkAll parts + 1
  | .iface _ d => uptoBulk d + 1
  | .map entries => uptoBulkEntries entries + 1
  | .held _ => 1
def uptoBulkAll {H : Type} : List (DataW H) → Nat
  | [] => 0
  | d :: r => uptoBulk d + uptoBulkAll r
def uptoBulkEntries {H : Type} : List (Lit × DataW H) → Nat
  | [] => 0
  | x :: r => uptoBulkEntry x + uptoBulkEntries r
def uptoBulkEntry {H : Type} : Lit × DataW H → Nat
  | (.string bytes, d) => bytes.length + uptoBulk d + 1
  | (_, d) => uptoBulk d + 1
 end
def uptoSmall : (H : Type) → List (DataW H) → Bool := fun _ ds => decide (uptoBulkAll ds ≤ 1048576)
def OpenSpec.upto (s : _root_.Go.ChangeSpec) : _root_.Go.OpenSpec := { _root_.Go.OpenSpec.ofChange s with cond := some uptoSmall }

/-- 'almonrylaw30.EventParses', WHERE WHAT IT READS IS OF BULK AT MOST 1048576: true; the input reads as it did. -/
def eventParsesUptoRow : OpenClaim := { program := "ytcfgagpjdhhddaa", sum := "5e93afc9a2dbf66696aa6d22811453c2a130a8d8effef80448d3cd9c07dea0c7", func := "almonry/almonrylaw30.EventParses", spec := "eventParses", unfollowed := true, recurses := true, apart := false, narrowed := true }
def EventParsesUptoSaid : Prop := eventParsesUptoRow.holds Try.pinned (OpenSpec.upto eventParsesSpec)

/-- 'almonrylaw30.EventEach', WHERE WHAT IT READS IS OF BULK AT MOST 1048576: true; the input reads as it did. -/
def eventEachUptoRow : OpenClaim := { program := "ytcfgagpjdhhddaa", sum := "5e93afc9a2dbf66696aa6d22811453c2a130a8d8effef80448d3cd9c07dea0c7", func := "almonry/almonrylaw30.EventEach", spec := "eventEach", unfollowed := true, recurses := true, apart := false, narrowed := true }
def EventEachUptoSaid : Prop := eventEachUptoRow.holds Try.pinned (OpenSpec.upto eventEachSpec)

/-- 'almonrylaw30.EventApart', WHERE WHAT IT READS IS OF BULK AT MOST 1048576: true; the input reads as it did. -/
def eventApartUptoRow : OpenClaim := { program := "ytcfgagpjdhhddaa", sum := "5e93afc9a2dbf66696aa6d22811453c2a130a8d8effef80448d3cd9c07dea0c7", func := "almonry/almonrylaw30.EventApart", spec := "eventApart", unfollowed := true, recurses := true, apart := false, narrowed := true }
def EventApartUptoSaid : Prop := eventApartUptoRow.holds Try.pinned (OpenSpec.upto eventApartSpec)

/-- 'almonrylaw30.EventGuests', WHERE WHAT IT READS IS OF BULK AT MOST 1048576: true; the input reads as it did. -/
def eventGuestsUptoRow : OpenClaim := { program := "ytcfgagpjdhhddaa", sum := "5e93afc9a2dbf66696aa6d22811453c2a130a8d8effef80448d3cd9c07dea0c7", func := "almonry/almonrylaw30.EventGuests", spec := "eventGuests", unfollowed := true, recurses := true, apart := false, narrowed := true }
def EventGuestsUptoSaid : Prop := eventGuestsUptoRow.holds Try.pinned (OpenSpec.upto eventGuestsSpec)

/-- 'almonrylaw30.EventTells', WHERE WHAT IT READS IS OF BULK AT MOST 1048576: true; the input reads as it did. -/
def eventTellsUptoRow : OpenClaim := { program := "ytcfgagpjdhhddaa", sum := "5e93afc9a2dbf66696aa6d22811453c2a130a8d8effef80448d3cd9c07dea0c7", func := "almonry/almonrylaw30.EventTells", spec := "eventTells", unfollowed := true, recurses := true, apart := false, narrowed := true }
def EventTellsUptoSaid : Prop := eventTellsUptoRow.holds Try.pinned (OpenSpec.upto eventTellsSpec)

/-- 'almonrylaw30.EventKnown', WHERE WHAT IT READS IS OF BULK AT MOST 1048576: true; the input reads as it did. -/
def eventKnownUptoRow : OpenClaim := { program := "ytcfgagpjdhhddaa", sum := "5e93afc9a2dbf66696aa6d22811453c2a130a8d8effef80448d3cd9c07dea0c7", func := "almonry/almonrylaw30.EventKnown", spec := "eventKnown", unfollowed := true, recurses := true, apart := false, narrowed := true }
def EventKnownUptoSaid : Prop := eventKnownUptoRow.holds Try.pinned (OpenSpec.upto eventKnownSpec)

/-- 'almonrylaw30.EventOnce', WHERE WHAT IT READS IS OF BULK AT MOST 1048576: true; the input reads as it did. -/
def eventOnceUptoRow : OpenClaim := { program := "ytcfgagpjdhhddaa", sum := "5e93afc9a2dbf66696aa6d22811453c2a130a8d8effef80448d3cd9c07dea0c7", func := "almonry/almonrylaw30.EventOnce", spec := "eventOnce", unfollowed := true, recurses := true, apart := false, narrowed := true }
def EventOnceUptoSaid : Prop := eventOnceUptoRow.holds Try.pinned (OpenSpec.upto eventOnceSpec)

end Rows
end Go.Proofs.Ytcfgagpjdhhddaa
