/-
  No cell of these rows narrows 'for every input' (looked for: loops, veiled, ifaces, maps, wideKeys, modest, calm, conditions, laid).
  DERIVED. THE GIVEN ROWS OF THIS SEAT. 3 by the template 'for every input the law returns true; each argument reads behind the call as it read before'; 0 by the template 'total and deterministic' (their statements: YtmlpcnpkidmlhaaTotals.lean).
  GIVEN WITH THE SEED: the statements are not yours to turn. If you find one false, say at which input.
  Laid BY PROGRAM, IN A SANDBOX (cutbox-rows.mjs): the forced cells as the released guide's own fill.sh prints them over the translation 7acd56994e7f6391… (all of the seat's roots in one cut). By AI agents, Wed Nov 11 2026. No macro, syntax, notation, axiom, sorry.
-/
import Derived.Test.YtmlpcnpkidmlhaaChecked
import GoSem.Claim
import GoSem.ClaimJoined
import GoSem.ClaimMapViews
import Derived.JoinedTies
import Derived.KernelRfl
namespace Go.Proofs.Ytmlpcnpkidmlhaa
/- THE CELL 'sum', in the pinned program and in every row, IS THE sha256 OF THE DUMP (.gsa) THAT YtmlpcnpkidmlhaaProg.lean LOADS. Nothing in Lean hashes anything: it is a label: what it is worth is what the hold of that sum in a sandbox is worth. -/
noncomputable def Try.pinned : Pinned := { name := "ytmlpcnpkidmlhaa", sum := "7acd56994e7f63912eb57e945b8424d7ec439979c3c1922fd934d7e8b12274d6", checked := Try.checked }
namespace Rows
def none {H : Type} : Left H := { results := [], args := [] }

/-- 'almonrylaw12.TlbPlaces': WHATEVER THE INPUT: true; the input reads as it did. -/
def tlbPlacesSpec : ChangeSpec := { name := "tlbPlaces", fn := fun _ => fun
  | [d1, d2] => { results := [.lit (.bool true)], args := [d1, d2] }
  | _ => none }
def tlbPlacesRow : OpenClaim := { program := "ytmlpcnpkidmlhaa", sum := "7acd56994e7f63912eb57e945b8424d7ec439979c3c1922fd934d7e8b12274d6", func := "almonry/almonrylaw12.TlbPlaces", spec := "tlbPlaces", unfollowed := true, recurses := true, apart := false }
def TlbPlacesSaid : Prop := tlbPlacesRow.holds Try.pinned (OpenSpec.ofChange tlbPlacesSpec)

/-- ITS FALSE NEIGHBOUR: 'it returns false'. Refute it at one input. -/
def tlbPlacesWrong : ChangeSpec := { name := "tlbPlaces", fn := fun _ => fun
  | [d1, d2] => { results := [.lit (.bool false)], args := [d1, d2] }
  | _ => none }
def TlbPlacesWrongFalsely : Prop := tlbPlacesRow.holds Try.pinned (OpenSpec.ofChange tlbPlacesWrong)

/-- 'almonrylaw12.TlbLeads': WHATEVER THE INPUT: true; the input reads as it did. -/
def tlbLeadsSpec : ChangeSpec := { name := "tlbLeads", fn := fun _ => fun
  | [d1, d2, d3] => { results := [.lit (.bool true)], args := [d1, d2, d3] }
  | _ => none }
def tlbLeadsRow : OpenClaim := { program := "ytmlpcnpkidmlhaa", sum := "7acd56994e7f63912eb57e945b8424d7ec439979c3c1922fd934d7e8b12274d6", func := "almonry/almonrylaw12.TlbLeads", spec := "tlbLeads", unfollowed := true, recurses := true, apart := false }
def TlbLeadsSaid : Prop := tlbLeadsRow.holds Try.pinned (OpenSpec.ofChange tlbLeadsSpec)

/-- ITS FALSE NEIGHBOUR: 'it returns false'. Refute it at one input. -/
def tlbLeadsWrong : ChangeSpec := { name := "tlbLeads", fn := fun _ => fun
  | [d1, d2, d3] => { results := [.lit (.bool false)], args := [d1, d2, d3] }
  | _ => none }
def TlbLeadsWrongFalsely : Prop := tlbLeadsRow.holds Try.pinned (OpenSpec.ofChange tlbLeadsWrong)

/-- 'almonrylaw12.TlbKnown': WHATEVER THE INPUT: true; the input reads as it did. -/
def tlbKnownSpec : ChangeSpec := { name := "tlbKnown", fn := fun _ => fun
  | [] => { results := [.lit (.bool true)], args := [] }
  | _ => none }
def tlbKnownRow : OpenClaim := { program := "ytmlpcnpkidmlhaa", sum := "7acd56994e7f63912eb57e945b8424d7ec439979c3c1922fd934d7e8b12274d6", func := "almonry/almonrylaw12.TlbKnown", spec := "tlbKnown", unfollowed := true, recurses := true, apart := false }
def TlbKnownSaid : Prop := tlbKnownRow.holds Try.pinned (OpenSpec.ofChange tlbKnownSpec)

/-- ITS FALSE NEIGHBOUR: 'it returns false'. Refute it at one input. -/
def tlbKnownWrong : ChangeSpec := { name := "tlbKnown", fn := fun _ => fun
  | [] => { results := [.lit (.bool false)], args := [] }
  | _ => none }
def TlbKnownWrongFalsely : Prop := tlbKnownRow.holds Try.pinned (OpenSpec.ofChange tlbKnownWrong)

/- THE SECOND FORM. 'bulk': how many values and letters a reading holds, each counted each time it is reached (what is shared counts as often as it is met; a slice's spare places count too). A statement '..UptoSaid' is the law's where the arguments, and the package variables that the reading takes, are together of bulk at most 1048576: NARROWER than '..Said'. Prove '..Said' where nothing that the law and all that it calls make is longer than what came in: it says more and counts as full. Else prove '..UptoSaid'. A law counts once. -/
mutual
def uptoBulk {H : Type} : DataW H → Nat
  | .lit (.string bytes) => bytes.length + 1
  | .lit _ => 1
  | .nil => 1
  | .ptr d => uptoBulk d + 1
  | .slice elems spare => uptoBulkAll elems + uptoBulkAll spare + 1
  | .agg parts => uptoBulkAll parts + 1
  | .iface _ d => uptoBulk d + 1
  | .map entries => uptoBulkEntries entries + 1
  | .held _ => 1
def uptoBulkAll {H : Type} : List (DataW H) → Nat
  | [] => 0
  | d :: r => uptoBulk d + uptoBulkAll r
def uptoBulkEntries {H : Type} : List (Lit × DataW H) → Nat
  | [] => 0
  | x :: r => uptoBulkEntry x + uptoBulkEntries r
def uptoBulkEntry {H : Type} : Lit × DataW H → Nat
  | (.string bytes, d) => bytes.length + uptoBulk d + 1
  | (_, d) => uptoBulk d + 1
 end
def uptoSmall : (H : Type) → List (DataW H) → Bool := fun _ ds => decide (uptoBulkAll ds ≤ 1048576)
def OpenSpec.upto (s : _root_.Go.ChangeSpec) : _root_.Go.OpenSpec := { _root_.Go.OpenSpec.ofChange s with cond := some uptoSmall }

/-- 'almonrylaw12.TlbPlaces', WHERE WHAT IT READS IS OF BULK AT MOST 1048576: true; the input reads as it did. -/
def tlbPlacesUptoRow : OpenClaim := { program := "ytmlpcnpkidmlhaa", sum := "7acd56994e7f63912eb57e945b8424d7ec439979c3c1922fd934d7e8b12274d6", func := "almonry/almonrylaw12.TlbPlaces", spec := "tlbPlaces", unfollowed := true, recurses := true, apart := false, narrowed := true }
def TlbPlacesUptoSaid : Prop := tlbPlacesUptoRow.holds Try.pinned (OpenSpec.upto tlbPlacesSpec)

/-- 'almonrylaw12.TlbLeads', WHERE WHAT IT READS IS OF BULK AT MOST 1048576: true; the input reads as it did. -/
def tlbLeadsUptoRow : OpenClaim := { program := "ytmlpcnpkidmlhaa", sum := "7acd56994e7f63912eb57e945b8424d7ec439979c3c1922fd934d7e8b12274d6", func := "almonry/almonrylaw12.TlbLeads", spec := "tlbLeads", unfollowed := true, recurses := true, apart := false, narrowed := true }
def TlbLeadsUptoSaid : Prop := tlbLeadsUptoRow.holds Try.pinned (OpenSpec.upto tlbLeadsSpec)

/-- 'almonrylaw12.TlbKnown', WHERE WHAT IT READS IS OF BULK AT MOST 1048576: true; the input reads as it did. -/
def tlbKnownUptoRow : OpenClaim := { program := "ytmlpcnpkidmlhaa", sum := "7acd56994e7f63912eb57e945b8424d7ec439979c3c1922fd934d7e8b12274d6", func := "almonry/almonrylaw12.TlbKnown", spec := "tlbKnown", unfollowed := true, recurses := true, apart := false, narrowed := true }
def TlbKnownUptoSaid : Prop := tlbKnownUptoRow.holds Try.pinned (OpenSpec.upto tlbKnownSpec)

end Rows
end Go.Proofs.Ytmlpcnpkidmlhaa
