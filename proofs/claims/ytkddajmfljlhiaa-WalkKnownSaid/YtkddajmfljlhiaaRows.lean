/-
  No cell of these rows narrows 'for every input' (looked for: loops, veiled, ifaces, maps, wideKeys, modest, calm, conditions, laid).
  DERIVED. THE GIVEN ROWS OF THIS SEAT. 4 by the template 'for every input the law returns true; each argument reads behind the call as it read before'; 0 by the template 'total and deterministic' (their statements: YtkddajmfljlhiaaTotals.lean).
  GIVEN WITH THE SEED: the statements are not yours to turn. If you find one false, say at which input.
  Laid BY PROGRAM, IN A SANDBOX (cutbox-rows.mjs): the forced cells as the released guide's own fill.sh prints them over the translation bfbdffd1cae49db3… (all of the seat's roots in one cut). By AI agents, Wed Nov 11 2026. No macro, syntax, notation, axiom, sorry.
-/
import Derived.Test.YtkddajmfljlhiaaChecked
import GoSem.Claim
import GoSem.ClaimJoined
import GoSem.ClaimMapViews
import Derived.JoinedTies
import Derived.KernelRfl
namespace Go.Proofs.Ytkddajmfljlhiaa
/- THE CELL 'sum', in the pinned program and in every row, IS THE sha256 OF THE DUMP (.gsa) THAT YtkddajmfljlhiaaProg.lean LOADS. Nothing in Lean hashes anything: it is a label: what it is worth is what the hold of that sum in a sandbox is worth. -/
noncomputable def Try.pinned : Pinned := { name := "ytkddajmfljlhiaa", sum := "bfbdffd1cae49db35e0f427837375e997cf0646f1e610fca97df7edc185be1c7", checked := Try.checked }
namespace Rows
def none {H : Type} : Left H := { results := [], args := [] }

/-- 'almonrylaw11.WalkTells': WHATEVER THE INPUT: true; the input reads as it did. -/
def walkTellsSpec : ChangeSpec := { name := "walkTells", fn := fun _ => fun
  | [d1, d2, d3] => { results := [.lit (.bool true)], args := [d1, d2, d3] }
  | _ => none }
def walkTellsRow : OpenClaim := { program := "ytkddajmfljlhiaa", sum := "bfbdffd1cae49db35e0f427837375e997cf0646f1e610fca97df7edc185be1c7", func := "almonry/almonrylaw11.WalkTells", spec := "walkTells", unfollowed := true, recurses := true, apart := false }
def WalkTellsSaid : Prop := walkTellsRow.holds Try.pinned (OpenSpec.ofChange walkTellsSpec)

/-- ITS FALSE NEIGHBOUR: 'it returns false'. Refute it at one input. -/
def walkTellsWrong : ChangeSpec := { name := "walkTells", fn := fun _ => fun
  | [d1, d2, d3] => { results := [.lit (.bool false)], args := [d1, d2, d3] }
  | _ => none }
def WalkTellsWrongFalsely : Prop := walkTellsRow.holds Try.pinned (OpenSpec.ofChange walkTellsWrong)

/-- 'almonrylaw11.WalkKnown': WHATEVER THE INPUT: true; the input reads as it did. -/
def walkKnownSpec : ChangeSpec := { name := "walkKnown", fn := fun _ => fun
  | [] => { results := [.lit (.bool true)], args := [] }
  | _ => none }
def walkKnownRow : OpenClaim := { program := "ytkddajmfljlhiaa", sum := "bfbdffd1cae49db35e0f427837375e997cf0646f1e610fca97df7edc185be1c7", func := "almonry/almonrylaw11.WalkKnown", spec := "walkKnown", unfollowed := true, recurses := true, apart := false }
def WalkKnownSaid : Prop := walkKnownRow.holds Try.pinned (OpenSpec.ofChange walkKnownSpec)

/-- ITS FALSE NEIGHBOUR: 'it returns false'. Refute it at one input. -/
def walkKnownWrong : ChangeSpec := { name := "walkKnown", fn := fun _ => fun
  | [] => { results := [.lit (.bool false)], args := [] }
  | _ => none }
def WalkKnownWrongFalsely : Prop := walkKnownRow.holds Try.pinned (OpenSpec.ofChange walkKnownWrong)

/-- 'almonrylaw11.WalkAgain': WHATEVER THE INPUT: true; the input reads as it did. -/
def walkAgainSpec : ChangeSpec := { name := "walkAgain", fn := fun _ => fun
  | [d1, d2, d3] => { results := [.lit (.bool true)], args := [d1, d2, d3] }
  | _ => none }
def walkAgainRow : OpenClaim := { program := "ytkddajmfljlhiaa", sum := "bfbdffd1cae49db35e0f427837375e997cf0646f1e610fca97df7edc185be1c7", func := "almonry/almonrylaw11.WalkAgain", spec := "walkAgain", unfollowed := true, recurses := true, apart := false }
def WalkAgainSaid : Prop := walkAgainRow.holds Try.pinned (OpenSpec.ofChange walkAgainSpec)

/-- ITS FALSE NEIGHBOUR: 'it returns false'. Refute it at one input. -/
def walkAgainWrong : ChangeSpec := { name := "walkAgain", fn := fun _ => fun
  | [d1, d2, d3] => { results := [.lit (.bool false)], args := [d1, d2, d3] }
  | _ => none }
def WalkAgainWrongFalsely : Prop := walkAgainRow.holds Try.pinned (OpenSpec.ofChange walkAgainWrong)

/-- 'almonrylaw11.WalkWider': WHATEVER THE INPUT: true; the input reads as it did. -/
def walkWiderSpec : ChangeSpec := { name := "walkWider", fn := fun _ => fun
  | [d1, d2] => { results := [.lit (.bool true)], args := [d1, d2] }
  | _ => none }
def walkWiderRow : OpenClaim := { program := "ytkddajmfljlhiaa", sum := "bfbdffd1cae49db35e0f427837375e997cf0646f1e610fca97df7edc185be1c7", func := "almonry/almonrylaw11.WalkWider", spec := "walkWider", unfollowed := true, recurses := true, apart := false }
def WalkWiderSaid : Prop := walkWiderRow.holds Try.pinned (OpenSpec.ofChange walkWiderSpec)

/-- ITS FALSE NEIGHBOUR: 'it returns false'. Refute it at one input. -/
def walkWiderWrong : ChangeSpec := { name := "walkWider", fn := fun _ => fun
  | [d1, d2] => { results := [.lit (.bool false)], args := [d1, d2] }
  | _ => none }
def WalkWiderWrongFalsely : Prop := walkWiderRow.holds Try.pinned (OpenSpec.ofChange walkWiderWrong)

/- THE SECOND FORM. 'bulk': how many values and letters a reading holds, each counted each time it is reached (what is shared counts as often as it is met; a slice's spare places count too). A statement '..UptoSaid' is the law's where the arguments, and the package variables that the reading takes, are together of bulk at most 1048576: NARROWER than '..Said'. Prove '..Said' where nothing that the law and all that it calls make is longer than what came in: it says more and counts as full. Else prove '..UptoSaid'. A law counts once. -/
mutual
def uptoBulk {H : Type} : DataW H → Nat
  | .lit (.string bytes) => bytes.length + 1
  | .lit _ => 1
  | .nil => 1
  | .ptr d => uptoBulk d + 1
  | .slice elems spare => uptoBulkAll elems + uptoBulkAll spare + 1
  | .agg parts => uptoBulkAll parts + 1
  | .iface _ d => uptoBulk d + 1
  | .map entries => uptoBulkEntries entries + 1
  | .held _ => 1
def uptoBulkAll {H : Type} : List (DataW H) → Nat
  | [] => 0
  | d :: r => uptoBulk d + uptoBulkAll r
def uptoBulkEntries {H : Type} : List (Lit × DataW H) → Nat
  | [] => 0
  | x :: r => uptoBulkEntry x + uptoBulkEntries r
def uptoBulkEntry {H : Type} : Lit × DataW H → Nat
  | (.string bytes, d) => bytes.length + uptoBulk d + 1
  | (_, d) => uptoBulk d + 1
 end
def uptoSmall : (H : Type) → List (DataW H) → Bool := fun _ ds => decide (uptoBulkAll ds ≤ 1048576)
def OpenSpec.upto (s : _root_.Go.ChangeSpec) : _root_.Go.OpenSpec := { _root_.Go.OpenSpec.ofChange s with cond := some uptoSmall }

/-- 'almonrylaw11.WalkTells', WHERE WHAT IT READS IS OF BULK AT MOST 1048576: true; the input reads as it did. -/
def walkTellsUptoRow : OpenClaim := { program := "ytkddajmfljlhiaa", sum := "bfbdffd1cae49db35e0f427837375e997cf0646f1e610fca97df7edc185be1c7", func := "almonry/almonrylaw11.WalkTells", spec := "walkTells", unfollowed := true, recurses := true, apart := false, narrowed := true }
def WalkTellsUptoSaid : Prop := walkTellsUptoRow.holds Try.pinned (OpenSpec.upto walkTellsSpec)

/-- 'almonrylaw11.WalkKnown', WHERE WHAT IT READS IS OF BULK AT MOST 1048576: true; the input reads as it did. -/
def walkKnownUptoRow : OpenClaim := { program := "ytkddajmfljlhiaa", sum := "bfbdffd1cae49db35e0f427837375e997cf0646f1e610fca97df7edc185be1c7", func := "almonry/almonrylaw11.WalkKnown", spec := "walkKnown", unfollowed := true, recurses := true, apart := false, narrowed := true }
def WalkKnownUptoSaid : Prop := walkKnownUptoRow.holds Try.pinned (OpenSpec.upto walkKnownSpec)

/-- 'almonrylaw11.WalkAgain', WHERE WHAT IT READS IS OF BULK AT MOST 1048576: true; the input reads as it did. -/
def walkAgainUptoRow : OpenClaim := { program := "ytkddajmfljlhiaa", sum := "bfbdffd1cae49db35e0f427837375e997cf0646f1e610fca97df7edc185be1c7", func := "almonry/almonrylaw11.WalkAgain", spec := "walkAgain", unfollowed := true, recurses := true, apart := false, narrowed := true }
def WalkAgainUptoSaid : Prop := walkAgainUptoRow.holds Try.pinned (OpenSpec.upto walkAgainSpec)

/-- 'almonrylaw11.WalkWider', WHERE WHAT IT READS IS OF BULK AT MOST 1048576: true; the input reads as it did. -/
def walkWiderUptoRow : OpenClaim := { program := "ytkddajmfljlhiaa", sum := "bfbdffd1cae49db35e0f427837375e997cf0646f1e610fca97df7edc185be1c7", func := "almonry/almonrylaw11.WalkWider", spec := "walkWider", unfollowed := true, recurses := true, apart := false, narrowed := true }
def WalkWiderUptoSaid : Prop := walkWiderUptoRow.holds Try.pinned (OpenSpec.upto walkWiderSpec)

end Rows
end Go.Proofs.Ytkddajmfljlhiaa
