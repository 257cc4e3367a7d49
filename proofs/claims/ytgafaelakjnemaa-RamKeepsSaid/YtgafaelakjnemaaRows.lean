/-
  No cell of these rows narrows 'for every input' (looked for: loops, veiled, ifaces, maps, wideKeys, modest, calm, conditions, laid).
  DERIVED. THE GIVEN ROWS OF THIS SEAT. 5 by the template 'for every input the law returns true; each argument reads behind the call as it read before'; 0 by the template 'total and deterministic' (their statements: YtgafaelakjnemaaTotals.lean).
  GIVEN WITH THE SEED: the statements are not yours to turn. If you find one false, say at which input.
  Laid BY PROGRAM, IN A SANDBOX (cutbox-rows.mjs): the forced cells as the released guide's own fill.sh prints them over the translation 04b7d5585188c1f8… (all of the seat's roots in one cut). By AI agents, Wed Nov 11 2026. No macro, syntax, notation, axiom, sorry.
-/
import Derived.Test.YtgafaelakjnemaaChecked
import GoSem.Claim
import GoSem.ClaimJoined
import GoSem.ClaimMapViews
import Derived.JoinedTies
import Derived.KernelRfl
namespace Go.Proofs.Ytgafaelakjnemaa
/- THE CELL 'sum', in the pinned program and in every row, IS THE sha256 OF THE DUMP (.gsa) THAT YtgafaelakjnemaaProg.lean LOADS. Nothing in Lean hashes anything: it is a label: what it is worth is what the hold of that sum in a sandbox is worth. -/
noncomputable def Try.pinned : Pinned := { name := "ytgafaelakjnemaa", sum := "04b7d5585188c1f8cdd22a6a339bf0a4d4ba71eacfb42f8e9b4ad0a2919f06c3", checked := Try.checked }
namespace Rows
def none {H : Type} : Left H := { results := [], args := [] }

/-- 'almonrylaw06.RamHolds': WHATEVER THE INPUT: true; the input reads as it did. -/
def ramHoldsSpec : ChangeSpec := { name := "ramHolds", fn := fun _ => fun
  | [d1, d2, d3] => { results := [.lit (.bool true)], args := [d1, d2, d3] }
  | _ => none }
def ramHoldsRow : OpenClaim := { program := "ytgafaelakjnemaa", sum := "04b7d5585188c1f8cdd22a6a339bf0a4d4ba71eacfb42f8e9b4ad0a2919f06c3", func := "almonry/almonrylaw06.RamHolds", spec := "ramHolds", apart := false }
def RamHoldsSaid : Prop := ramHoldsRow.holds Try.pinned (OpenSpec.ofChange ramHoldsSpec)

/-- ITS FALSE NEIGHBOUR: 'it returns false'. Refute it at one input. -/
def ramHoldsWrong : ChangeSpec := { name := "ramHolds", fn := fun _ => fun
  | [d1, d2, d3] => { results := [.lit (.bool false)], args := [d1, d2, d3] }
  | _ => none }
def RamHoldsWrongFalsely : Prop := ramHoldsRow.holds Try.pinned (OpenSpec.ofChange ramHoldsWrong)

/-- 'almonrylaw06.RamPlays': WHATEVER THE INPUT: true; the input reads as it did. -/
def ramPlaysSpec : ChangeSpec := { name := "ramPlays", fn := fun _ => fun
  | [d1, d2] => { results := [.lit (.bool true)], args := [d1, d2] }
  | _ => none }
def ramPlaysRow : OpenClaim := { program := "ytgafaelakjnemaa", sum := "04b7d5585188c1f8cdd22a6a339bf0a4d4ba71eacfb42f8e9b4ad0a2919f06c3", func := "almonry/almonrylaw06.RamPlays", spec := "ramPlays", apart := false }
def RamPlaysSaid : Prop := ramPlaysRow.holds Try.pinned (OpenSpec.ofChange ramPlaysSpec)

/-- ITS FALSE NEIGHBOUR: 'it returns false'. Refute it at one input. -/
def ramPlaysWrong : ChangeSpec := { name := "ramPlays", fn := fun _ => fun
  | [d1, d2] => { results := [.lit (.bool false)], args := [d1, d2] }
  | _ => none }
def RamPlaysWrongFalsely : Prop := ramPlaysRow.holds Try.pinned (OpenSpec.ofChange ramPlaysWrong)

/-- 'almonrylaw06.RamSame': WHATEVER THE INPUT: true; the input reads as it did. -/
def ramSameSpec : ChangeSpec := { name := "ramSame", fn := fun _ => fun
  | [d1, d2, d3] => { results := [.lit (.bool true)], args := [d1, d2, d3] }
  | _ => none }
def ramSameRow : OpenClaim := { program := "ytgafaelakjnemaa", sum := "04b7d5585188c1f8cdd22a6a339bf0a4d4ba71eacfb42f8e9b4ad0a2919f06c3", func := "almonry/almonrylaw06.RamSame", spec := "ramSame", apart := false }
def RamSameSaid : Prop := ramSameRow.holds Try.pinned (OpenSpec.ofChange ramSameSpec)

/-- ITS FALSE NEIGHBOUR: 'it returns false'. Refute it at one input. -/
def ramSameWrong : ChangeSpec := { name := "ramSame", fn := fun _ => fun
  | [d1, d2, d3] => { results := [.lit (.bool false)], args := [d1, d2, d3] }
  | _ => none }
def RamSameWrongFalsely : Prop := ramSameRow.holds Try.pinned (OpenSpec.ofChange ramSameWrong)

/-- 'almonrylaw06.RamKnown': WHATEVER THE INPUT: true; the input reads as it did. -/
def ramKnownSpec : ChangeSpec := { name := "ramKnown", fn := fun _ => fun
  | [] => { results := [.lit (.bool true)], args := [] }
  | _ => none }
def ramKnownRow : OpenClaim := { program := "ytgafaelakjnemaa", sum := "04b7d5585188c1f8cdd22a6a339bf0a4d4ba71eacfb42f8e9b4ad0a2919f06c3", func := "almonry/almonrylaw06.RamKnown", spec := "ramKnown", apart := false }
def RamKnownSaid : Prop := ramKnownRow.holds Try.pinned (OpenSpec.ofChange ramKnownSpec)

/-- ITS FALSE NEIGHBOUR: 'it returns false'. Refute it at one input. -/
def ramKnownWrong : ChangeSpec := { name := "ramKnown", fn := fun _ => fun
  | [] => { results := [.lit (.bool false)], args := [] }
  | _ => none }
def RamKnownWrongFalsely : Prop := ramKnownRow.holds Try.pinned (OpenSpec.ofChange ramKnownWrong)

/-- 'almonrylaw06.RamKeeps': WHATEVER THE INPUT: true; the input reads as it did. -/
def ramKeepsSpec : ChangeSpec := { name := "ramKeeps", fn := fun _ => fun
  | [d1, d2] => { results := [.lit (.bool true)], args := [d1, d2] }
  | _ => none }
def ramKeepsRow : OpenClaim := { program := "ytgafaelakjnemaa", sum := "04b7d5585188c1f8cdd22a6a339bf0a4d4ba71eacfb42f8e9b4ad0a2919f06c3", func := "almonry/almonrylaw06.RamKeeps", spec := "ramKeeps", inPlace := ["internal/abi.NoEscape", "internal/bytealg.MakeNoZero"], apart := false }
def RamKeepsSaid : Prop := ramKeepsRow.holds Try.pinned (OpenSpec.ofChange ramKeepsSpec)

/-- ITS FALSE NEIGHBOUR: 'it returns false'. Refute it at one input. -/
def ramKeepsWrong : ChangeSpec := { name := "ramKeeps", fn := fun _ => fun
  | [d1, d2] => { results := [.lit (.bool false)], args := [d1, d2] }
  | _ => none }
def RamKeepsWrongFalsely : Prop := ramKeepsRow.holds Try.pinned (OpenSpec.ofChange ramKeepsWrong)

/- THE SECOND FORM. 'bulk': how many values and letters a reading holds, each counted each time it is reached (what is shared counts as often as it is met; a slice's spare places count too). A statement '..UptoSaid' is the law's where the arguments, and the package variables that the reading takes, are together of bulk at most 1048576: NARROWER than '..Said'. Prove '..Said' where nothing that the law and all that it calls make is longer than what came in: it says more and counts as full. Else prove '..UptoSaid'. A law counts once. -/
mutual
def uptoBulk {H : Type} : DataW H → Nat
  | .lit (.string bytes) => bytes.length + 1
  | .lit _ => 1
  | .nil => 1
  | .ptr d => uptoBulk d + 1
  | .slice elems spare => uptoBulkAll elems + uptoBulkAll spare + 1
  | .agg parts => uptoBulkAll parts + 1
  | .iface _ d => uptoBulk d + 1
  | .map entries => uptoBulkEntries entries + 1
  | .held _ => 1
def uptoBulkAll {H : Type} : List (DataW H) → Nat
  | [] => 0
  | d :: r => uptoBulk d + uptoBulkAll r
def uptoBulkEntries {H : Type} : List (Lit × DataW H) → Nat
  | [] => 0
  | x :: r => uptoBulkEntry x + uptoBulkEntries r
def uptoBulkEntry {H : Type} : Lit × DataW H → Nat
  | (.string bytes, d) => bytes.length + uptoBulk d + 1
  | (_, d) => uptoBulk d + 1
 end
def uptoSmall : (H : Type) → List (DataW H) → Bool := fun _ ds => decide (uptoBulkAll ds ≤ 1048576)
def OpenSpec.upto (s : _root_.Go.ChangeSpec) : _root_.Go.OpenSpec := { _root_.Go.OpenSpec.ofChange s with cond := some uptoSmall }

/-- 'almonrylaw06.RamHolds', WHERE WHAT IT READS IS OF BULK AT MOST 1048576: true; the input reads as it did. -/
def ramHoldsUptoRow : OpenClaim := { program := "ytgafaelakjnemaa", sum := "04b7d5585188c1f8cdd22a6a339bf0a4d4ba71eacfb42f8e9b4ad0a2919f06c3", func := "almonry/almonrylaw06.RamHolds", spec := "ramHolds", apart := false, narrowed := true }
def RamHoldsUptoSaid : Prop := ramHoldsUptoRow.holds Try.pinned (OpenSpec.upto ramHoldsSpec)

/-- 'almonrylaw06.RamPlays', WHERE WHAT IT READS IS OF BULK AT MOST 1048576: true; the input reads as it did. -/
def ramPlaysUptoRow : OpenClaim := { program := "ytgafaelakjnemaa", sum := "04b7d5585188c1f8cdd22a6a339bf0a4d4ba71eacfb42f8e9b4ad0a2919f06c3", func := "almonry/almonrylaw06.RamPlays", spec := "ramPlays", apart := false, narrowed := true }
def RamPlaysUptoSaid : Prop := ramPlaysUptoRow.holds Try.pinned (OpenSpec.upto ramPlaysSpec)

/-- 'almonrylaw06.RamSame', WHERE WHAT IT READS IS OF BULK AT MOST 1048576: true; the input reads as it did. -/
def ramSameUptoRow : OpenClaim := { program := "ytgafaelakjnemaa", sum := "04b7d5585188c1f8cdd22a6a339bf0a4d4ba71eacfb42f8e9b4ad0a2919f06c3", func := "almonry/almonrylaw06.RamSame", spec := "ramSame", apart := false, narrowed := true }
def RamSameUptoSaid : Prop := ramSameUptoRow.holds Try.pinned (OpenSpec.upto ramSameSpec)

/-- 'almonrylaw06.RamKnown', WHERE WHAT IT READS IS OF BULK AT MOST 1048576: true; the input reads as it did. -/
def ramKnownUptoRow : OpenClaim := { program := "ytgafaelakjnemaa", sum := "04b7d5585188c1f8cdd22a6a339bf0a4d4ba71eacfb42f8e9b4ad0a2919f06c3", func := "almonry/almonrylaw06.RamKnown", spec := "ramKnown", apart := false, narrowed := true }
def RamKnownUptoSaid : Prop := ramKnownUptoRow.holds Try.pinned (OpenSpec.upto ramKnownSpec)

/-- 'almonrylaw06.RamKeeps', WHERE WHAT IT READS IS OF BULK AT MOST 1048576: true; the input reads as it did. -/
def ramKeepsUptoRow : OpenClaim := { program := "ytgafaelakjnemaa", sum := "04b7d5585188c1f8cdd22a6a339bf0a4d4ba71eacfb42f8e9b4ad0a2919f06c3", func := "almonry/almonrylaw06.RamKeeps", spec := "ramKeeps", inPlace := ["internal/abi.NoEscape", "internal/bytealg.MakeNoZero"], apart := false, narrowed := true }
def RamKeepsUptoSaid : Prop := ramKeepsUptoRow.holds Try.pinned (OpenSpec.upto ramKeepsSpec)

end Rows
end Go.Proofs.Ytgafaelakjnemaa
