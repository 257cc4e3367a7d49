/-
  No cell of these rows narrows 'for every input' (looked for: loops, veiled, ifaces, maps, wideKeys, modest, calm, conditions, laid).
  DERIVED. THE GIVEN ROWS OF THIS SEAT. 3 by the template 'for every input the law returns true; each argument reads behind the call as it read before'; 0 by the template 'total and deterministic' (their statements: YtkbiadobkheafaaTotals.lean).
  GIVEN WITH THE SEED: the statements are not yours to turn. If you find one false, say at which input.
  Laid BY PROGRAM, IN A SANDBOX (cutbox-rows.mjs): the forced cells as the released guide's own fill.sh prints them over the translation 83fbb6103439efb2… (all of the seat's roots in one cut). By AI agents, Wed Nov 11 2026. No macro, syntax, notation, axiom, sorry.
-/
import Derived.Test.YtkbiadobkheafaaChecked
import GoSem.Claim
import GoSem.ClaimJoined
import GoSem.ClaimMapViews
import Derived.JoinedTies
import Derived.KernelRfl
namespace Go.Proofs.Ytkbiadobkheafaa
/- THE CELL 'sum', in the pinned program and in every row, IS THE sha256 OF THE DUMP (.gsa) THAT YtkbiadobkheafaaProg.lean LOADS. Nothing in Lean hashes anything: it is a label: what it is worth is what the hold of that sum in a sandbox is worth. -/
noncomputable def Try.pinned : Pinned := { name := "ytkbiadobkheafaa", sum := "83fbb6103439efb2b7d1680f23abe78966553b014cd42784f243265a35fb14a0", checked := Try.checked }
namespace Rows
def none {H : Type} : Left H := { results := [], args := [] }

/-- 'almonrylaw16.BlkMoves': WHATEVER THE INPUT: true; the input reads as it did. -/
def blkMovesSpec : ChangeSpec := { name := "blkMoves", fn := fun _ => fun
  | [d1, d2] => { results := [.lit (.bool true)], args := [d1, d2] }
  | _ => none }
def blkMovesRow : OpenClaim := { program := "ytkbiadobkheafaa", sum := "83fbb6103439efb2b7d1680f23abe78966553b014cd42784f243265a35fb14a0", func := "almonry/almonrylaw16.BlkMoves", spec := "blkMoves", inPlace := ["internal/abi.NoEscape", "internal/bytealg.MakeNoZero"], unfollowed := true, recurses := true, apart := false }
def BlkMovesSaid : Prop := blkMovesRow.holds Try.pinned (OpenSpec.ofChange blkMovesSpec)

/-- ITS FALSE NEIGHBOUR: 'it returns false'. Refute it at one input. -/
def blkMovesWrong : ChangeSpec := { name := "blkMoves", fn := fun _ => fun
  | [d1, d2] => { results := [.lit (.bool false)], args := [d1, d2] }
  | _ => none }
def BlkMovesWrongFalsely : Prop := blkMovesRow.holds Try.pinned (OpenSpec.ofChange blkMovesWrong)

/-- 'almonrylaw16.BlkEnds': WHATEVER THE INPUT: true; the input reads as it did. -/
def blkEndsSpec : ChangeSpec := { name := "blkEnds", fn := fun _ => fun
  | [d] => { results := [.lit (.bool true)], args := [d] }
  | _ => none }
def blkEndsRow : OpenClaim := { program := "ytkbiadobkheafaa", sum := "83fbb6103439efb2b7d1680f23abe78966553b014cd42784f243265a35fb14a0", func := "almonry/almonrylaw16.BlkEnds", spec := "blkEnds", inPlace := ["internal/abi.NoEscape", "internal/bytealg.MakeNoZero"], unfollowed := true, recurses := true, apart := false }
def BlkEndsSaid : Prop := blkEndsRow.holds Try.pinned (OpenSpec.ofChange blkEndsSpec)

/-- ITS FALSE NEIGHBOUR: 'it returns false'. Refute it at one input. -/
def blkEndsWrong : ChangeSpec := { name := "blkEnds", fn := fun _ => fun
  | [d] => { results := [.lit (.bool false)], args := [d] }
  | _ => none }
def BlkEndsWrongFalsely : Prop := blkEndsRow.holds Try.pinned (OpenSpec.ofChange blkEndsWrong)

/-- 'almonrylaw16.BlkSame': WHATEVER THE INPUT: true; the input reads as it did. -/
def blkSameSpec : ChangeSpec := { name := "blkSame", fn := fun _ => fun
  | [d1, d2] => { results := [.lit (.bool true)], args := [d1, d2] }
  | _ => none }
def blkSameRow : OpenClaim := { program := "ytkbiadobkheafaa", sum := "83fbb6103439efb2b7d1680f23abe78966553b014cd42784f243265a35fb14a0", func := "almonry/almonrylaw16.BlkSame", spec := "blkSame", inPlace := ["internal/abi.NoEscape", "internal/bytealg.MakeNoZero"], unfollowed := true, recurses := true, apart := false }
def BlkSameSaid : Prop := blkSameRow.holds Try.pinned (OpenSpec.ofChange blkSameSpec)

/-- ITS FALSE NEIGHBOUR: 'it returns false'. Refute it at one input. -/
def blkSameWrong : ChangeSpec := { name := "blkSame", fn := fun _ => fun
  | [d1, d2] => { results := [.lit (.bool false)], args := [d1, d2] }
  | _ => none }
def BlkSameWrongFalsely : Prop := blkSameRow.holds Try.pinned (OpenSpec.ofChange blkSameWrong)

/- THE SECOND FORM. 'bulk': how many values and letters a reading holds, each counted each time it is reached (what is shared counts as often as it is met; a slice's spare places count too). A statement '..UptoSaid' is the law's where the arguments, and the package variables that the reading takes, are together of bulk at most 1048576: NARROWER than '..Said'. Prove '..Said' where nothing that the law and all that it calls make is longer than what came in: it says more and counts as full. Else prove '..UptoSaid'. A law counts once. -/
mutual
def uptoBulk {H : Type} : DataW H → Nat
  | .lit (.string bytes) => bytes.length + 1
  | .lit _ => 1
  | .nil => 1
  | .ptr d => uptoBulk d + 1
  | .slice elems spare => uptoBulkAll elems + uptoBulkAll spare + 1
  | .agg parts => uptoBulkAll parts + 1
  | .iface _ d => uptoBulk d + 1
  | .map entries => uptoBulkEntries entries + 1
  | .held _ => 1
def uptoBulkAll {H : Type} : List (DataW H) → Nat
  | [] => 0
  | d :: r => uptoBulk d + uptoBulkAll r
def uptoBulkEntries {H : Type} : List (Lit × DataW H) → Nat
  | [] => 0
  | x :: r => uptoBulkEntry x + uptoBulkEntries r
def uptoBulkEntry {H : Type} : Lit × DataW H → Nat
  | (.string bytes, d) => bytes.length + uptoBulk d + 1
  | (_, d) => uptoBulk d + 1
 end
def uptoSmall : (H : Type) → List (DataW H) → Bool := fun _ ds => decide (uptoBulkAll ds ≤ 1048576)
def OpenSpec.upto (s : _root_.Go.ChangeSpec) : _root_.Go.OpenSpec := { _root_.Go.OpenSpec.ofChange s with cond := some uptoSmall }

/-- 'almonrylaw16.BlkMoves', WHERE WHAT IT READS IS OF BULK AT MOST 1048576: true; the input reads as it did. -/
def blkMovesUptoRow : OpenClaim := { program := "ytkbiadobkheafaa", sum := "83fbb6103439efb2b7d1680f23abe78966553b014cd42784f243265a35fb14a0", func := "almonry/almonrylaw16.BlkMoves", spec := "blkMoves", inPlace := ["internal/abi.NoEscape", "internal/bytealg.MakeNoZero"], unfollowed := true, recurses := true, apart := false, narrowed := true }
def BlkMovesUptoSaid : Prop := blkMovesUptoRow.holds Try.pinned (OpenSpec.upto blkMovesSpec)

/-- 'almonrylaw16.BlkEnds', WHERE WHAT IT READS IS OF BULK AT MOST 1048576: true; the input reads as it did. -/
def blkEndsUptoRow : OpenClaim := { program := "ytkbiadobkheafaa", sum := "83fbb6103439efb2b7d1680f23abe78966553b014cd42784f243265a35fb14a0", func := "almonry/almonrylaw16.BlkEnds", spec := "blkEnds", inPlace := ["internal/abi.NoEscape", "internal/bytealg.MakeNoZero"], unfollowed := true, recurses := true, apart := false, narrowed := true }
def BlkEndsUptoSaid : Prop := blkEndsUptoRow.holds Try.pinned (OpenSpec.upto blkEndsSpec)

/-- 'almonrylaw16.BlkSame', WHERE WHAT IT READS IS OF BULK AT MOST 1048576: true; the input reads as it did. -/
def blkSameUptoRow : OpenClaim := { program := "ytkbiadobkheafaa", sum := "83fbb6103439efb2b7d1680f23abe78966553b014cd42784f243265a35fb14a0", func := "almonry/almonrylaw16.BlkSame", spec := "blkSame", inPlace := ["internal/abi.NoEscape", "internal/bytealg.MakeNoZero"], unfollowed := true, recurses := true, apart := false, narrowed := true }
def BlkSameUptoSaid : Prop := blkSameUptoRow.holds Try.pinned (OpenSpec.upto blkSameSpec)

end Rows
end Go.Proofs.Ytkbiadobkheafaa
