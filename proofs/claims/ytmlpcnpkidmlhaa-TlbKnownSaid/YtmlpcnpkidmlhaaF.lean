/-
  What stands where in the types of this program: each by reckoning.
-/
import Derived.Test.YtmlpcnpkidmlhaaProg
import Derived.Test.YtmlpcnpkidmlhaaM20
import Derived.KernelRfl
set_option linter.unusedSimpArgs false
set_option linter.unusedVariables false
set_option linter.unusedSectionVars false
namespace Go.Proofs.Ytmlpcnpkidmlhaa
open Go Go.Mini Go.Proofs.Try

/-- So many times the same. -/
def repV (n : Nat) (v : Value) : Array Value := (List.replicate n v).toArray
theorem mixed : prog.follows .mixedOrders = true := by kernel_rfl
@[simp] theorem aggSz_22 : aggSz prog 22 = some none := by kernel_rfl
@[simp] theorem aggSz_25 : aggSz prog 25 = some (some 8) := by kernel_rfl
@[simp] theorem aggSz_28 : aggSz prog 28 = some (some 8) := by kernel_rfl
@[simp] theorem aggSz_3 : aggSz prog 3 = some none := by kernel_rfl
@[simp] theorem aggSz_4 : aggSz prog 4 = some none := by kernel_rfl
@[simp] theorem aggSz_42 : aggSz prog 42 = some none := by kernel_rfl
@[simp] theorem aggSz_50 : aggSz prog 50 = some (some 2) := by kernel_rfl
@[simp] theorem apInfo_42_42 : apInfo prog #[42, 42] = some (8, 64) := by kernel_rfl
@[simp] theorem elInfo_42 : elInfo prog 42 = some (8, 64, #[Value.int IntKind.u64 0, Value.int IntKind.u64 0, Value.int IntKind.u64 0, Value.int IntKind.i64 0, Value.int IntKind.u64 0, Value.int IntKind.u64 0, Value.int IntKind.u64 0, Value.int IntKind.i64 0]) := by kernel_rfl
@[simp] theorem eqPl_25 : eqPl prog 8 25 = some [(0, 0), (1, 0), (2, 0), (3, 0), (4, 0), (5, 0), (6, 0), (7, 0)] := by kernel_rfl
@[simp] theorem eqPl_50 : eqPl prog 8 50 = some [(0, 0), (1, 0)] := by kernel_rfl
@[simp] theorem fldOff_25_0 : fldOff prog 25 0 = some 0 := by kernel_rfl
@[simp] theorem fldOff_25_1 : fldOff prog 25 1 = some 1 := by kernel_rfl
@[simp] theorem fldOff_25_2 : fldOff prog 25 2 = some 2 := by kernel_rfl
@[simp] theorem fldOff_25_3 : fldOff prog 25 3 = some 3 := by kernel_rfl
@[simp] theorem fldOff_25_4 : fldOff prog 25 4 = some 4 := by kernel_rfl
@[simp] theorem fldOff_25_5 : fldOff prog 25 5 = some 7 := by kernel_rfl
@[simp] theorem fldOff_28_2 : fldOff prog 28 2 = some 2 := by kernel_rfl
@[simp] theorem fldOff_28_3 : fldOff prog 28 3 = some 3 := by kernel_rfl
@[simp] theorem fldOff_28_5 : fldOff prog 28 5 = some 7 := by kernel_rfl
@[simp] theorem fldOff_46_0 : fldOff prog 46 0 = some 0 := by kernel_rfl
@[simp] theorem fldOff_46_1 : fldOff prog 46 1 = some 1 := by kernel_rfl
@[simp] theorem isStr_23 : isStr prog 23 = false := by kernel_rfl
@[simp] theorem isStr_42 : isStr prog 42 = false := by kernel_rfl
@[simp] theorem ixInfo_23 : ixInfo prog 23 = some (some 3, 1, none) := by kernel_rfl
@[simp] theorem ixInfo_42 : ixInfo prog 42 = some (none, 8, some 8) := by kernel_rfl
@[simp] theorem ixInfo_58 : ixInfo prog 58 = some (none, 1, none) := by kernel_rfl
@[simp] theorem lenK_42 : lenK prog 42 = LenK.slice := by kernel_rfl
@[simp] theorem lenK_58 : lenK prog 58 = LenK.slice := by kernel_rfl
@[simp] theorem plc_23 : plc prog 23 = Plc.arr 1 := by kernel_rfl
@[simp] theorem plc_25 : plc prog 25 = Plc.st #[(0, 1), (1, 1), (2, 1), (3, 1), (4, 3), (7, 1)] := by kernel_rfl
@[simp] theorem plc_46 : plc prog 46 = Plc.st #[(0, 1), (1, 1)] := by kernel_rfl
@[simp] theorem plc_50 : plc prog 50 = Plc.st #[(0, 1), (1, 1)] := by kernel_rfl
@[simp] theorem szOf_22 : szOf prog 22 = some 1 := by kernel_rfl
@[simp] theorem szOf_25 : szOf prog 25 = some 8 := by kernel_rfl
@[simp] theorem szOf_3 : szOf prog 3 = some 1 := by kernel_rfl
@[simp] theorem szOf_42 : szOf prog 42 = some 1 := by kernel_rfl
@[simp] theorem szOf_50 : szOf prog 50 = some 2 := by kernel_rfl
@[simp] theorem zeroOf_23 : zeroOf prog 23 = some #[Value.int IntKind.u64 0, Value.int IntKind.u64 0, Value.int IntKind.u64 0] := by kernel_rfl
@[simp] theorem zeroOf_25 : zeroOf prog 25 = some #[Value.int IntKind.u64 0, Value.int IntKind.u64 0, Value.int IntKind.u64 0, Value.int IntKind.i64 0, Value.int IntKind.u64 0, Value.int IntKind.u64 0, Value.int IntKind.u64 0, Value.int IntKind.i64 0] := by kernel_rfl
@[simp] theorem zeroOf_46 : zeroOf prog 46 = some #[Value.bool false, Value.slice none 0 0] := by kernel_rfl
@[simp] theorem zeroOf_50 : zeroOf prog 50 = some #[Value.int IntKind.u64 0, Value.int IntKind.u64 0] := by kernel_rfl
@[simp] theorem eqGT_25 : eqGT prog 25 = false := by kernel_rfl
@[simp] theorem eqGT_50 : eqGT prog 50 = false := by kernel_rfl

end Go.Proofs.Ytmlpcnpkidmlhaa
