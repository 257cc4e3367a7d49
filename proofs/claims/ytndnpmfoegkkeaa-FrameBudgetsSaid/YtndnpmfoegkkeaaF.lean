/-
  What stands where in the types of this program: each by reckoning.
-/
import Derived.Test.YtndnpmfoegkkeaaProg
import Derived.Test.YtndnpmfoegkkeaaM20
import Derived.KernelRfl
set_option linter.unusedSimpArgs false
set_option linter.unusedVariables false
set_option linter.unusedSectionVars false
namespace Go.Proofs.Ytndnpmfoegkkeaa
open Go Go.Mini Go.Proofs.Try

/-- So many times the same. -/
def repV (n : Nat) (v : Value) : Array Value := (List.replicate n v).toArray
theorem mixed : prog.follows .mixedOrders = true := by kernel_rfl
@[simp] theorem aggSz_22 : aggSz prog 22 = some none := by kernel_rfl
@[simp] theorem aggSz_24 : aggSz prog 24 = some none := by kernel_rfl
@[simp] theorem aggSz_31 : aggSz prog 31 = some none := by kernel_rfl
@[simp] theorem aggSz_4 : aggSz prog 4 = some none := by kernel_rfl
@[simp] theorem aggSz_45 : aggSz prog 45 = some none := by kernel_rfl
@[simp] theorem aggSz_48 : aggSz prog 48 = some none := by kernel_rfl
@[simp] theorem aggSz_5 : aggSz prog 5 = some none := by kernel_rfl
@[simp] theorem aggSz_50 : aggSz prog 50 = some (some 2) := by kernel_rfl
@[simp] theorem apInfo_22_22 : apInfo prog #[22, 22] = some (2, 4) := by kernel_rfl
@[simp] theorem apInfo_45_45 : apInfo prog #[45, 45] = some (1, 8) := by kernel_rfl
@[simp] theorem cvOf_3_31 : cvOf prog 3 31 = Cv.int IntKind.u64 := by kernel_rfl
@[simp] theorem cvOf_3_5 : cvOf prog 3 5 = Cv.int IntKind.u8 := by kernel_rfl
@[simp] theorem cvOf_48_3 : cvOf prog 48 3 = Cv.int IntKind.i64 := by kernel_rfl
@[simp] theorem cvOf_48_31 : cvOf prog 48 31 = Cv.int IntKind.u64 := by kernel_rfl
@[simp] theorem cvOf_5_3 : cvOf prog 5 3 = Cv.int IntKind.i64 := by kernel_rfl
@[simp] theorem elInfo_22 : elInfo prog 22 = some (2, 4, #[Value.int IntKind.u8 0, Value.int IntKind.u16 0]) := by kernel_rfl
@[simp] theorem elInfo_45 : elInfo prog 45 = some (1, 8, #[Value.int IntKind.u64 0]) := by kernel_rfl
@[simp] theorem fldOff_39_0 : fldOff prog 39 0 = some 0 := by kernel_rfl
@[simp] theorem fldOff_39_1 : fldOff prog 39 1 = some 1 := by kernel_rfl
@[simp] theorem fldOff_47_0 : fldOff prog 47 0 = some 0 := by kernel_rfl
@[simp] theorem fldOff_47_1 : fldOff prog 47 1 = some 1 := by kernel_rfl
@[simp] theorem fldOff_50_0 : fldOff prog 50 0 = some 0 := by kernel_rfl
@[simp] theorem fldOff_50_1 : fldOff prog 50 1 = some 1 := by kernel_rfl
@[simp] theorem isStr_22 : isStr prog 22 = false := by kernel_rfl
@[simp] theorem isStr_51 : isStr prog 51 = false := by kernel_rfl
@[simp] theorem ixInfo_22 : ixInfo prog 22 = some (none, 2, some 2) := by kernel_rfl
@[simp] theorem ixInfo_33 : ixInfo prog 33 = some (some 256, 1, none) := by kernel_rfl
@[simp] theorem ixInfo_45 : ixInfo prog 45 = some (none, 1, none) := by kernel_rfl
@[simp] theorem ixInfo_51 : ixInfo prog 51 = some (some 16, 1, none) := by kernel_rfl
@[simp] theorem ixInfo_52 : ixInfo prog 52 = some (none, 1, none) := by kernel_rfl
@[simp] theorem lenK_22 : lenK prog 22 = LenK.slice := by kernel_rfl
@[simp] theorem lenK_52 : lenK prog 52 = LenK.slice := by kernel_rfl
@[simp] theorem plc_47 : plc prog 47 = Plc.st #[(0, 1), (1, 1)] := by kernel_rfl
@[simp] theorem plc_50 : plc prog 50 = Plc.st #[(0, 1), (1, 1)] := by kernel_rfl
@[simp] theorem szOf_22 : szOf prog 22 = some 1 := by kernel_rfl
@[simp] theorem szOf_31 : szOf prog 31 = some 1 := by kernel_rfl
@[simp] theorem szOf_4 : szOf prog 4 = some 1 := by kernel_rfl
@[simp] theorem szOf_45 : szOf prog 45 = some 1 := by kernel_rfl
@[simp] theorem szOf_5 : szOf prog 5 = some 1 := by kernel_rfl
@[simp] theorem szOf_50 : szOf prog 50 = some 2 := by kernel_rfl
@[simp] theorem zeroOf_31 : zeroOf prog 31 = some #[Value.int IntKind.u64 0] := by kernel_rfl
@[simp] theorem zeroOf_33 : zeroOf prog 33 = some (repV 256 (Value.int IntKind.u64 0)) := by kernel_rfl
@[simp] theorem zeroOf_4 : zeroOf prog 4 = some #[Value.bool false] := by kernel_rfl
@[simp] theorem zeroOf_47 : zeroOf prog 47 = some #[Value.slice none 0 0, Value.slice none 0 0] := by kernel_rfl
@[simp] theorem zeroOf_5 : zeroOf prog 5 = some #[Value.int IntKind.u8 0] := by kernel_rfl
@[simp] theorem zeroOf_50 : zeroOf prog 50 = some #[Value.int IntKind.u8 0, Value.int IntKind.u16 0] := by kernel_rfl
@[simp] theorem zeroOf_51 : zeroOf prog 51 = some #[Value.bool false, Value.bool false, Value.bool false, Value.bool false, Value.bool false, Value.bool false, Value.bool false, Value.bool false, Value.bool false, Value.bool false, Value.bool false, Value.bool false, Value.bool false, Value.bool false, Value.bool false, Value.bool false] := by kernel_rfl

end Go.Proofs.Ytndnpmfoegkkeaa
