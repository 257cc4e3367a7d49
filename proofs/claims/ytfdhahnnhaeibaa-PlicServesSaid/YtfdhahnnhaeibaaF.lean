/-
  What stands where in the types of this program: each by reckoning.
-/
import Derived.Test.YtfdhahnnhaeibaaProg
import Derived.Test.YtfdhahnnhaeibaaM20
import Derived.KernelRfl
set_option linter.unusedSimpArgs false
set_option linter.unusedVariables false
set_option linter.unusedSectionVars false
namespace Go.Proofs.Ytfdhahnnhaeibaa
open Go Go.Mini Go.Proofs.Try

/-- So many times the same. -/
def repV (n : Nat) (v : Value) : Array Value := (List.replicate n v).toArray
theorem mixed : prog.follows .mixedOrders = true := by kernel_rfl
@[simp] theorem aggSz_27 : aggSz prog 27 = some none := by kernel_rfl
@[simp] theorem aggSz_29 : aggSz prog 29 = some (some 6) := by kernel_rfl
@[simp] theorem aggSz_3 : aggSz prog 3 = some none := by kernel_rfl
@[simp] theorem aggSz_4 : aggSz prog 4 = some none := by kernel_rfl
@[simp] theorem aggSz_40 : aggSz prog 40 = some (some 32) := by kernel_rfl
@[simp] theorem aggSz_47 : aggSz prog 47 = some none := by kernel_rfl
@[simp] theorem aggSz_48 : aggSz prog 48 = some none := by kernel_rfl
@[simp] theorem aggSz_5 : aggSz prog 5 = some none := by kernel_rfl
@[simp] theorem aggSz_50 : aggSz prog 50 = some (some 3) := by kernel_rfl
@[simp] theorem cvOf_27_3 : cvOf prog 27 3 = Cv.int IntKind.i64 := by kernel_rfl
@[simp] theorem cvOf_27_5 : cvOf prog 27 5 = Cv.int IntKind.u8 := by kernel_rfl
@[simp] theorem cvOf_27_54 : cvOf prog 27 54 = Cv.int IntKind.u32 := by kernel_rfl
@[simp] theorem cvOf_3_27 : cvOf prog 3 27 = Cv.int IntKind.u64 := by kernel_rfl
@[simp] theorem cvOf_5_27 : cvOf prog 5 27 = Cv.int IntKind.u64 := by kernel_rfl
@[simp] theorem fldOff_29_0 : fldOff prog 29 0 = some 0 := by kernel_rfl
@[simp] theorem fldOff_29_1 : fldOff prog 29 1 = some 1 := by kernel_rfl
@[simp] theorem fldOff_29_2 : fldOff prog 29 2 = some 2 := by kernel_rfl
@[simp] theorem fldOff_29_3 : fldOff prog 29 3 = some 3 := by kernel_rfl
@[simp] theorem fldOff_29_4 : fldOff prog 29 4 = some 4 := by kernel_rfl
@[simp] theorem fldOff_29_5 : fldOff prog 29 5 = some 5 := by kernel_rfl
@[simp] theorem fldOff_39_0 : fldOff prog 39 0 = some 0 := by kernel_rfl
@[simp] theorem fldOff_39_1 : fldOff prog 39 1 = some 1 := by kernel_rfl
@[simp] theorem fldOff_39_2 : fldOff prog 39 2 = some 2 := by kernel_rfl
@[simp] theorem fldOff_39_3 : fldOff prog 39 3 = some 3 := by kernel_rfl
@[simp] theorem fldOff_42_0 : fldOff prog 42 0 = some 0 := by kernel_rfl
@[simp] theorem fldOff_42_1 : fldOff prog 42 1 = some 1 := by kernel_rfl
@[simp] theorem fldOff_45_0 : fldOff prog 45 0 = some 0 := by kernel_rfl
@[simp] theorem fldOff_45_1 : fldOff prog 45 1 = some 1 := by kernel_rfl
@[simp] theorem fldOff_45_2 : fldOff prog 45 2 = some 33 := by kernel_rfl
@[simp] theorem fldOff_50_0 : fldOff prog 50 0 = some 0 := by kernel_rfl
@[simp] theorem fldOff_50_1 : fldOff prog 50 1 = some 1 := by kernel_rfl
@[simp] theorem fldOff_50_2 : fldOff prog 50 2 = some 2 := by kernel_rfl
@[simp] theorem isStr_40 : isStr prog 40 = false := by kernel_rfl
@[simp] theorem ixInfo_22 : ixInfo prog 22 = some (none, 6, some 6) := by kernel_rfl
@[simp] theorem ixInfo_26 : ixInfo prog 26 = some (some 8, 1, none) := by kernel_rfl
@[simp] theorem ixInfo_40 : ixInfo prog 40 = some (some 8, 4, some 4) := by kernel_rfl
@[simp] theorem ixInfo_43 : ixInfo prog 43 = some (some 2, 2, some 2) := by kernel_rfl
@[simp] theorem lenK_22 : lenK prog 22 = LenK.slice := by kernel_rfl
@[simp] theorem plc_45 : plc prog 45 = Plc.st #[(0, 1), (1, 32), (33, 4)] := by kernel_rfl
@[simp] theorem plc_50 : plc prog 50 = Plc.st #[(0, 1), (1, 1), (2, 1)] := by kernel_rfl
@[simp] theorem szOf_29 : szOf prog 29 = some 6 := by kernel_rfl
@[simp] theorem szOf_3 : szOf prog 3 = some 1 := by kernel_rfl
@[simp] theorem szOf_39 : szOf prog 39 = some 4 := by kernel_rfl
@[simp] theorem szOf_4 : szOf prog 4 = some 1 := by kernel_rfl
@[simp] theorem szOf_47 : szOf prog 47 = some 1 := by kernel_rfl
@[simp] theorem szOf_48 : szOf prog 48 = some 1 := by kernel_rfl
@[simp] theorem szOf_5 : szOf prog 5 = some 1 := by kernel_rfl
@[simp] theorem szOf_50 : szOf prog 50 = some 3 := by kernel_rfl
@[simp] theorem zeroOf_26 : zeroOf prog 26 = some #[Value.bool false, Value.bool false, Value.bool false, Value.bool false, Value.bool false, Value.bool false, Value.bool false, Value.bool false] := by kernel_rfl
@[simp] theorem zeroOf_29 : zeroOf prog 29 = some #[Value.int IntKind.u8 0, Value.int IntKind.i64 0, Value.bool false, Value.int IntKind.u64 0, Value.int IntKind.u64 0, Value.int IntKind.i64 0] := by kernel_rfl
@[simp] theorem zeroOf_39 : zeroOf prog 39 = some #[Value.int IntKind.u8 0, Value.bool false, Value.bool false, Value.bool false] := by kernel_rfl
@[simp] theorem zeroOf_45 : zeroOf prog 45 = some #[Value.bool false, Value.int IntKind.u8 0, Value.bool false, Value.bool false, Value.bool false, Value.int IntKind.u8 0, Value.bool false, Value.bool false, Value.bool false, Value.int IntKind.u8 0, Value.bool false, Value.bool false, Value.bool false, Value.int IntKind.u8 0, Value.bool false, Value.bool false, Value.bool false, Value.int IntKind.u8 0, Value.bool false, Value.bool false, Value.bool false, Value.int IntKind.u8 0, Value.bool false, Value.bool false, Value.bool false, Value.int IntKind.u8 0, Value.bool false, Value.bool false, Value.bool false, Value.int IntKind.u8 0, Value.bool false, Value.bool false, Value.bool false, Value.int IntKind.u8 0, Value.int IntKind.u8 0, Value.int IntKind.u8 0, Value.int IntKind.u8 0] := by kernel_rfl
@[simp] theorem zeroOf_50 : zeroOf prog 50 = some #[Value.int IntKind.i64 0, Value.nilFunc, Value.nilFunc] := by kernel_rfl

end Go.Proofs.Ytfdhahnnhaeibaa
