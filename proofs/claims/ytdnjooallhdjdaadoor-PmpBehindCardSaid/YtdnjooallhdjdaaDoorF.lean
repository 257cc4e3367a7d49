/-
  What stands where in the types of this program: each by reckoning.
-/
import Derived.Test.YtdnjooallhdjdaaDoorProg
import Derived.Test.YtdnjooallhdjdaaDoorM18
import Derived.KernelRfl
set_option linter.unusedSimpArgs false
set_option linter.unusedVariables false
namespace Go.Proofs.YtdnjooallhdjdaaDoor
open Go Go.Mini Go.Proofs.Tryd

theorem mixed : prog.follows .mixedOrders = true := by kernel_rfl
@[simp] theorem aggSz_22 : aggSz prog 22 = some none := by kernel_rfl
@[simp] theorem aggSz_23 : aggSz prog 23 = some (some 8) := by kernel_rfl
@[simp] theorem aggSz_3 : aggSz prog 3 = some none := by kernel_rfl
@[simp] theorem aggSz_35 : aggSz prog 35 = some (some 4) := by kernel_rfl
@[simp] theorem aggSz_4 : aggSz prog 4 = some none := by kernel_rfl
@[simp] theorem aggSz_43 : aggSz prog 43 = some (some 2) := by kernel_rfl
@[simp] theorem aggSz_45 : aggSz prog 45 = some (some 4) := by kernel_rfl
@[simp] theorem aggSz_5 : aggSz prog 5 = some none := by kernel_rfl
@[simp] theorem cvOf_22_5 : cvOf prog 22 5 = Cv.int IntKind.u8 := by kernel_rfl
@[simp] theorem cvOf_3_22 : cvOf prog 3 22 = Cv.int IntKind.u64 := by kernel_rfl
@[simp] theorem cvOf_5_3 : cvOf prog 5 3 = Cv.int IntKind.i64 := by kernel_rfl
@[simp] theorem fldOff_35_0 : fldOff prog 35 0 = some 0 := by kernel_rfl
@[simp] theorem fldOff_35_1 : fldOff prog 35 1 = some 1 := by kernel_rfl
@[simp] theorem fldOff_35_2 : fldOff prog 35 2 = some 2 := by kernel_rfl
@[simp] theorem fldOff_35_3 : fldOff prog 35 3 = some 3 := by kernel_rfl
@[simp] theorem fldOff_39_0 : fldOff prog 39 0 = some 0 := by kernel_rfl
@[simp] theorem fldOff_39_1 : fldOff prog 39 1 = some 4 := by kernel_rfl
@[simp] theorem fldOff_39_2 : fldOff prog 39 2 = some 5 := by kernel_rfl
@[simp] theorem fldOff_43_0 : fldOff prog 43 0 = some 0 := by kernel_rfl
@[simp] theorem fldOff_43_1 : fldOff prog 43 1 = some 1 := by kernel_rfl
@[simp] theorem fldOff_45_0 : fldOff prog 45 0 = some 0 := by kernel_rfl
@[simp] theorem fldOff_45_1 : fldOff prog 45 1 = some 2 := by kernel_rfl
@[simp] theorem fldOff_45_2 : fldOff prog 45 2 = some 3 := by kernel_rfl
@[simp] theorem fldPart_45_1 : fldPart prog 45 1 = some (2, none) := by kernel_rfl
@[simp] theorem ixInfo_23 : ixInfo prog 23 = some (some 8, 1, none) := by kernel_rfl
@[simp] theorem ixInfo_52 : ixInfo prog 52 = some (some 3, 1, none) := by kernel_rfl
@[simp] theorem ixInfo_55 : ixInfo prog 55 = some (some 64, 1, none) := by kernel_rfl
@[simp] theorem plc_23 : plc prog 23 = Plc.arr 1 := by kernel_rfl
@[simp] theorem plc_35 : plc prog 35 = Plc.st #[(0, 1), (1, 1), (2, 1), (3, 1)] := by kernel_rfl
@[simp] theorem plc_43 : plc prog 43 = Plc.st #[(0, 1), (1, 1)] := by kernel_rfl
@[simp] theorem plc_45 : plc prog 45 = Plc.st #[(0, 2), (2, 1), (3, 1)] := by kernel_rfl
@[simp] theorem plc_52 : plc prog 52 = Plc.arr 1 := by kernel_rfl
@[simp] theorem plc_55 : plc prog 55 = Plc.arr 1 := by kernel_rfl
@[simp] theorem szOf_22 : szOf prog 22 = some 1 := by kernel_rfl
@[simp] theorem szOf_23 : szOf prog 23 = some 8 := by kernel_rfl
@[simp] theorem szOf_3 : szOf prog 3 = some 1 := by kernel_rfl
@[simp] theorem szOf_35 : szOf prog 35 = some 4 := by kernel_rfl
@[simp] theorem szOf_4 : szOf prog 4 = some 1 := by kernel_rfl
@[simp] theorem szOf_43 : szOf prog 43 = some 2 := by kernel_rfl
@[simp] theorem szOf_45 : szOf prog 45 = some 4 := by kernel_rfl
@[simp] theorem szOf_5 : szOf prog 5 = some 1 := by kernel_rfl
@[simp] theorem szOf_52 : szOf prog 52 = some 3 := by kernel_rfl
@[simp] theorem szOf_55 : szOf prog 55 = some 64 := by kernel_rfl
@[simp] theorem zeroOf_23 : zeroOf prog 23 = some #[Value.int IntKind.u64 0, Value.int IntKind.u64 0, Value.int IntKind.u64 0, Value.int IntKind.u64 0, Value.int IntKind.u64 0, Value.int IntKind.u64 0, Value.int IntKind.u64 0, Value.int IntKind.u64 0] := by kernel_rfl
@[simp] theorem zeroOf_35 : zeroOf prog 35 = some #[Value.int IntKind.u8 0, Value.int IntKind.u8 0, Value.int IntKind.u64 0, Value.int IntKind.i64 0] := by kernel_rfl
@[simp] theorem zeroOf_43 : zeroOf prog 43 = some #[Value.int IntKind.u64 0, Value.int IntKind.u64 0] := by kernel_rfl
@[simp] theorem zeroOf_45 : zeroOf prog 45 = some #[Value.int IntKind.u64 0, Value.int IntKind.u64 0, Value.int IntKind.u8 0, Value.bool false] := by kernel_rfl
@[simp] theorem zeroOf_52 : zeroOf prog 52 = some #[Value.int IntKind.u8 0, Value.int IntKind.u8 0, Value.int IntKind.u8 0] := by kernel_rfl
@[simp] theorem zeroOf_55 : zeroOf prog 55 = some #[Value.int IntKind.u8 0, Value.int IntKind.u8 0, Value.int IntKind.u8 0, Value.int IntKind.u8 0, Value.int IntKind.u8 0, Value.int IntKind.u8 0, Value.int IntKind.u8 0, Value.int IntKind.u8 0, Value.int IntKind.u8 0, Value.int IntKind.u8 0, Value.int IntKind.u8 0, Value.int IntKind.u8 0, Value.int IntKind.u8 0, Value.int IntKind.u8 0, Value.int IntKind.u8 0, Value.int IntKind.u8 0, Value.int IntKind.u8 0, Value.int IntKind.u8 0, Value.int IntKind.u8 0, Value.int IntKind.u8 0, Value.int IntKind.u8 0, Value.int IntKind.u8 0, Value.int IntKind.u8 0, Value.int IntKind.u8 0, Value.int IntKind.u8 0, Value.int IntKind.u8 0, Value.int IntKind.u8 0, Value.int IntKind.u8 0, Value.int IntKind.u8 0, Value.int IntKind.u8 0, Value.int IntKind.u8 0, Value.int IntKind.u8 0, Value.int IntKind.u8 0, Value.int IntKind.u8 0, Value.int IntKind.u8 0, Value.int IntKind.u8 0, Value.int IntKind.u8 0, Value.int IntKind.u8 0, Value.int IntKind.u8 0, Value.int IntKind.u8 0, Value.int IntKind.u8 0, Value.int IntKind.u8 0, Value.int IntKind.u8 0, Value.int IntKind.u8 0, Value.int IntKind.u8 0, Value.int IntKind.u8 0, Value.int IntKind.u8 0, Value.int IntKind.u8 0, Value.int IntKind.u8 0, Value.int IntKind.u8 0, Value.int IntKind.u8 0, Value.int IntKind.u8 0, Value.int IntKind.u8 0, Value.int IntKind.u8 0, Value.int IntKind.u8 0, Value.int IntKind.u8 0, Value.int IntKind.u8 0, Value.int IntKind.u8 0, Value.int IntKind.u8 0, Value.int IntKind.u8 0, Value.int IntKind.u8 0, Value.int IntKind.u8 0, Value.int IntKind.u8 0, Value.int IntKind.u8 0] := by kernel_rfl

end Go.Proofs.YtdnjooallhdjdaaDoor
