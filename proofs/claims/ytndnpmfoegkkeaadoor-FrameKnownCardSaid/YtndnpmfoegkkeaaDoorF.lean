/-
  What stands where in the types of this program: each by reckoning.
-/
import Derived.Test.YtndnpmfoegkkeaaDoorProg
import Derived.Test.YtndnpmfoegkkeaaDoorM20
import Derived.KernelRfl
set_option linter.unusedSimpArgs false
set_option linter.unusedVariables false
set_option linter.unusedSectionVars false
namespace Go.Proofs.YtndnpmfoegkkeaaDoor
open Go Go.Mini Go.Proofs.Tryd

/-- So many times the same. -/
def repV (n : Nat) (v : Value) : Array Value := (List.replicate n v).toArray
theorem mixed : prog.follows .mixedOrders = true := by kernel_rfl
@[simp] theorem aggSz_22 : aggSz prog 22 = some none := by kernel_rfl
@[simp] theorem aggSz_26 : aggSz prog 26 = some none := by kernel_rfl
@[simp] theorem aggSz_3 : aggSz prog 3 = some none := by kernel_rfl
@[simp] theorem aggSz_30 : aggSz prog 30 = some none := by kernel_rfl
@[simp] theorem aggSz_32 : aggSz prog 32 = some none := by kernel_rfl
@[simp] theorem aggSz_37 : aggSz prog 37 = some (some 2) := by kernel_rfl
@[simp] theorem aggSz_4 : aggSz prog 4 = some none := by kernel_rfl
@[simp] theorem aggSz_49 : aggSz prog 49 = some none := by kernel_rfl
@[simp] theorem aggSz_5 : aggSz prog 5 = some none := by kernel_rfl
@[simp] theorem aggSz_51 : aggSz prog 51 = some (some 2) := by kernel_rfl
@[simp] theorem aggSz_55 : aggSz prog 55 = some none := by kernel_rfl
@[simp] theorem aggSz_59 : aggSz prog 59 = some none := by kernel_rfl
@[simp] theorem aggSz_67 : aggSz prog 67 = some none := by kernel_rfl
@[simp] theorem aggSz_9 : aggSz prog 9 = some none := by kernel_rfl
@[simp] theorem apInfo_22_22 : apInfo prog #[22, 22] = some (2, 4) := by kernel_rfl
@[simp] theorem apInfo_30_30 : apInfo prog #[30, 30] = some (1, 1) := by kernel_rfl
@[simp] theorem apInfo_30_9 : apInfo prog #[30, 9] = some (1, 1) := by kernel_rfl
@[simp] theorem apInfo_55_55 : apInfo prog #[55, 55] = some (1, 8) := by kernel_rfl
@[simp] theorem apInfo_59_59 : apInfo prog #[59, 59] = some (1, 16) := by kernel_rfl
@[simp] theorem cvOf_2_32 : cvOf prog 2 32 = Cv.int IntKind.u64 := by kernel_rfl
@[simp] theorem cvOf_3_32 : cvOf prog 3 32 = Cv.int IntKind.u64 := by kernel_rfl
@[simp] theorem cvOf_3_92 : cvOf prog 3 92 = Cv.int IntKind.u64 := by kernel_rfl
@[simp] theorem cvOf_30_9 : cvOf prog 30 9 = Cv.ofBytes := by kernel_rfl
@[simp] theorem cvOf_32_5 : cvOf prog 32 5 = Cv.int IntKind.u8 := by kernel_rfl
@[simp] theorem cvOf_32_89 : cvOf prog 32 89 = Cv.int IntKind.u32 := by kernel_rfl
@[simp] theorem cvOf_49_2 : cvOf prog 49 2 = Cv.int IntKind.i64 := by kernel_rfl
@[simp] theorem cvOf_49_3 : cvOf prog 49 3 = Cv.int IntKind.i64 := by kernel_rfl
@[simp] theorem cvOf_49_32 : cvOf prog 49 32 = Cv.int IntKind.u64 := by kernel_rfl
@[simp] theorem cvOf_5_2 : cvOf prog 5 2 = Cv.int IntKind.i64 := by kernel_rfl
@[simp] theorem cvOf_5_3 : cvOf prog 5 3 = Cv.int IntKind.i64 := by kernel_rfl
@[simp] theorem cvOf_67_83 : cvOf prog 67 83 = Cv.no := by kernel_rfl
@[simp] theorem cvOf_83_67 : cvOf prog 83 67 = Cv.no := by kernel_rfl
@[simp] theorem cvOf_89_5 : cvOf prog 89 5 = Cv.int IntKind.u8 := by kernel_rfl
@[simp] theorem cvOf_92_89 : cvOf prog 92 89 = Cv.int IntKind.u32 := by kernel_rfl
@[simp] theorem elInfo_22 : elInfo prog 22 = some (2, 4, #[Value.int IntKind.u8 0, Value.int IntKind.u16 0]) := by kernel_rfl
@[simp] theorem elInfo_30 : elInfo prog 30 = some (1, 1, #[Value.int IntKind.u8 0]) := by kernel_rfl
@[simp] theorem elInfo_55 : elInfo prog 55 = some (1, 8, #[Value.int IntKind.u64 0]) := by kernel_rfl
@[simp] theorem elInfo_59 : elInfo prog 59 = some (1, 16, #[Value.string ⟨#[]⟩]) := by kernel_rfl
@[simp] theorem eqPl_51 : eqPl prog 8 51 = some [(0, 0), (1, 0)] := by kernel_rfl
@[simp] theorem fldOff_37_0 : fldOff prog 37 0 = some 0 := by kernel_rfl
@[simp] theorem fldOff_37_1 : fldOff prog 37 1 = some 1 := by kernel_rfl
@[simp] theorem fldOff_51_0 : fldOff prog 51 0 = some 0 := by kernel_rfl
@[simp] theorem fldOff_51_1 : fldOff prog 51 1 = some 1 := by kernel_rfl
@[simp] theorem fldOff_57_0 : fldOff prog 57 0 = some 0 := by kernel_rfl
@[simp] theorem fldOff_57_1 : fldOff prog 57 1 = some 1 := by kernel_rfl
@[simp] theorem fldOff_69_0 : fldOff prog 69 0 = some 0 := by kernel_rfl
@[simp] theorem fldOff_69_1 : fldOff prog 69 1 = some 1 := by kernel_rfl
@[simp] theorem ifaceOk_9 : ifaceOk prog 9 = true := by kernel_rfl
@[simp] theorem isStr_22 : isStr prog 22 = false := by kernel_rfl
@[simp] theorem isStr_30 : isStr prog 30 = false := by kernel_rfl
@[simp] theorem isStr_59 : isStr prog 59 = false := by kernel_rfl
@[simp] theorem isStr_65 : isStr prog 65 = false := by kernel_rfl
@[simp] theorem isStr_78 : isStr prog 78 = false := by kernel_rfl
@[simp] theorem isStr_9 : isStr prog 9 = true := by kernel_rfl
@[simp] theorem isStr_90 : isStr prog 90 = false := by kernel_rfl
@[simp] theorem ixInfo_22 : ixInfo prog 22 = some (none, 2, some 2) := by kernel_rfl
@[simp] theorem ixInfo_23 : ixInfo prog 23 = some (none, 2, some 2) := by kernel_rfl
@[simp] theorem ixInfo_30 : ixInfo prog 30 = some (none, 1, none) := by kernel_rfl
@[simp] theorem ixInfo_55 : ixInfo prog 55 = some (none, 1, none) := by kernel_rfl
@[simp] theorem ixInfo_59 : ixInfo prog 59 = some (none, 1, none) := by kernel_rfl
@[simp] theorem ixInfo_65 : ixInfo prog 65 = some (some 16, 1, none) := by kernel_rfl
@[simp] theorem ixInfo_66 : ixInfo prog 66 = some (none, 1, none) := by kernel_rfl
@[simp] theorem ixInfo_78 : ixInfo prog 78 = some (some 24, 1, none) := by kernel_rfl
@[simp] theorem ixInfo_88 : ixInfo prog 88 = some (some 20, 1, none) := by kernel_rfl
@[simp] theorem ixInfo_9 : ixInfo prog 9 = none := by kernel_rfl
@[simp] theorem ixInfo_90 : ixInfo prog 90 = some (some 65, 1, none) := by kernel_rfl
@[simp] theorem ixInfo_95 : ixInfo prog 95 = some (some 32, 1, none) := by kernel_rfl
@[simp] theorem ixInfo_96 : ixInfo prog 96 = some (some 64, 1, none) := by kernel_rfl
@[simp] theorem lenK_22 : lenK prog 22 = LenK.slice := by kernel_rfl
@[simp] theorem lenK_23 : lenK prog 23 = LenK.slice := by kernel_rfl
@[simp] theorem lenK_30 : lenK prog 30 = LenK.slice := by kernel_rfl
@[simp] theorem lenK_59 : lenK prog 59 = LenK.slice := by kernel_rfl
@[simp] theorem lenK_66 : lenK prog 66 = LenK.slice := by kernel_rfl
@[simp] theorem lenK_9 : lenK prog 9 = LenK.str := by kernel_rfl
@[simp] theorem plc_51 : plc prog 51 = Plc.st #[(0, 1), (1, 1)] := by kernel_rfl
@[simp] theorem plc_57 : plc prog 57 = Plc.st #[(0, 1), (1, 1)] := by kernel_rfl
@[simp] theorem plc_88 : plc prog 88 = Plc.arr 1 := by kernel_rfl
@[simp] theorem plc_95 : plc prog 95 = Plc.arr 1 := by kernel_rfl
@[simp] theorem plc_96 : plc prog 96 = Plc.arr 1 := by kernel_rfl
@[simp] theorem szOf_22 : szOf prog 22 = some 1 := by kernel_rfl
@[simp] theorem szOf_3 : szOf prog 3 = some 1 := by kernel_rfl
@[simp] theorem szOf_30 : szOf prog 30 = some 1 := by kernel_rfl
@[simp] theorem szOf_32 : szOf prog 32 = some 1 := by kernel_rfl
@[simp] theorem szOf_37 : szOf prog 37 = some 2 := by kernel_rfl
@[simp] theorem szOf_4 : szOf prog 4 = some 1 := by kernel_rfl
@[simp] theorem szOf_49 : szOf prog 49 = some 1 := by kernel_rfl
@[simp] theorem szOf_5 : szOf prog 5 = some 1 := by kernel_rfl
@[simp] theorem szOf_51 : szOf prog 51 = some 2 := by kernel_rfl
@[simp] theorem szOf_55 : szOf prog 55 = some 1 := by kernel_rfl
@[simp] theorem szOf_59 : szOf prog 59 = some 1 := by kernel_rfl
@[simp] theorem szOf_67 : szOf prog 67 = some 1 := by kernel_rfl
@[simp] theorem szOf_88 : szOf prog 88 = some 20 := by kernel_rfl
@[simp] theorem szOf_95 : szOf prog 95 = some 32 := by kernel_rfl
@[simp] theorem szOf_96 : szOf prog 96 = some 64 := by kernel_rfl
@[simp] theorem zeroOf_3 : zeroOf prog 3 = some #[Value.int IntKind.i64 0] := by kernel_rfl
@[simp] theorem zeroOf_32 : zeroOf prog 32 = some #[Value.int IntKind.u64 0] := by kernel_rfl
@[simp] theorem zeroOf_37 : zeroOf prog 37 = some #[Value.int IntKind.u8 0, Value.int IntKind.u64 0] := by kernel_rfl
@[simp] theorem zeroOf_4 : zeroOf prog 4 = some #[Value.bool false] := by kernel_rfl
@[simp] theorem zeroOf_5 : zeroOf prog 5 = some #[Value.int IntKind.u8 0] := by kernel_rfl
@[simp] theorem zeroOf_51 : zeroOf prog 51 = some #[Value.int IntKind.u8 0, Value.int IntKind.u16 0] := by kernel_rfl
@[simp] theorem zeroOf_57 : zeroOf prog 57 = some #[Value.slice none 0 0, Value.slice none 0 0] := by kernel_rfl
@[simp] theorem zeroOf_59 : zeroOf prog 59 = some #[Value.slice none 0 0] := by kernel_rfl
@[simp] theorem zeroOf_65 : zeroOf prog 65 = some #[Value.bool false, Value.bool false, Value.bool false, Value.bool false, Value.bool false, Value.bool false, Value.bool false, Value.bool false, Value.bool false, Value.bool false, Value.bool false, Value.bool false, Value.bool false, Value.bool false, Value.bool false, Value.bool false] := by kernel_rfl
@[simp] theorem zeroOf_69 : zeroOf prog 69 = some #[Value.pointer none, Value.slice none 0 0] := by kernel_rfl
@[simp] theorem zeroOf_78 : zeroOf prog 78 = some (repV 24 (Value.int IntKind.u8 0)) := by kernel_rfl
@[simp] theorem zeroOf_88 : zeroOf prog 88 = some (repV 20 (Value.int IntKind.u64 0)) := by kernel_rfl
@[simp] theorem zeroOf_90 : zeroOf prog 90 = some (repV 65 (Value.int IntKind.u8 0)) := by kernel_rfl
@[simp] theorem zeroOf_95 : zeroOf prog 95 = some (repV 32 (Value.int IntKind.u8 0)) := by kernel_rfl
@[simp] theorem zeroOf_96 : zeroOf prog 96 = some (repV 64 (Value.int IntKind.u8 0)) := by kernel_rfl
@[simp] theorem eqGT_51 : eqGT prog 51 = false := by kernel_rfl

end Go.Proofs.YtndnpmfoegkkeaaDoor
