/-
  What stands where in the types of this program: each by reckoning.
-/
import Derived.Test.YtfdhahnnhaeibaaDoorProg
import Derived.Test.YtfdhahnnhaeibaaDoorM20
import Derived.KernelRfl
set_option linter.unusedSimpArgs false
set_option linter.unusedVariables false
set_option linter.unusedSectionVars false
namespace Go.Proofs.YtfdhahnnhaeibaaDoor
open Go Go.Mini Go.Proofs.Tryd

/-- So many times the same. -/
def repV (n : Nat) (v : Value) : Array Value := (List.replicate n v).toArray
theorem mixed : prog.follows .mixedOrders = true := by kernel_rfl
@[simp] theorem aggSz_28 : aggSz prog 28 = some (some 8) := by kernel_rfl
@[simp] theorem aggSz_3 : aggSz prog 3 = some none := by kernel_rfl
@[simp] theorem aggSz_32 : aggSz prog 32 = some (some 50) := by kernel_rfl
@[simp] theorem aggSz_33 : aggSz prog 33 = some none := by kernel_rfl
@[simp] theorem aggSz_35 : aggSz prog 35 = some (some 6) := by kernel_rfl
@[simp] theorem aggSz_4 : aggSz prog 4 = some none := by kernel_rfl
@[simp] theorem aggSz_5 : aggSz prog 5 = some none := by kernel_rfl
@[simp] theorem aggSz_52 : aggSz prog 52 = some (some 4) := by kernel_rfl
@[simp] theorem aggSz_53 : aggSz prog 53 = some (some 32) := by kernel_rfl
@[simp] theorem aggSz_56 : aggSz prog 56 = some (some 4) := by kernel_rfl
@[simp] theorem aggSz_58 : aggSz prog 58 = some (some 37) := by kernel_rfl
@[simp] theorem aggSz_65 : aggSz prog 65 = some none := by kernel_rfl
@[simp] theorem aggSz_70 : aggSz prog 70 = some none := by kernel_rfl
@[simp] theorem aggSz_71 : aggSz prog 71 = some none := by kernel_rfl
@[simp] theorem aggSz_73 : aggSz prog 73 = some (some 3) := by kernel_rfl
@[simp] theorem aggSz_76 : aggSz prog 76 = some none := by kernel_rfl
@[simp] theorem aggSz_9 : aggSz prog 9 = some none := by kernel_rfl
@[simp] theorem apInfo_61_61 : apInfo prog #[61, 61] = some (1, 16) := by kernel_rfl
@[simp] theorem apInfo_65_65 : apInfo prog #[65, 65] = some (1, 1) := by kernel_rfl
@[simp] theorem apInfo_65_9 : apInfo prog #[65, 9] = some (1, 1) := by kernel_rfl
@[simp] theorem cvOf_2_33 : cvOf prog 2 33 = Cv.int IntKind.u64 := by kernel_rfl
@[simp] theorem cvOf_3_33 : cvOf prog 3 33 = Cv.int IntKind.u64 := by kernel_rfl
@[simp] theorem cvOf_3_45 : cvOf prog 3 45 = Cv.int IntKind.u64 := by kernel_rfl
@[simp] theorem cvOf_33_3 : cvOf prog 33 3 = Cv.int IntKind.i64 := by kernel_rfl
@[simp] theorem cvOf_33_5 : cvOf prog 33 5 = Cv.int IntKind.u8 := by kernel_rfl
@[simp] theorem cvOf_33_86 : cvOf prog 33 86 = Cv.int IntKind.u32 := by kernel_rfl
@[simp] theorem cvOf_45_3 : cvOf prog 45 3 = Cv.int IntKind.i64 := by kernel_rfl
@[simp] theorem cvOf_45_86 : cvOf prog 45 86 = Cv.int IntKind.u32 := by kernel_rfl
@[simp] theorem cvOf_5_3 : cvOf prog 5 3 = Cv.int IntKind.i64 := by kernel_rfl
@[simp] theorem cvOf_5_33 : cvOf prog 5 33 = Cv.int IntKind.u64 := by kernel_rfl
@[simp] theorem cvOf_65_9 : cvOf prog 65 9 = Cv.ofBytes := by kernel_rfl
@[simp] theorem cvOf_76_92 : cvOf prog 76 92 = Cv.no := by kernel_rfl
@[simp] theorem cvOf_86_5 : cvOf prog 86 5 = Cv.int IntKind.u8 := by kernel_rfl
@[simp] theorem cvOf_92_76 : cvOf prog 92 76 = Cv.no := by kernel_rfl
@[simp] theorem elInfo_61 : elInfo prog 61 = some (1, 16, #[Value.string ⟨#[]⟩]) := by kernel_rfl
@[simp] theorem elInfo_64 : elInfo prog 64 = some (1, 1, #[Value.bool false]) := by kernel_rfl
@[simp] theorem elInfo_65 : elInfo prog 65 = some (1, 1, #[Value.int IntKind.u8 0]) := by kernel_rfl
@[simp] theorem eqPl_32 : eqPl prog 8 32 = some [(0, 0), (1, 0), (2, 0), (3, 0), (4, 0), (5, 0), (6, 0), (7, 0), (8, 1), (9, 1), (10, 1), (11, 1), (12, 1), (13, 1), (14, 1), (15, 1), (16, 1), (17, 1), (18, 1), (19, 1), (20, 1), (21, 1), (22, 1), (23, 1), (24, 1), (25, 1), (26, 1), (27, 1), (28, 1), (29, 1), (30, 1), (31, 1), (32, 1), (33, 1), (34, 1), (35, 1), (36, 1), (37, 1), (38, 1), (39, 1), (40, 1), (41, 1), (42, 1), (43, 1), (44, 1), (45, 1), (46, 1), (47, 1), (48, 0), (49, 0)] := by kernel_rfl
@[simp] theorem eqPl_58 : eqPl prog 8 58 = some [(0, 1), (1, 0), (2, 1), (3, 1), (4, 1), (5, 0), (6, 1), (7, 1), (8, 1), (9, 0), (10, 1), (11, 1), (12, 1), (13, 0), (14, 1), (15, 1), (16, 1), (17, 0), (18, 1), (19, 1), (20, 1), (21, 0), (22, 1), (23, 1), (24, 1), (25, 0), (26, 1), (27, 1), (28, 1), (29, 0), (30, 1), (31, 1), (32, 1), (33, 0), (34, 0), (35, 0), (36, 0)] := by kernel_rfl
@[simp] theorem fldOff_32_0 : fldOff prog 32 0 = some 0 := by kernel_rfl
@[simp] theorem fldOff_32_1 : fldOff prog 32 1 = some 8 := by kernel_rfl
@[simp] theorem fldOff_32_2 : fldOff prog 32 2 = some 16 := by kernel_rfl
@[simp] theorem fldOff_32_3 : fldOff prog 32 3 = some 24 := by kernel_rfl
@[simp] theorem fldOff_32_4 : fldOff prog 32 4 = some 32 := by kernel_rfl
@[simp] theorem fldOff_32_5 : fldOff prog 32 5 = some 48 := by kernel_rfl
@[simp] theorem fldOff_35_0 : fldOff prog 35 0 = some 0 := by kernel_rfl
@[simp] theorem fldOff_35_1 : fldOff prog 35 1 = some 1 := by kernel_rfl
@[simp] theorem fldOff_35_2 : fldOff prog 35 2 = some 2 := by kernel_rfl
@[simp] theorem fldOff_35_3 : fldOff prog 35 3 = some 3 := by kernel_rfl
@[simp] theorem fldOff_35_4 : fldOff prog 35 4 = some 4 := by kernel_rfl
@[simp] theorem fldOff_35_5 : fldOff prog 35 5 = some 5 := by kernel_rfl
@[simp] theorem fldOff_52_0 : fldOff prog 52 0 = some 0 := by kernel_rfl
@[simp] theorem fldOff_52_1 : fldOff prog 52 1 = some 1 := by kernel_rfl
@[simp] theorem fldOff_52_2 : fldOff prog 52 2 = some 2 := by kernel_rfl
@[simp] theorem fldOff_52_3 : fldOff prog 52 3 = some 3 := by kernel_rfl
@[simp] theorem fldOff_55_0 : fldOff prog 55 0 = some 0 := by kernel_rfl
@[simp] theorem fldOff_55_1 : fldOff prog 55 1 = some 1 := by kernel_rfl
@[simp] theorem fldOff_58_0 : fldOff prog 58 0 = some 0 := by kernel_rfl
@[simp] theorem fldOff_58_1 : fldOff prog 58 1 = some 1 := by kernel_rfl
@[simp] theorem fldOff_58_2 : fldOff prog 58 2 = some 33 := by kernel_rfl
@[simp] theorem fldOff_73_0 : fldOff prog 73 0 = some 0 := by kernel_rfl
@[simp] theorem fldOff_73_1 : fldOff prog 73 1 = some 1 := by kernel_rfl
@[simp] theorem fldOff_73_2 : fldOff prog 73 2 = some 2 := by kernel_rfl
@[simp] theorem fldOff_78_0 : fldOff prog 78 0 = some 0 := by kernel_rfl
@[simp] theorem fldOff_78_1 : fldOff prog 78 1 = some 1 := by kernel_rfl
@[simp] theorem ifaceOk_9 : ifaceOk prog 9 = true := by kernel_rfl
@[simp] theorem isStr_53 : isStr prog 53 = false := by kernel_rfl
@[simp] theorem isStr_56 : isStr prog 56 = false := by kernel_rfl
@[simp] theorem isStr_61 : isStr prog 61 = false := by kernel_rfl
@[simp] theorem isStr_65 : isStr prog 65 = false := by kernel_rfl
@[simp] theorem isStr_87 : isStr prog 87 = false := by kernel_rfl
@[simp] theorem isStr_9 : isStr prog 9 = true := by kernel_rfl
@[simp] theorem isStr_97 : isStr prog 97 = false := by kernel_rfl
@[simp] theorem ixInfo_100 : ixInfo prog 100 = some (some 32, 1, none) := by kernel_rfl
@[simp] theorem ixInfo_101 : ixInfo prog 101 = some (some 64, 1, none) := by kernel_rfl
@[simp] theorem ixInfo_22 : ixInfo prog 22 = some (none, 6, some 6) := by kernel_rfl
@[simp] theorem ixInfo_27 : ixInfo prog 27 = some (some 8, 1, none) := by kernel_rfl
@[simp] theorem ixInfo_28 : ixInfo prog 28 = some (some 8, 1, none) := by kernel_rfl
@[simp] theorem ixInfo_29 : ixInfo prog 29 = some (some 2, 8, some 8) := by kernel_rfl
@[simp] theorem ixInfo_30 : ixInfo prog 30 = some (some 2, 1, none) := by kernel_rfl
@[simp] theorem ixInfo_53 : ixInfo prog 53 = some (some 8, 4, some 4) := by kernel_rfl
@[simp] theorem ixInfo_56 : ixInfo prog 56 = some (some 2, 2, some 2) := by kernel_rfl
@[simp] theorem ixInfo_61 : ixInfo prog 61 = some (none, 1, none) := by kernel_rfl
@[simp] theorem ixInfo_62 : ixInfo prog 62 = some (none, 4, some 4) := by kernel_rfl
@[simp] theorem ixInfo_64 : ixInfo prog 64 = some (none, 1, none) := by kernel_rfl
@[simp] theorem ixInfo_65 : ixInfo prog 65 = some (none, 1, none) := by kernel_rfl
@[simp] theorem ixInfo_87 : ixInfo prog 87 = some (some 24, 1, none) := by kernel_rfl
@[simp] theorem ixInfo_9 : ixInfo prog 9 = none := by kernel_rfl
@[simp] theorem ixInfo_96 : ixInfo prog 96 = some (some 20, 1, none) := by kernel_rfl
@[simp] theorem ixInfo_97 : ixInfo prog 97 = some (some 65, 1, none) := by kernel_rfl
@[simp] theorem lenK_22 : lenK prog 22 = LenK.slice := by kernel_rfl
@[simp] theorem lenK_61 : lenK prog 61 = LenK.slice := by kernel_rfl
@[simp] theorem lenK_62 : lenK prog 62 = LenK.slice := by kernel_rfl
@[simp] theorem lenK_64 : lenK prog 64 = LenK.slice := by kernel_rfl
@[simp] theorem lenK_65 : lenK prog 65 = LenK.slice := by kernel_rfl
@[simp] theorem lenK_9 : lenK prog 9 = LenK.str := by kernel_rfl
@[simp] theorem plc_100 : plc prog 100 = Plc.arr 1 := by kernel_rfl
@[simp] theorem plc_101 : plc prog 101 = Plc.arr 1 := by kernel_rfl
@[simp] theorem plc_32 : plc prog 32 = Plc.st #[(0, 8), (8, 8), (16, 8), (24, 8), (32, 16), (48, 2)] := by kernel_rfl
@[simp] theorem plc_58 : plc prog 58 = Plc.st #[(0, 1), (1, 32), (33, 4)] := by kernel_rfl
@[simp] theorem plc_73 : plc prog 73 = Plc.st #[(0, 1), (1, 1), (2, 1)] := by kernel_rfl
@[simp] theorem plc_96 : plc prog 96 = Plc.arr 1 := by kernel_rfl
@[simp] theorem szOf_100 : szOf prog 100 = some 32 := by kernel_rfl
@[simp] theorem szOf_101 : szOf prog 101 = some 64 := by kernel_rfl
@[simp] theorem szOf_3 : szOf prog 3 = some 1 := by kernel_rfl
@[simp] theorem szOf_4 : szOf prog 4 = some 1 := by kernel_rfl
@[simp] theorem szOf_5 : szOf prog 5 = some 1 := by kernel_rfl
@[simp] theorem szOf_52 : szOf prog 52 = some 4 := by kernel_rfl
@[simp] theorem szOf_55 : szOf prog 55 = some 2 := by kernel_rfl
@[simp] theorem szOf_58 : szOf prog 58 = some 37 := by kernel_rfl
@[simp] theorem szOf_65 : szOf prog 65 = some 1 := by kernel_rfl
@[simp] theorem szOf_70 : szOf prog 70 = some 1 := by kernel_rfl
@[simp] theorem szOf_71 : szOf prog 71 = some 1 := by kernel_rfl
@[simp] theorem szOf_73 : szOf prog 73 = some 3 := by kernel_rfl
@[simp] theorem szOf_76 : szOf prog 76 = some 1 := by kernel_rfl
@[simp] theorem szOf_96 : szOf prog 96 = some 20 := by kernel_rfl
@[simp] theorem zeroOf_100 : zeroOf prog 100 = some (repV 32 (Value.int IntKind.u8 0)) := by kernel_rfl
@[simp] theorem zeroOf_101 : zeroOf prog 101 = some (repV 64 (Value.int IntKind.u8 0)) := by kernel_rfl
@[simp] theorem zeroOf_32 : zeroOf prog 32 = some #[Value.int IntKind.i64 0, Value.int IntKind.i64 0, Value.int IntKind.i64 0, Value.int IntKind.i64 0, Value.int IntKind.i64 0, Value.int IntKind.i64 0, Value.int IntKind.i64 0, Value.int IntKind.i64 0, Value.bool false, Value.bool false, Value.bool false, Value.bool false, Value.bool false, Value.bool false, Value.bool false, Value.bool false, Value.bool false, Value.bool false, Value.bool false, Value.bool false, Value.bool false, Value.bool false, Value.bool false, Value.bool false, Value.bool false, Value.bool false, Value.bool false, Value.bool false, Value.bool false, Value.bool false, Value.bool false, Value.bool false, Value.bool false, Value.bool false, Value.bool false, Value.bool false, Value.bool false, Value.bool false, Value.bool false, Value.bool false, Value.bool false, Value.bool false, Value.bool false, Value.bool false, Value.bool false, Value.bool false, Value.bool false, Value.bool false, Value.int IntKind.i64 0, Value.int IntKind.i64 0] := by kernel_rfl
@[simp] theorem zeroOf_52 : zeroOf prog 52 = some #[Value.int IntKind.u8 0, Value.bool false, Value.bool false, Value.bool false] := by kernel_rfl
@[simp] theorem zeroOf_55 : zeroOf prog 55 = some #[Value.int IntKind.u8 0, Value.int IntKind.u8 0] := by kernel_rfl
@[simp] theorem zeroOf_58 : zeroOf prog 58 = some #[Value.bool false, Value.int IntKind.u8 0, Value.bool false, Value.bool false, Value.bool false, Value.int IntKind.u8 0, Value.bool false, Value.bool false, Value.bool false, Value.int IntKind.u8 0, Value.bool false, Value.bool false, Value.bool false, Value.int IntKind.u8 0, Value.bool false, Value.bool false, Value.bool false, Value.int IntKind.u8 0, Value.bool false, Value.bool false, Value.bool false, Value.int IntKind.u8 0, Value.bool false, Value.bool false, Value.bool false, Value.int IntKind.u8 0, Value.bool false, Value.bool false, Value.bool false, Value.int IntKind.u8 0, Value.bool false, Value.bool false, Value.bool false, Value.int IntKind.u8 0, Value.int IntKind.u8 0, Value.int IntKind.u8 0, Value.int IntKind.u8 0] := by kernel_rfl
@[simp] theorem zeroOf_73 : zeroOf prog 73 = some #[Value.int IntKind.i64 0, Value.nilFunc, Value.nilFunc] := by kernel_rfl
@[simp] theorem zeroOf_78 : zeroOf prog 78 = some #[Value.pointer none, Value.slice none 0 0] := by kernel_rfl
@[simp] theorem zeroOf_87 : zeroOf prog 87 = some (repV 24 (Value.int IntKind.u8 0)) := by kernel_rfl
@[simp] theorem zeroOf_96 : zeroOf prog 96 = some (repV 20 (Value.int IntKind.u64 0)) := by kernel_rfl
@[simp] theorem zeroOf_97 : zeroOf prog 97 = some (repV 65 (Value.int IntKind.u8 0)) := by kernel_rfl
@[simp] theorem eqGT_32 : eqGT prog 32 = false := by kernel_rfl
@[simp] theorem eqGT_58 : eqGT prog 58 = false := by kernel_rfl

end Go.Proofs.YtfdhahnnhaeibaaDoor
