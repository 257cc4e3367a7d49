/-
  What stands where in the types of this program: each by reckoning.
-/
import Derived.Test.YtcbagjhbmdmjfaaDoorProg
import Derived.Test.YtcbagjhbmdmjfaaDoorM20
import Derived.KernelRfl
set_option linter.unusedSimpArgs false
set_option linter.unusedVariables false
set_option linter.unusedSectionVars false
namespace Go.Proofs.YtcbagjhbmdmjfaaDoor
open Go Go.Mini Go.Proofs.Tryd

/-- So many times the same. -/
def repV (n : Nat) (v : Value) : Array Value := (List.replicate n v).toArray
theorem mixed : prog.follows .mixedOrders = true := by kernel_rfl
@[simp] theorem aggSz_103 : aggSz prog 103 = some none := by kernel_rfl
@[simp] theorem aggSz_118 : aggSz prog 118 = some none := by kernel_rfl
@[simp] theorem aggSz_130 : aggSz prog 130 = some (some 3) := by kernel_rfl
@[simp] theorem aggSz_133 : aggSz prog 133 = some none := by kernel_rfl
@[simp] theorem aggSz_20 : aggSz prog 20 = some none := by kernel_rfl
@[simp] theorem aggSz_22 : aggSz prog 22 = some none := by kernel_rfl
@[simp] theorem aggSz_23 : aggSz prog 23 = some none := by kernel_rfl
@[simp] theorem aggSz_25 : aggSz prog 25 = some (some 2) := by kernel_rfl
@[simp] theorem aggSz_28 : aggSz prog 28 = some none := by kernel_rfl
@[simp] theorem aggSz_3 : aggSz prog 3 = some none := by kernel_rfl
@[simp] theorem aggSz_33 : aggSz prog 33 = some none := by kernel_rfl
@[simp] theorem aggSz_35 : aggSz prog 35 = some (some 2) := by kernel_rfl
@[simp] theorem aggSz_4 : aggSz prog 4 = some none := by kernel_rfl
@[simp] theorem aggSz_41 : aggSz prog 41 = some none := by kernel_rfl
@[simp] theorem aggSz_45 : aggSz prog 45 = some (some 5) := by kernel_rfl
@[simp] theorem aggSz_5 : aggSz prog 5 = some none := by kernel_rfl
@[simp] theorem aggSz_51 : aggSz prog 51 = some none := by kernel_rfl
@[simp] theorem aggSz_55 : aggSz prog 55 = some none := by kernel_rfl
@[simp] theorem aggSz_58 : aggSz prog 58 = some none := by kernel_rfl
@[simp] theorem aggSz_65 : aggSz prog 65 = some (some 2) := by kernel_rfl
@[simp] theorem aggSz_70 : aggSz prog 70 = some none := by kernel_rfl
@[simp] theorem aggSz_78 : aggSz prog 78 = some (some 2) := by kernel_rfl
@[simp] theorem aggSz_79 : aggSz prog 79 = some none := by kernel_rfl
@[simp] theorem aggSz_82 : aggSz prog 82 = some (some 2) := by kernel_rfl
@[simp] theorem aggSz_84 : aggSz prog 84 = some (some 2) := by kernel_rfl
@[simp] theorem aggSz_9 : aggSz prog 9 = some none := by kernel_rfl
@[simp] theorem aggSz_92 : aggSz prog 92 = some none := by kernel_rfl
@[simp] theorem apInfo_23_23 : apInfo prog #[23, 23] = some (2, 24) := by kernel_rfl
@[simp] theorem apInfo_33_33 : apInfo prog #[33, 33] = some (2, 24) := by kernel_rfl
@[simp] theorem apInfo_55_55 : apInfo prog #[55, 55] = some (1, 1) := by kernel_rfl
@[simp] theorem cvOf_166_79 : cvOf prog 166 79 = Cv.int IntKind.u32 := by kernel_rfl
@[simp] theorem cvOf_2_22 : cvOf prog 2 22 = Cv.int IntKind.u64 := by kernel_rfl
@[simp] theorem cvOf_22_3 : cvOf prog 22 3 = Cv.int IntKind.i64 := by kernel_rfl
@[simp] theorem cvOf_22_5 : cvOf prog 22 5 = Cv.int IntKind.u8 := by kernel_rfl
@[simp] theorem cvOf_22_79 : cvOf prog 22 79 = Cv.int IntKind.u32 := by kernel_rfl
@[simp] theorem cvOf_3_166 : cvOf prog 3 166 = Cv.int IntKind.u64 := by kernel_rfl
@[simp] theorem cvOf_3_22 : cvOf prog 3 22 = Cv.int IntKind.u64 := by kernel_rfl
@[simp] theorem cvOf_5_22 : cvOf prog 5 22 = Cv.int IntKind.u64 := by kernel_rfl
@[simp] theorem cvOf_5_3 : cvOf prog 5 3 = Cv.int IntKind.i64 := by kernel_rfl
@[simp] theorem cvOf_5_79 : cvOf prog 5 79 = Cv.int IntKind.u32 := by kernel_rfl
@[simp] theorem cvOf_51_3 : cvOf prog 51 3 = Cv.int IntKind.i64 := by kernel_rfl
@[simp] theorem cvOf_55_9 : cvOf prog 55 9 = Cv.ofBytes := by kernel_rfl
@[simp] theorem cvOf_79_22 : cvOf prog 79 22 = Cv.int IntKind.u64 := by kernel_rfl
@[simp] theorem cvOf_79_5 : cvOf prog 79 5 = Cv.int IntKind.u8 := by kernel_rfl
@[simp] theorem cvOf_9_55 : cvOf prog 9 55 = Cv.toBytes 5 := by kernel_rfl
@[simp] theorem elInfo_116 : elInfo prog 116 = some (2, 16, #[Value.int IntKind.u64 0, Value.int IntKind.i64 0]) := by kernel_rfl
@[simp] theorem elInfo_23 : elInfo prog 23 = some (2, 24, #[Value.int IntKind.u64 0, Value.string ⟨#[]⟩]) := by kernel_rfl
@[simp] theorem elInfo_33 : elInfo prog 33 = some (2, 24, #[Value.int IntKind.u64 0, Value.string ⟨#[]⟩]) := by kernel_rfl
@[simp] theorem elInfo_55 : elInfo prog 55 = some (1, 1, #[Value.int IntKind.u8 0]) := by kernel_rfl
@[simp] theorem eqPl_65 : eqPl prog 8 65 = some [(0, 0), (1, 2)] := by kernel_rfl
@[simp] theorem eqPl_82 : eqPl prog 8 82 = some [(0, 0), (1, 2)] := by kernel_rfl
@[simp] theorem fldOff_107_0 : fldOff prog 107 0 = some 0 := by kernel_rfl
@[simp] theorem fldOff_109_0 : fldOff prog 109 0 = some 0 := by kernel_rfl
@[simp] theorem fldOff_109_1 : fldOff prog 109 1 = some 1 := by kernel_rfl
@[simp] theorem fldOff_120_0 : fldOff prog 120 0 = some 0 := by kernel_rfl
@[simp] theorem fldOff_120_1 : fldOff prog 120 1 = some 1 := by kernel_rfl
@[simp] theorem fldOff_120_2 : fldOff prog 120 2 = some 2 := by kernel_rfl
@[simp] theorem fldOff_120_3 : fldOff prog 120 3 = some 3 := by kernel_rfl
@[simp] theorem fldOff_25_0 : fldOff prog 25 0 = some 0 := by kernel_rfl
@[simp] theorem fldOff_25_1 : fldOff prog 25 1 = some 1 := by kernel_rfl
@[simp] theorem fldOff_35_0 : fldOff prog 35 0 = some 0 := by kernel_rfl
@[simp] theorem fldOff_35_1 : fldOff prog 35 1 = some 1 := by kernel_rfl
@[simp] theorem fldOff_45_0 : fldOff prog 45 0 = some 0 := by kernel_rfl
@[simp] theorem fldOff_45_1 : fldOff prog 45 1 = some 1 := by kernel_rfl
@[simp] theorem fldOff_45_2 : fldOff prog 45 2 = some 2 := by kernel_rfl
@[simp] theorem fldOff_45_3 : fldOff prog 45 3 = some 3 := by kernel_rfl
@[simp] theorem fldOff_65_0 : fldOff prog 65 0 = some 0 := by kernel_rfl
@[simp] theorem fldOff_65_1 : fldOff prog 65 1 = some 1 := by kernel_rfl
@[simp] theorem fldOff_72_0 : fldOff prog 72 0 = some 0 := by kernel_rfl
@[simp] theorem fldOff_72_1 : fldOff prog 72 1 = some 1 := by kernel_rfl
@[simp] theorem fldOff_72_2 : fldOff prog 72 2 = some 2 := by kernel_rfl
@[simp] theorem fldOff_78_0 : fldOff prog 78 0 = some 0 := by kernel_rfl
@[simp] theorem fldOff_78_1 : fldOff prog 78 1 = some 1 := by kernel_rfl
@[simp] theorem fldOff_82_0 : fldOff prog 82 0 = some 0 := by kernel_rfl
@[simp] theorem fldOff_82_1 : fldOff prog 82 1 = some 1 := by kernel_rfl
@[simp] theorem fldOff_84_0 : fldOff prog 84 0 = some 0 := by kernel_rfl
@[simp] theorem fldOff_84_1 : fldOff prog 84 1 = some 1 := by kernel_rfl
@[simp] theorem fldOff_95_0 : fldOff prog 95 0 = some 0 := by kernel_rfl
@[simp] theorem fldOff_95_1 : fldOff prog 95 1 = some 1 := by kernel_rfl
@[simp] theorem fldOff_95_2 : fldOff prog 95 2 = some 3 := by kernel_rfl
@[simp] theorem ifaceOk_100 : ifaceOk prog 100 = true := by kernel_rfl
@[simp] theorem ifaceOk_101 : ifaceOk prog 101 = true := by kernel_rfl
@[simp] theorem ifaceOk_112 : ifaceOk prog 112 = true := by kernel_rfl
@[simp] theorem ifaceOk_196 : ifaceOk prog 196 = true := by kernel_rfl
@[simp] theorem ifaceOk_28 : ifaceOk prog 28 = true := by kernel_rfl
@[simp] theorem ifaceOk_70 : ifaceOk prog 70 = true := by kernel_rfl
@[simp] theorem ifaceOk_9 : ifaceOk prog 9 = true := by kernel_rfl
@[simp] theorem isStr_157 : isStr prog 157 = false := by kernel_rfl
@[simp] theorem isStr_164 : isStr prog 164 = false := by kernel_rfl
@[simp] theorem isStr_55 : isStr prog 55 = false := by kernel_rfl
@[simp] theorem isStr_9 : isStr prog 9 = true := by kernel_rfl
@[simp] theorem ixInfo_116 : ixInfo prog 116 = some (none, 2, some 2) := by kernel_rfl
@[simp] theorem ixInfo_145 : ixInfo prog 145 = some (none, 1, none) := by kernel_rfl
@[simp] theorem ixInfo_147 : ixInfo prog 147 = some (some 15, 1, none) := by kernel_rfl
@[simp] theorem ixInfo_157 : ixInfo prog 157 = some (some 24, 1, none) := by kernel_rfl
@[simp] theorem ixInfo_163 : ixInfo prog 163 = some (some 20, 1, none) := by kernel_rfl
@[simp] theorem ixInfo_164 : ixInfo prog 164 = some (some 65, 1, none) := by kernel_rfl
@[simp] theorem ixInfo_169 : ixInfo prog 169 = some (some 32, 1, none) := by kernel_rfl
@[simp] theorem ixInfo_170 : ixInfo prog 170 = some (some 64, 1, none) := by kernel_rfl
@[simp] theorem ixInfo_23 : ixInfo prog 23 = some (none, 2, some 2) := by kernel_rfl
@[simp] theorem ixInfo_33 : ixInfo prog 33 = some (none, 2, some 2) := by kernel_rfl
@[simp] theorem ixInfo_52 : ixInfo prog 52 = some (some 2, 1, none) := by kernel_rfl
@[simp] theorem ixInfo_55 : ixInfo prog 55 = some (none, 1, none) := by kernel_rfl
@[simp] theorem ixInfo_9 : ixInfo prog 9 = none := by kernel_rfl
@[simp] theorem lenK_116 : lenK prog 116 = LenK.slice := by kernel_rfl
@[simp] theorem lenK_145 : lenK prog 145 = LenK.slice := by kernel_rfl
@[simp] theorem lenK_23 : lenK prog 23 = LenK.slice := by kernel_rfl
@[simp] theorem lenK_33 : lenK prog 33 = LenK.slice := by kernel_rfl
@[simp] theorem lenK_55 : lenK prog 55 = LenK.slice := by kernel_rfl
@[simp] theorem lenK_9 : lenK prog 9 = LenK.str := by kernel_rfl
@[simp] theorem methOf_70_Unwrap : methOf prog 70 "Unwrap" = some 33 := by kernel_rfl
@[simp] theorem plc_107 : plc prog 107 = Plc.st #[(0, 1), (1, 1)] := by kernel_rfl
@[simp] theorem plc_109 : plc prog 109 = Plc.st #[(0, 1), (1, 2)] := by kernel_rfl
@[simp] theorem plc_114 : plc prog 114 = Plc.st #[(0, 1)] := by kernel_rfl
@[simp] theorem plc_120 : plc prog 120 = Plc.st #[(0, 1), (1, 1), (2, 1), (3, 1)] := by kernel_rfl
@[simp] theorem plc_147 : plc prog 147 = Plc.arr 1 := by kernel_rfl
@[simp] theorem plc_163 : plc prog 163 = Plc.arr 1 := by kernel_rfl
@[simp] theorem plc_169 : plc prog 169 = Plc.arr 1 := by kernel_rfl
@[simp] theorem plc_170 : plc prog 170 = Plc.arr 1 := by kernel_rfl
@[simp] theorem plc_25 : plc prog 25 = Plc.st #[(0, 1), (1, 1)] := by kernel_rfl
@[simp] theorem plc_35 : plc prog 35 = Plc.st #[(0, 1), (1, 1)] := by kernel_rfl
@[simp] theorem plc_45 : plc prog 45 = Plc.st #[(0, 1), (1, 1), (2, 1), (3, 2)] := by kernel_rfl
@[simp] theorem plc_65 : plc prog 65 = Plc.st #[(0, 1), (1, 1)] := by kernel_rfl
@[simp] theorem plc_72 : plc prog 72 = Plc.st #[(0, 1), (1, 1), (2, 1)] := by kernel_rfl
@[simp] theorem plc_78 : plc prog 78 = Plc.st #[(0, 1), (1, 1)] := by kernel_rfl
@[simp] theorem plc_82 : plc prog 82 = Plc.st #[(0, 1), (1, 1)] := by kernel_rfl
@[simp] theorem plc_84 : plc prog 84 = Plc.st #[(0, 1), (1, 1)] := by kernel_rfl
@[simp] theorem plc_95 : plc prog 95 = Plc.st #[(0, 1), (1, 2), (3, 1)] := by kernel_rfl
@[simp] theorem szOf_103 : szOf prog 103 = some 1 := by kernel_rfl
@[simp] theorem szOf_107 : szOf prog 107 = some 2 := by kernel_rfl
@[simp] theorem szOf_118 : szOf prog 118 = some 1 := by kernel_rfl
@[simp] theorem szOf_130 : szOf prog 130 = some 3 := by kernel_rfl
@[simp] theorem szOf_147 : szOf prog 147 = some 15 := by kernel_rfl
@[simp] theorem szOf_163 : szOf prog 163 = some 20 := by kernel_rfl
@[simp] theorem szOf_169 : szOf prog 169 = some 32 := by kernel_rfl
@[simp] theorem szOf_170 : szOf prog 170 = some 64 := by kernel_rfl
@[simp] theorem szOf_22 : szOf prog 22 = some 1 := by kernel_rfl
@[simp] theorem szOf_23 : szOf prog 23 = some 1 := by kernel_rfl
@[simp] theorem szOf_25 : szOf prog 25 = some 2 := by kernel_rfl
@[simp] theorem szOf_28 : szOf prog 28 = some 1 := by kernel_rfl
@[simp] theorem szOf_3 : szOf prog 3 = some 1 := by kernel_rfl
@[simp] theorem szOf_33 : szOf prog 33 = some 1 := by kernel_rfl
@[simp] theorem szOf_35 : szOf prog 35 = some 2 := by kernel_rfl
@[simp] theorem szOf_4 : szOf prog 4 = some 1 := by kernel_rfl
@[simp] theorem szOf_45 : szOf prog 45 = some 5 := by kernel_rfl
@[simp] theorem szOf_5 : szOf prog 5 = some 1 := by kernel_rfl
@[simp] theorem szOf_65 : szOf prog 65 = some 2 := by kernel_rfl
@[simp] theorem szOf_70 : szOf prog 70 = some 1 := by kernel_rfl
@[simp] theorem szOf_78 : szOf prog 78 = some 2 := by kernel_rfl
@[simp] theorem szOf_84 : szOf prog 84 = some 2 := by kernel_rfl
@[simp] theorem szOf_9 : szOf prog 9 = some 1 := by kernel_rfl
@[simp] theorem szOf_92 : szOf prog 92 = some 1 := by kernel_rfl
@[simp] theorem zeroOf_107 : zeroOf prog 107 = some #[Value.int IntKind.u64 0, Value.int IntKind.i64 0] := by kernel_rfl
@[simp] theorem zeroOf_109 : zeroOf prog 109 = some #[Value.slice none 0 0, Value.int IntKind.u64 0, Value.int IntKind.i64 0] := by kernel_rfl
@[simp] theorem zeroOf_114 : zeroOf prog 114 = some #[Value.string ⟨#[]⟩] := by kernel_rfl
@[simp] theorem zeroOf_120 : zeroOf prog 120 = some #[Value.nilFunc, Value.int IntKind.i64 0, Value.int IntKind.i64 0, Value.bool false] := by kernel_rfl
@[simp] theorem zeroOf_130 : zeroOf prog 130 = some #[Value.pointer none, Value.pointer none, Value.int IntKind.u64 0] := by kernel_rfl
@[simp] theorem zeroOf_147 : zeroOf prog 147 = some #[Value.string ⟨#[]⟩, Value.string ⟨#[]⟩, Value.string ⟨#[]⟩, Value.string ⟨#[]⟩, Value.string ⟨#[]⟩, Value.string ⟨#[]⟩, Value.string ⟨#[]⟩, Value.string ⟨#[]⟩, Value.string ⟨#[]⟩, Value.string ⟨#[]⟩, Value.string ⟨#[]⟩, Value.string ⟨#[]⟩, Value.string ⟨#[]⟩, Value.string ⟨#[]⟩, Value.string ⟨#[]⟩] := by kernel_rfl
@[simp] theorem zeroOf_157 : zeroOf prog 157 = some (repV 24 (Value.int IntKind.u8 0)) := by kernel_rfl
@[simp] theorem zeroOf_163 : zeroOf prog 163 = some (repV 20 (Value.int IntKind.u64 0)) := by kernel_rfl
@[simp] theorem zeroOf_164 : zeroOf prog 164 = some (repV 65 (Value.int IntKind.u8 0)) := by kernel_rfl
@[simp] theorem zeroOf_169 : zeroOf prog 169 = some (repV 32 (Value.int IntKind.u8 0)) := by kernel_rfl
@[simp] theorem zeroOf_170 : zeroOf prog 170 = some (repV 64 (Value.int IntKind.u8 0)) := by kernel_rfl
@[simp] theorem zeroOf_25 : zeroOf prog 25 = some #[Value.int IntKind.u64 0, Value.slice none 0 0] := by kernel_rfl
@[simp] theorem zeroOf_28 : zeroOf prog 28 = some #[Value.int IntKind.i64 0] := by kernel_rfl
@[simp] theorem zeroOf_35 : zeroOf prog 35 = some #[Value.int IntKind.u64 0, Value.slice none 0 0] := by kernel_rfl
@[simp] theorem zeroOf_45 : zeroOf prog 45 = some #[Value.string ⟨#[]⟩, Value.int IntKind.i64 0, Value.int IntKind.i64 0, Value.int IntKind.u64 0, Value.slice none 0 0] := by kernel_rfl
@[simp] theorem zeroOf_65 : zeroOf prog 65 = some #[Value.int IntKind.u64 0, Value.string ⟨#[]⟩] := by kernel_rfl
@[simp] theorem zeroOf_70 : zeroOf prog 70 = some #[Value.pointer none] := by kernel_rfl
@[simp] theorem zeroOf_72 : zeroOf prog 72 = some #[Value.string ⟨#[]⟩, Value.int IntKind.i64 0, Value.int IntKind.i64 0] := by kernel_rfl
@[simp] theorem zeroOf_78 : zeroOf prog 78 = some #[Value.int IntKind.u64 0, Value.int IntKind.i64 0] := by kernel_rfl
@[simp] theorem zeroOf_82 : zeroOf prog 82 = some #[Value.int IntKind.u64 0, Value.string ⟨#[]⟩] := by kernel_rfl
@[simp] theorem zeroOf_84 : zeroOf prog 84 = some #[Value.int IntKind.u64 0, Value.int IntKind.u64 0] := by kernel_rfl
@[simp] theorem zeroOf_92 : zeroOf prog 92 = some #[Value.pointer none] := by kernel_rfl
@[simp] theorem zeroOf_95 : zeroOf prog 95 = some #[Value.pointer none, Value.int IntKind.u64 0, Value.int IntKind.u64 0, Value.pointer none] := by kernel_rfl
@[simp] theorem eqGT_65 : eqGT prog 65 = false := by kernel_rfl
@[simp] theorem eqGT_82 : eqGT prog 82 = false := by kernel_rfl

end Go.Proofs.YtcbagjhbmdmjfaaDoor
