/-
  What stands where in the types of this program: each by reckoning.
-/
import Derived.Test.YtcfgagpjdhhddaaProg
import Derived.Test.YtcfgagpjdhhddaaM20
import Derived.KernelRfl
set_option linter.unusedSimpArgs false
set_option linter.unusedVariables false
set_option linter.unusedSectionVars false
namespace Go.Proofs.Ytcfgagpjdhhddaa
open Go Go.Mini Go.Proofs.Try

/-- So many times the same. -/
def repV (n : Nat) (v : Value) : Array Value := (List.replicate n v).toArray
theorem mixed : prog.follows .mixedOrders = true := by kernel_rfl
@[simp] theorem aggSz_23 : aggSz prog 23 = some none := by kernel_rfl
@[simp] theorem aggSz_3 : aggSz prog 3 = some none := by kernel_rfl
@[simp] theorem aggSz_32 : aggSz prog 32 = some (some 2) := by kernel_rfl
@[simp] theorem aggSz_33 : aggSz prog 33 = some (some 2) := by kernel_rfl
@[simp] theorem aggSz_36 : aggSz prog 36 = some none := by kernel_rfl
@[simp] theorem aggSz_38 : aggSz prog 38 = some (some 4) := by kernel_rfl
@[simp] theorem aggSz_4 : aggSz prog 4 = some none := by kernel_rfl
@[simp] theorem aggSz_5 : aggSz prog 5 = some none := by kernel_rfl
@[simp] theorem aggSz_52 : aggSz prog 52 = some none := by kernel_rfl
@[simp] theorem aggSz_58 : aggSz prog 58 = some none := by kernel_rfl
@[simp] theorem aggSz_68 : aggSz prog 68 = some (some 2) := by kernel_rfl
@[simp] theorem aggSz_74 : aggSz prog 74 = some none := by kernel_rfl
@[simp] theorem aggSz_9 : aggSz prog 9 = some none := by kernel_rfl
@[simp] theorem apInfo_23_23 : apInfo prog #[23, 23] = some (4, 12) := by kernel_rfl
@[simp] theorem apInfo_24_24 : apInfo prog #[24, 24] = some (2, 16) := by kernel_rfl
@[simp] theorem apInfo_27_27 : apInfo prog #[27, 27] = some (2, 16) := by kernel_rfl
@[simp] theorem apInfo_35_35 : apInfo prog #[35, 35] = some (1, 1) := by kernel_rfl
@[simp] theorem apInfo_35_9 : apInfo prog #[35, 9] = some (1, 1) := by kernel_rfl
@[simp] theorem cvOf_3_5 : cvOf prog 3 5 = Cv.int IntKind.u8 := by kernel_rfl
@[simp] theorem cvOf_35_9 : cvOf prog 35 9 = Cv.ofBytes := by kernel_rfl
@[simp] theorem cvOf_36_3 : cvOf prog 36 3 = Cv.int IntKind.i64 := by kernel_rfl
@[simp] theorem cvOf_36_52 : cvOf prog 36 52 = Cv.int IntKind.u64 := by kernel_rfl
@[simp] theorem cvOf_5_3 : cvOf prog 5 3 = Cv.int IntKind.i64 := by kernel_rfl
@[simp] theorem cvOf_5_52 : cvOf prog 5 52 = Cv.int IntKind.u64 := by kernel_rfl
@[simp] theorem cvOf_52_36 : cvOf prog 52 36 = Cv.int IntKind.u32 := by kernel_rfl
@[simp] theorem cvOf_52_5 : cvOf prog 52 5 = Cv.int IntKind.u8 := by kernel_rfl
@[simp] theorem cvOf_9_35 : cvOf prog 9 35 = Cv.toBytes 5 := by kernel_rfl
@[simp] theorem elInfo_23 : elInfo prog 23 = some (4, 12, #[Value.int IntKind.u32 0, Value.int IntKind.u8 0, Value.int IntKind.u8 0, Value.int IntKind.u32 0]) := by kernel_rfl
@[simp] theorem elInfo_24 : elInfo prog 24 = some (2, 16, #[Value.int IntKind.i64 0, Value.int IntKind.u8 0]) := by kernel_rfl
@[simp] theorem elInfo_27 : elInfo prog 27 = some (2, 16, #[Value.int IntKind.i64 0, Value.int IntKind.u8 0]) := by kernel_rfl
@[simp] theorem elInfo_35 : elInfo prog 35 = some (1, 1, #[Value.int IntKind.u8 0]) := by kernel_rfl
@[simp] theorem elInfo_82 : elInfo prog 82 = some (2, 16, #[Value.int IntKind.u64 0, Value.int IntKind.i64 0]) := by kernel_rfl
@[simp] theorem eqPl_32 : eqPl prog 8 32 = some [(0, 0), (1, 0)] := by kernel_rfl
@[simp] theorem eqPl_33 : eqPl prog 8 33 = some [(0, 0), (1, 0)] := by kernel_rfl
@[simp] theorem eqPl_38 : eqPl prog 8 38 = some [(0, 0), (1, 0), (2, 0), (3, 0)] := by kernel_rfl
@[simp] theorem fldOff_33_0 : fldOff prog 33 0 = some 0 := by kernel_rfl
@[simp] theorem fldOff_33_1 : fldOff prog 33 1 = some 1 := by kernel_rfl
@[simp] theorem fldOff_38_0 : fldOff prog 38 0 = some 0 := by kernel_rfl
@[simp] theorem fldOff_38_1 : fldOff prog 38 1 = some 1 := by kernel_rfl
@[simp] theorem fldOff_38_2 : fldOff prog 38 2 = some 2 := by kernel_rfl
@[simp] theorem fldOff_38_3 : fldOff prog 38 3 = some 3 := by kernel_rfl
@[simp] theorem fldOff_48_0 : fldOff prog 48 0 = some 0 := by kernel_rfl
@[simp] theorem fldOff_68_0 : fldOff prog 68 0 = some 0 := by kernel_rfl
@[simp] theorem fldOff_68_1 : fldOff prog 68 1 = some 1 := by kernel_rfl
@[simp] theorem fldOff_72_0 : fldOff prog 72 0 = some 0 := by kernel_rfl
@[simp] theorem fldOff_76_0 : fldOff prog 76 0 = some 0 := by kernel_rfl
@[simp] theorem fldOff_76_1 : fldOff prog 76 1 = some 1 := by kernel_rfl
@[simp] theorem fldOff_76_2 : fldOff prog 76 2 = some 2 := by kernel_rfl
@[simp] theorem fldOff_76_3 : fldOff prog 76 3 = some 3 := by kernel_rfl
@[simp] theorem isStr_23 : isStr prog 23 = false := by kernel_rfl
@[simp] theorem isStr_9 : isStr prog 9 = true := by kernel_rfl
@[simp] theorem ixInfo_23 : ixInfo prog 23 = some (none, 4, some 4) := by kernel_rfl
@[simp] theorem ixInfo_24 : ixInfo prog 24 = some (none, 2, some 2) := by kernel_rfl
@[simp] theorem ixInfo_27 : ixInfo prog 27 = some (none, 2, some 2) := by kernel_rfl
@[simp] theorem ixInfo_35 : ixInfo prog 35 = some (none, 1, none) := by kernel_rfl
@[simp] theorem ixInfo_43 : ixInfo prog 43 = some (none, 1, none) := by kernel_rfl
@[simp] theorem ixInfo_60 : ixInfo prog 60 = some (some 256, 1, none) := by kernel_rfl
@[simp] theorem ixInfo_82 : ixInfo prog 82 = some (none, 2, some 2) := by kernel_rfl
@[simp] theorem ixInfo_9 : ixInfo prog 9 = none := by kernel_rfl
@[simp] theorem lenK_23 : lenK prog 23 = LenK.slice := by kernel_rfl
@[simp] theorem lenK_24 : lenK prog 24 = LenK.slice := by kernel_rfl
@[simp] theorem lenK_27 : lenK prog 27 = LenK.slice := by kernel_rfl
@[simp] theorem lenK_35 : lenK prog 35 = LenK.slice := by kernel_rfl
@[simp] theorem lenK_43 : lenK prog 43 = LenK.slice := by kernel_rfl
@[simp] theorem lenK_82 : lenK prog 82 = LenK.slice := by kernel_rfl
@[simp] theorem lenK_9 : lenK prog 9 = LenK.str := by kernel_rfl
@[simp] theorem plc_32 : plc prog 32 = Plc.st #[(0, 1), (1, 1)] := by kernel_rfl
@[simp] theorem plc_33 : plc prog 33 = Plc.st #[(0, 1), (1, 1)] := by kernel_rfl
@[simp] theorem plc_38 : plc prog 38 = Plc.st #[(0, 1), (1, 1), (2, 1), (3, 1)] := by kernel_rfl
@[simp] theorem plc_48 : plc prog 48 = Plc.st #[(0, 1)] := by kernel_rfl
@[simp] theorem plc_68 : plc prog 68 = Plc.st #[(0, 1), (1, 1)] := by kernel_rfl
@[simp] theorem plc_72 : plc prog 72 = Plc.st #[(0, 1)] := by kernel_rfl
@[simp] theorem plc_76 : plc prog 76 = Plc.st #[(0, 1), (1, 1), (2, 1), (3, 1)] := by kernel_rfl
@[simp] theorem szOf_23 : szOf prog 23 = some 1 := by kernel_rfl
@[simp] theorem szOf_3 : szOf prog 3 = some 1 := by kernel_rfl
@[simp] theorem szOf_36 : szOf prog 36 = some 1 := by kernel_rfl
@[simp] theorem szOf_38 : szOf prog 38 = some 4 := by kernel_rfl
@[simp] theorem szOf_4 : szOf prog 4 = some 1 := by kernel_rfl
@[simp] theorem szOf_58 : szOf prog 58 = some 1 := by kernel_rfl
@[simp] theorem szOf_68 : szOf prog 68 = some 2 := by kernel_rfl
@[simp] theorem szOf_74 : szOf prog 74 = some 1 := by kernel_rfl
@[simp] theorem zeroOf_32 : zeroOf prog 32 = some #[Value.int IntKind.i64 0, Value.int IntKind.u8 0] := by kernel_rfl
@[simp] theorem zeroOf_33 : zeroOf prog 33 = some #[Value.int IntKind.i64 0, Value.int IntKind.u8 0] := by kernel_rfl
@[simp] theorem zeroOf_38 : zeroOf prog 38 = some #[Value.int IntKind.u32 0, Value.int IntKind.u8 0, Value.int IntKind.u8 0, Value.int IntKind.u32 0] := by kernel_rfl
@[simp] theorem zeroOf_48 : zeroOf prog 48 = some #[Value.slice none 0 0] := by kernel_rfl
@[simp] theorem zeroOf_58 : zeroOf prog 58 = some #[Value.pointer none] := by kernel_rfl
@[simp] theorem zeroOf_60 : zeroOf prog 60 = some (repV 256 (Value.int IntKind.u32 0)) := by kernel_rfl
@[simp] theorem zeroOf_68 : zeroOf prog 68 = some #[Value.int IntKind.u64 0, Value.int IntKind.i64 0] := by kernel_rfl
@[simp] theorem zeroOf_72 : zeroOf prog 72 = some #[Value.slice none 0 0] := by kernel_rfl
@[simp] theorem zeroOf_76 : zeroOf prog 76 = some #[Value.nilFunc, Value.int IntKind.i64 0, Value.int IntKind.i64 0, Value.bool false] := by kernel_rfl
@[simp] theorem eqGT_32 : eqGT prog 32 = false := by kernel_rfl
@[simp] theorem eqGT_33 : eqGT prog 33 = false := by kernel_rfl
@[simp] theorem eqGT_38 : eqGT prog 38 = false := by kernel_rfl

end Go.Proofs.Ytcfgagpjdhhddaa
