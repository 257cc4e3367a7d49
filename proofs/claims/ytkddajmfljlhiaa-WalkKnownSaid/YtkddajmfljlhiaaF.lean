/-
  What stands where in the types of this program: each by reckoning.
-/
import Derived.Test.YtkddajmfljlhiaaProg
import Derived.Test.YtkddajmfljlhiaaM20
import Derived.KernelRfl
set_option linter.unusedSimpArgs false
set_option linter.unusedVariables false
namespace Go.Proofs.Ytkddajmfljlhiaa
open Go Go.Mini Go.Proofs.Try

/-- So many times the same. -/
def repV (n : Nat) (v : Value) : Array Value := (List.replicate n v).toArray
theorem mixed : prog.follows .mixedOrders = true := by kernel_rfl
@[simp] theorem aggSz_22 : aggSz prog 22 = some none := by kernel_rfl
@[simp] theorem aggSz_23 : aggSz prog 23 = some none := by kernel_rfl
@[simp] theorem aggSz_25 : aggSz prog 25 = some (some 6) := by kernel_rfl
@[simp] theorem aggSz_3 : aggSz prog 3 = some none := by kernel_rfl
@[simp] theorem aggSz_32 : aggSz prog 32 = some (some 6) := by kernel_rfl
@[simp] theorem aggSz_33 : aggSz prog 33 = some (some 3) := by kernel_rfl
@[simp] theorem aggSz_35 : aggSz prog 35 = some (some 8) := by kernel_rfl
@[simp] theorem aggSz_37 : aggSz prog 37 = some (some 8) := by kernel_rfl
@[simp] theorem aggSz_4 : aggSz prog 4 = some none := by kernel_rfl
@[simp] theorem aggSz_43 : aggSz prog 43 = some none := by kernel_rfl
@[simp] theorem aggSz_47 : aggSz prog 47 = some (some 4) := by kernel_rfl
@[simp] theorem aggSz_48 : aggSz prog 48 = some (some 4) := by kernel_rfl
@[simp] theorem aggSz_5 : aggSz prog 5 = some none := by kernel_rfl
@[simp] theorem aggSz_61 : aggSz prog 61 = some none := by kernel_rfl
@[simp] theorem apInfo_22_22 : apInfo prog #[22, 22] = some (4, 24) := by kernel_rfl
@[simp] theorem apInfo_43_43 : apInfo prog #[43, 43] = some (4, 24) := by kernel_rfl
@[simp] theorem cvOf_23_2 : cvOf prog 23 2 = Cv.int IntKind.i64 := by kernel_rfl
@[simp] theorem cvOf_5_3 : cvOf prog 5 3 = Cv.int IntKind.i64 := by kernel_rfl
@[simp] theorem elInfo_22 : elInfo prog 22 = some (4, 24, #[Value.int IntKind.u64 0, Value.int IntKind.u64 0, Value.bool false, Value.bool false]) := by kernel_rfl
@[simp] theorem elInfo_43 : elInfo prog 43 = some (4, 24, #[Value.int IntKind.u64 0, Value.int IntKind.u64 0, Value.bool false, Value.bool false]) := by kernel_rfl
@[simp] theorem eqPl_35 : eqPl prog 8 35 = some [(0, 0), (1, 0), (2, 0), (3, 0), (4, 0), (5, 0), (6, 0), (7, 0)] := by kernel_rfl
@[simp] theorem eqPl_37 : eqPl prog 8 37 = some [(0, 0), (1, 0), (2, 0), (3, 0), (4, 0), (5, 0), (6, 0), (7, 0)] := by kernel_rfl
@[simp] theorem eqPl_47 : eqPl prog 8 47 = some [(0, 0), (1, 0), (2, 1), (3, 1)] := by kernel_rfl
@[simp] theorem fldOff_25_0 : fldOff prog 25 0 = some 0 := by kernel_rfl
@[simp] theorem fldOff_25_1 : fldOff prog 25 1 = some 1 := by kernel_rfl
@[simp] theorem fldOff_25_2 : fldOff prog 25 2 = some 2 := by kernel_rfl
@[simp] theorem fldOff_25_3 : fldOff prog 25 3 = some 3 := by kernel_rfl
@[simp] theorem fldOff_25_4 : fldOff prog 25 4 = some 4 := by kernel_rfl
@[simp] theorem fldOff_25_5 : fldOff prog 25 5 = some 5 := by kernel_rfl
@[simp] theorem fldOff_32_0 : fldOff prog 32 0 = some 0 := by kernel_rfl
@[simp] theorem fldOff_32_1 : fldOff prog 32 1 = some 1 := by kernel_rfl
@[simp] theorem fldOff_32_2 : fldOff prog 32 2 = some 2 := by kernel_rfl
@[simp] theorem fldOff_32_3 : fldOff prog 32 3 = some 3 := by kernel_rfl
@[simp] theorem fldOff_32_4 : fldOff prog 32 4 = some 4 := by kernel_rfl
@[simp] theorem fldOff_32_5 : fldOff prog 32 5 = some 5 := by kernel_rfl
@[simp] theorem fldOff_35_0 : fldOff prog 35 0 = some 0 := by kernel_rfl
@[simp] theorem fldOff_35_1 : fldOff prog 35 1 = some 1 := by kernel_rfl
@[simp] theorem fldOff_35_2 : fldOff prog 35 2 = some 2 := by kernel_rfl
@[simp] theorem fldOff_35_3 : fldOff prog 35 3 = some 3 := by kernel_rfl
@[simp] theorem fldOff_35_4 : fldOff prog 35 4 = some 4 := by kernel_rfl
@[simp] theorem fldOff_35_5 : fldOff prog 35 5 = some 7 := by kernel_rfl
@[simp] theorem fldOff_37_1 : fldOff prog 37 1 = some 1 := by kernel_rfl
@[simp] theorem fldOff_37_2 : fldOff prog 37 2 = some 2 := by kernel_rfl
@[simp] theorem fldOff_37_3 : fldOff prog 37 3 = some 3 := by kernel_rfl
@[simp] theorem fldOff_37_4 : fldOff prog 37 4 = some 4 := by kernel_rfl
@[simp] theorem fldOff_37_5 : fldOff prog 37 5 = some 7 := by kernel_rfl
@[simp] theorem fldOff_45_0 : fldOff prog 45 0 = some 0 := by kernel_rfl
@[simp] theorem fldOff_47_0 : fldOff prog 47 0 = some 0 := by kernel_rfl
@[simp] theorem fldOff_47_1 : fldOff prog 47 1 = some 1 := by kernel_rfl
@[simp] theorem fldOff_47_2 : fldOff prog 47 2 = some 2 := by kernel_rfl
@[simp] theorem fldOff_47_3 : fldOff prog 47 3 = some 3 := by kernel_rfl
@[simp] theorem fldOff_48_0 : fldOff prog 48 0 = some 0 := by kernel_rfl
@[simp] theorem fldOff_48_1 : fldOff prog 48 1 = some 1 := by kernel_rfl
@[simp] theorem fldOff_48_2 : fldOff prog 48 2 = some 2 := by kernel_rfl
@[simp] theorem fldOff_48_3 : fldOff prog 48 3 = some 3 := by kernel_rfl
@[simp] theorem fldOff_50_0 : fldOff prog 50 0 = some 0 := by kernel_rfl
@[simp] theorem fldOff_50_1 : fldOff prog 50 1 = some 1 := by kernel_rfl
@[simp] theorem fldOff_64_0 : fldOff prog 64 0 = some 0 := by kernel_rfl
@[simp] theorem fldOff_64_1 : fldOff prog 64 1 = some 1 := by kernel_rfl
@[simp] theorem fldOff_64_2 : fldOff prog 64 2 = some 7 := by kernel_rfl
@[simp] theorem fldOff_76_0 : fldOff prog 76 0 = some 0 := by kernel_rfl
@[simp] theorem fldOff_76_1 : fldOff prog 76 1 = some 6 := by kernel_rfl
@[simp] theorem fldOff_76_2 : fldOff prog 76 2 = some 14 := by kernel_rfl
@[simp] theorem fldOff_76_3 : fldOff prog 76 3 = some 15 := by kernel_rfl
@[simp] theorem fldOff_76_4 : fldOff prog 76 4 = some 16 := by kernel_rfl
@[simp] theorem fldOff_76_5 : fldOff prog 76 5 = some 17 := by kernel_rfl
@[simp] theorem fldOff_76_6 : fldOff prog 76 6 = some 18 := by kernel_rfl
@[simp] theorem fldPart_35_0 : fldPart prog 35 0 = some (0, none) := by kernel_rfl
@[simp] theorem ifaceOk_28 : ifaceOk prog 28 = true := by kernel_rfl
@[simp] theorem ixInfo_22 : ixInfo prog 22 = some (none, 4, some 4) := by kernel_rfl
@[simp] theorem ixInfo_26 : ixInfo prog 26 = some (some 2, 6, some 6) := by kernel_rfl
@[simp] theorem ixInfo_33 : ixInfo prog 33 = some (some 3, 1, none) := by kernel_rfl
@[simp] theorem ixInfo_43 : ixInfo prog 43 = some (none, 4, some 4) := by kernel_rfl
@[simp] theorem lenK_22 : lenK prog 22 = LenK.slice := by kernel_rfl
@[simp] theorem lenK_43 : lenK prog 43 = LenK.slice := by kernel_rfl
@[simp] theorem methOf_28_Read : methOf prog 28 "Read" = some 57 := by kernel_rfl
@[simp] theorem methOf_28_Write : methOf prog 28 "Write" = some 58 := by kernel_rfl
@[simp] theorem plc_25 : plc prog 25 = Plc.st #[(0, 1), (1, 1), (2, 1), (3, 1), (4, 1), (5, 1)] := by kernel_rfl
@[simp] theorem plc_33 : plc prog 33 = Plc.arr 1 := by kernel_rfl
@[simp] theorem plc_35 : plc prog 35 = Plc.st #[(0, 1), (1, 1), (2, 1), (3, 1), (4, 3), (7, 1)] := by kernel_rfl
@[simp] theorem plc_37 : plc prog 37 = Plc.st #[(0, 1), (1, 1), (2, 1), (3, 1), (4, 3), (7, 1)] := by kernel_rfl
@[simp] theorem plc_45 : plc prog 45 = Plc.st #[(0, 1)] := by kernel_rfl
@[simp] theorem plc_48 : plc prog 48 = Plc.st #[(0, 1), (1, 1), (2, 1), (3, 1)] := by kernel_rfl
@[simp] theorem plc_50 : plc prog 50 = Plc.st #[(0, 1), (1, 1)] := by kernel_rfl
@[simp] theorem plc_64 : plc prog 64 = Plc.st #[(0, 1), (1, 6), (7, 8)] := by kernel_rfl
@[simp] theorem plc_76 : plc prog 76 = Plc.st #[(0, 6), (6, 8), (14, 1), (15, 1), (16, 1), (17, 1), (18, 1)] := by kernel_rfl
@[simp] theorem szOf_22 : szOf prog 22 = some 1 := by kernel_rfl
@[simp] theorem szOf_23 : szOf prog 23 = some 1 := by kernel_rfl
@[simp] theorem szOf_25 : szOf prog 25 = some 6 := by kernel_rfl
@[simp] theorem szOf_3 : szOf prog 3 = some 1 := by kernel_rfl
@[simp] theorem szOf_32 : szOf prog 32 = some 6 := by kernel_rfl
@[simp] theorem szOf_33 : szOf prog 33 = some 3 := by kernel_rfl
@[simp] theorem szOf_35 : szOf prog 35 = some 8 := by kernel_rfl
@[simp] theorem szOf_37 : szOf prog 37 = some 8 := by kernel_rfl
@[simp] theorem szOf_4 : szOf prog 4 = some 1 := by kernel_rfl
@[simp] theorem szOf_43 : szOf prog 43 = some 1 := by kernel_rfl
@[simp] theorem szOf_5 : szOf prog 5 = some 1 := by kernel_rfl
@[simp] theorem zeroOf_25 : zeroOf prog 25 = some #[Value.int IntKind.u64 0, Value.int IntKind.u64 0, Value.int IntKind.u8 0, Value.int IntKind.u8 0, Value.bool false, Value.bool false] := by kernel_rfl
@[simp] theorem zeroOf_32 : zeroOf prog 32 = some #[Value.int IntKind.u64 0, Value.int IntKind.u64 0, Value.int IntKind.u8 0, Value.int IntKind.u8 0, Value.bool false, Value.bool false] := by kernel_rfl
@[simp] theorem zeroOf_33 : zeroOf prog 33 = some #[Value.int IntKind.u64 0, Value.int IntKind.u64 0, Value.int IntKind.u64 0] := by kernel_rfl
@[simp] theorem zeroOf_35 : zeroOf prog 35 = some #[Value.int IntKind.u8 0, Value.int IntKind.u64 0, Value.int IntKind.i64 0, Value.int IntKind.u64 0, Value.int IntKind.u64 0, Value.int IntKind.u64 0, Value.int IntKind.u64 0, Value.int IntKind.i64 0] := by kernel_rfl
@[simp] theorem zeroOf_37 : zeroOf prog 37 = some #[Value.int IntKind.u8 0, Value.int IntKind.u64 0, Value.int IntKind.i64 0, Value.int IntKind.u64 0, Value.int IntKind.u64 0, Value.int IntKind.u64 0, Value.int IntKind.u64 0, Value.int IntKind.i64 0] := by kernel_rfl
@[simp] theorem zeroOf_45 : zeroOf prog 45 = some #[Value.slice none 0 0] := by kernel_rfl
@[simp] theorem zeroOf_48 : zeroOf prog 48 = some #[Value.int IntKind.u64 0, Value.int IntKind.u64 0, Value.bool false, Value.bool false] := by kernel_rfl
@[simp] theorem zeroOf_50 : zeroOf prog 50 = some #[Value.slice none 0 0, Value.int IntKind.i64 0] := by kernel_rfl
@[simp] theorem zeroOf_64 : zeroOf prog 64 = some #[Value.nilIface, Value.int IntKind.u64 0, Value.int IntKind.u64 0, Value.int IntKind.u8 0, Value.int IntKind.u8 0, Value.bool false, Value.bool false, Value.int IntKind.u8 0, Value.int IntKind.u64 0, Value.int IntKind.i64 0, Value.int IntKind.u64 0, Value.int IntKind.u64 0, Value.int IntKind.u64 0, Value.int IntKind.u64 0, Value.int IntKind.i64 0] := by kernel_rfl
@[simp] theorem zeroOf_76 : zeroOf prog 76 = some #[Value.int IntKind.u64 0, Value.int IntKind.u64 0, Value.int IntKind.u8 0, Value.int IntKind.u8 0, Value.bool false, Value.bool false, Value.int IntKind.u8 0, Value.int IntKind.u64 0, Value.int IntKind.i64 0, Value.int IntKind.u64 0, Value.int IntKind.u64 0, Value.int IntKind.u64 0, Value.int IntKind.u64 0, Value.int IntKind.i64 0, Value.bool false, Value.int IntKind.u64 0, Value.bool false, Value.int IntKind.u64 0, Value.int IntKind.u64 0] := by kernel_rfl
@[simp] theorem eqGT_35 : eqGT prog 35 = false := by kernel_rfl
@[simp] theorem eqGT_37 : eqGT prog 37 = false := by kernel_rfl
@[simp] theorem eqGT_47 : eqGT prog 47 = false := by kernel_rfl

end Go.Proofs.Ytkddajmfljlhiaa
