/-
  What stands where in the types of this program: each by reckoning.
-/
import Derived.Test.YtgafaelakjnemaaProg
import Derived.Test.YtgafaelakjnemaaM20
import Derived.KernelRfl
set_option linter.unusedSimpArgs false
set_option linter.unusedVariables false
namespace Go.Proofs.Ytgafaelakjnemaa
open Go Go.Mini Go.Proofs.Try

/-- So many times the same. -/
def repV (n : Nat) (v : Value) : Array Value := (List.replicate n v).toArray
theorem mixed : prog.follows .mixedOrders = true := by kernel_rfl
@[simp] theorem aggSz_22 : aggSz prog 22 = some none := by kernel_rfl
@[simp] theorem aggSz_3 : aggSz prog 3 = some none := by kernel_rfl
@[simp] theorem aggSz_30 : aggSz prog 30 = some (some 5) := by kernel_rfl
@[simp] theorem aggSz_42 : aggSz prog 42 = some none := by kernel_rfl
@[simp] theorem aggSz_5 : aggSz prog 5 = some none := by kernel_rfl
@[simp] theorem aggSz_50 : aggSz prog 50 = some none := by kernel_rfl
@[simp] theorem aggSz_59 : aggSz prog 59 = some (some 2) := by kernel_rfl
@[simp] theorem aggSz_77 : aggSz prog 77 = some none := by kernel_rfl
@[simp] theorem aggSz_9 : aggSz prog 9 = some none := by kernel_rfl
@[simp] theorem apInfo_42_42 : apInfo prog #[42, 42] = some (2, 16) := by kernel_rfl
@[simp] theorem apInfo_50_50 : apInfo prog #[50, 50] = some (1, 1) := by kernel_rfl
@[simp] theorem apInfo_50_9 : apInfo prog #[50, 9] = some (1, 1) := by kernel_rfl
@[simp] theorem cvOf_22_3 : cvOf prog 22 3 = Cv.int IntKind.i64 := by kernel_rfl
@[simp] theorem cvOf_22_5 : cvOf prog 22 5 = Cv.int IntKind.u8 := by kernel_rfl
@[simp] theorem cvOf_22_90 : cvOf prog 22 90 = Cv.int IntKind.u32 := by kernel_rfl
@[simp] theorem cvOf_3_22 : cvOf prog 3 22 = Cv.int IntKind.u64 := by kernel_rfl
@[simp] theorem cvOf_3_66 : cvOf prog 3 66 = Cv.int IntKind.u64 := by kernel_rfl
@[simp] theorem cvOf_5_22 : cvOf prog 5 22 = Cv.int IntKind.u64 := by kernel_rfl
@[simp] theorem cvOf_5_3 : cvOf prog 5 3 = Cv.int IntKind.i64 := by kernel_rfl
@[simp] theorem cvOf_50_9 : cvOf prog 50 9 = Cv.ofBytes := by kernel_rfl
@[simp] theorem cvOf_66_3 : cvOf prog 66 3 = Cv.int IntKind.i64 := by kernel_rfl
@[simp] theorem cvOf_66_90 : cvOf prog 66 90 = Cv.int IntKind.u32 := by kernel_rfl
@[simp] theorem cvOf_77_96 : cvOf prog 77 96 = Cv.no := by kernel_rfl
@[simp] theorem cvOf_90_22 : cvOf prog 90 22 = Cv.int IntKind.u64 := by kernel_rfl
@[simp] theorem cvOf_90_66 : cvOf prog 90 66 = Cv.int IntKind.u64 := by kernel_rfl
@[simp] theorem cvOf_96_77 : cvOf prog 96 77 = Cv.no := by kernel_rfl
@[simp] theorem elInfo_42 : elInfo prog 42 = some (2, 16, #[Value.int IntKind.u64 0, Value.int IntKind.u8 0]) := by kernel_rfl
@[simp] theorem elInfo_50 : elInfo prog 50 = some (1, 1, #[Value.int IntKind.u8 0]) := by kernel_rfl
@[simp] theorem eqPl_59 : eqPl prog 8 59 = some [(0, 0), (1, 0)] := by kernel_rfl
@[simp] theorem fldOff_30_0 : fldOff prog 30 0 = some 0 := by kernel_rfl
@[simp] theorem fldOff_30_1 : fldOff prog 30 1 = some 1 := by kernel_rfl
@[simp] theorem fldOff_30_2 : fldOff prog 30 2 = some 2 := by kernel_rfl
@[simp] theorem fldOff_30_3 : fldOff prog 30 3 = some 3 := by kernel_rfl
@[simp] theorem fldOff_30_4 : fldOff prog 30 4 = some 4 := by kernel_rfl
@[simp] theorem fldOff_44_0 : fldOff prog 44 0 = some 0 := by kernel_rfl
@[simp] theorem fldOff_44_1 : fldOff prog 44 1 = some 1 := by kernel_rfl
@[simp] theorem fldOff_44_2 : fldOff prog 44 2 = some 2 := by kernel_rfl
@[simp] theorem fldOff_44_3 : fldOff prog 44 3 = some 3 := by kernel_rfl
@[simp] theorem fldOff_49_0 : fldOff prog 49 0 = some 0 := by kernel_rfl
@[simp] theorem fldOff_49_1 : fldOff prog 49 1 = some 1 := by kernel_rfl
@[simp] theorem fldOff_59_0 : fldOff prog 59 0 = some 0 := by kernel_rfl
@[simp] theorem fldOff_61_0 : fldOff prog 61 0 = some 0 := by kernel_rfl
@[simp] theorem fldOff_61_1 : fldOff prog 61 1 = some 1 := by kernel_rfl
@[simp] theorem fldOff_63_0 : fldOff prog 63 0 = some 0 := by kernel_rfl
@[simp] theorem fldOff_63_1 : fldOff prog 63 1 = some 1 := by kernel_rfl
@[simp] theorem fldOff_63_2 : fldOff prog 63 2 = some 2 := by kernel_rfl
@[simp] theorem fldOff_63_3 : fldOff prog 63 3 = some 3 := by kernel_rfl
@[simp] theorem fldOff_79_0 : fldOff prog 79 0 = some 0 := by kernel_rfl
@[simp] theorem fldOff_79_1 : fldOff prog 79 1 = some 1 := by kernel_rfl
@[simp] theorem ifaceOk_9 : ifaceOk prog 9 = true := by kernel_rfl
@[simp] theorem isStr_50 : isStr prog 50 = false := by kernel_rfl
@[simp] theorem isStr_9 : isStr prog 9 = true := by kernel_rfl
@[simp] theorem ixInfo_23 : ixInfo prog 23 = some (none, 5, some 5) := by kernel_rfl
@[simp] theorem ixInfo_42 : ixInfo prog 42 = some (none, 2, some 2) := by kernel_rfl
@[simp] theorem ixInfo_50 : ixInfo prog 50 = some (none, 1, none) := by kernel_rfl
@[simp] theorem ixInfo_52 : ixInfo prog 52 = some (some 2, 1, none) := by kernel_rfl
@[simp] theorem ixInfo_9 : ixInfo prog 9 = none := by kernel_rfl
@[simp] theorem lenK_23 : lenK prog 23 = LenK.slice := by kernel_rfl
@[simp] theorem lenK_42 : lenK prog 42 = LenK.slice := by kernel_rfl
@[simp] theorem lenK_50 : lenK prog 50 = LenK.slice := by kernel_rfl
@[simp] theorem lenK_9 : lenK prog 9 = LenK.str := by kernel_rfl
@[simp] theorem plc_44 : plc prog 44 = Plc.st #[(0, 1), (1, 1), (2, 1), (3, 1)] := by kernel_rfl
@[simp] theorem plc_49 : plc prog 49 = Plc.st #[(0, 1), (1, 1)] := by kernel_rfl
@[simp] theorem plc_59 : plc prog 59 = Plc.st #[(0, 1), (1, 1)] := by kernel_rfl
@[simp] theorem plc_61 : plc prog 61 = Plc.st #[(0, 1), (1, 2)] := by kernel_rfl
@[simp] theorem szOf_22 : szOf prog 22 = some 1 := by kernel_rfl
@[simp] theorem szOf_3 : szOf prog 3 = some 1 := by kernel_rfl
@[simp] theorem szOf_30 : szOf prog 30 = some 5 := by kernel_rfl
@[simp] theorem szOf_42 : szOf prog 42 = some 1 := by kernel_rfl
@[simp] theorem szOf_5 : szOf prog 5 = some 1 := by kernel_rfl
@[simp] theorem szOf_50 : szOf prog 50 = some 1 := by kernel_rfl
@[simp] theorem szOf_59 : szOf prog 59 = some 2 := by kernel_rfl
@[simp] theorem szOf_77 : szOf prog 77 = some 1 := by kernel_rfl
@[simp] theorem zeroOf_30 : zeroOf prog 30 = some #[Value.int IntKind.u8 0, Value.int IntKind.u64 0, Value.int IntKind.u64 0, Value.int IntKind.i64 0, Value.string ⟨#[]⟩] := by kernel_rfl
@[simp] theorem zeroOf_44 : zeroOf prog 44 = some #[Value.int IntKind.u64 0, Value.slice none 0 0, Value.int IntKind.u64 0, Value.int IntKind.i64 0] := by kernel_rfl
@[simp] theorem zeroOf_49 : zeroOf prog 49 = some #[Value.int IntKind.u64 0, Value.int IntKind.u8 0] := by kernel_rfl
@[simp] theorem zeroOf_59 : zeroOf prog 59 = some #[Value.int IntKind.u64 0, Value.int IntKind.i64 0] := by kernel_rfl
@[simp] theorem zeroOf_61 : zeroOf prog 61 = some #[Value.slice none 0 0, Value.int IntKind.u64 0, Value.int IntKind.i64 0] := by kernel_rfl
@[simp] theorem zeroOf_79 : zeroOf prog 79 = some #[Value.pointer none, Value.slice none 0 0] := by kernel_rfl
@[simp] theorem eqGT_59 : eqGT prog 59 = false := by kernel_rfl

end Go.Proofs.Ytgafaelakjnemaa
