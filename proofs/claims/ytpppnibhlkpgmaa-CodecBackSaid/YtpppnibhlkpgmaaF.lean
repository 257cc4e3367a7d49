/-
  What stands where in the types of this program: each by reckoning.
-/
import Derived.Test.YtpppnibhlkpgmaaProg
import Derived.Test.YtpppnibhlkpgmaaM18
import Derived.KernelRfl
namespace Go.Proofs.Ytpppnibhlkpgmaa
open Go Go.Mini Go.Proofs.Try

theorem mixed : prog.follows .mixedOrders = true := by kernel_rfl
@[simp] theorem aggSz_25 : aggSz prog 25 = some none := by kernel_rfl
@[simp] theorem aggSz_27 : aggSz prog 27 = some (some 2) := by kernel_rfl
@[simp] theorem aggSz_3 : aggSz prog 3 = some none := by kernel_rfl
@[simp] theorem aggSz_32 : aggSz prog 32 = some none := by kernel_rfl
@[simp] theorem aggSz_38 : aggSz prog 38 = some none := by kernel_rfl
@[simp] theorem aggSz_4 : aggSz prog 4 = some none := by kernel_rfl
@[simp] theorem aggSz_5 : aggSz prog 5 = some none := by kernel_rfl
@[simp] theorem aggSz_54 : aggSz prog 54 = some none := by kernel_rfl
@[simp] theorem aggSz_9 : aggSz prog 9 = some none := by kernel_rfl
@[simp] theorem apInfo_35_35 : apInfo prog #[35, 35] = some (1, 1) := by kernel_rfl
@[simp] theorem cvOf_25_29 : cvOf prog 25 29 = Cv.int IntKind.u32 := by kernel_rfl
@[simp] theorem cvOf_25_5 : cvOf prog 25 5 = Cv.int IntKind.u8 := by kernel_rfl
@[simp] theorem cvOf_32_3 : cvOf prog 32 3 = Cv.int IntKind.i64 := by kernel_rfl
@[simp] theorem cvOf_35_9 : cvOf prog 35 9 = Cv.ofBytes := by kernel_rfl
@[simp] theorem cvOf_5_25 : cvOf prog 5 25 = Cv.int IntKind.u64 := by kernel_rfl
@[simp] theorem cvOf_5_29 : cvOf prog 5 29 = Cv.int IntKind.u32 := by kernel_rfl
@[simp] theorem cvOf_9_35 : cvOf prog 9 35 = Cv.toBytes 5 := by kernel_rfl
@[simp] theorem elInfo_22 : elInfo prog 22 = some (2, 16, #[Value.int IntKind.u64 0, Value.int IntKind.i64 0]) := by kernel_rfl
@[simp] theorem elInfo_35 : elInfo prog 35 = some (1, 1, #[Value.int IntKind.u8 0]) := by kernel_rfl
@[simp] theorem fldOff_27_0 : fldOff prog 27 0 = some 0 := by kernel_rfl
@[simp] theorem fldOff_27_1 : fldOff prog 27 1 = some 1 := by kernel_rfl
@[simp] theorem fldOff_34_0 : fldOff prog 34 0 = some 0 := by kernel_rfl
@[simp] theorem fldOff_34_1 : fldOff prog 34 1 = some 1 := by kernel_rfl
@[simp] theorem fldOff_34_2 : fldOff prog 34 2 = some 2 := by kernel_rfl
@[simp] theorem fldOff_42_0 : fldOff prog 42 0 = some 0 := by kernel_rfl
@[simp] theorem fldOff_42_1 : fldOff prog 42 1 = some 1 := by kernel_rfl
@[simp] theorem fldOff_42_2 : fldOff prog 42 2 = some 2 := by kernel_rfl
@[simp] theorem fldOff_44_0 : fldOff prog 44 0 = some 0 := by kernel_rfl
@[simp] theorem fldOff_44_1 : fldOff prog 44 1 = some 1 := by kernel_rfl
@[simp] theorem fldOff_56_0 : fldOff prog 56 0 = some 0 := by kernel_rfl
@[simp] theorem fldOff_56_1 : fldOff prog 56 1 = some 1 := by kernel_rfl
@[simp] theorem fldOff_56_2 : fldOff prog 56 2 = some 2 := by kernel_rfl
@[simp] theorem fldOff_56_3 : fldOff prog 56 3 = some 3 := by kernel_rfl
@[simp] theorem isStr_9 : isStr prog 9 = true := by kernel_rfl
@[simp] theorem ixInfo_22 : ixInfo prog 22 = some (none, 2, some 2) := by kernel_rfl
@[simp] theorem ixInfo_35 : ixInfo prog 35 = some (none, 1, none) := by kernel_rfl
@[simp] theorem ixInfo_37 : ixInfo prog 37 = some (none, 2, some 2) := by kernel_rfl
@[simp] theorem ixInfo_9 : ixInfo prog 9 = none := by kernel_rfl
@[simp] theorem lenK_22 : lenK prog 22 = LenK.slice := by kernel_rfl
@[simp] theorem lenK_35 : lenK prog 35 = LenK.slice := by kernel_rfl
@[simp] theorem lenK_37 : lenK prog 37 = LenK.slice := by kernel_rfl
@[simp] theorem lenK_9 : lenK prog 9 = LenK.str := by kernel_rfl
@[simp] theorem plc_27 : plc prog 27 = Plc.st #[(0, 1), (1, 1)] := by kernel_rfl
@[simp] theorem plc_42 : plc prog 42 = Plc.st #[(0, 1), (1, 1), (2, 1)] := by kernel_rfl
@[simp] theorem plc_56 : plc prog 56 = Plc.st #[(0, 1), (1, 1), (2, 1), (3, 1)] := by kernel_rfl
@[simp] theorem szOf_27 : szOf prog 27 = some 2 := by kernel_rfl
@[simp] theorem szOf_3 : szOf prog 3 = some 1 := by kernel_rfl
@[simp] theorem szOf_38 : szOf prog 38 = some 1 := by kernel_rfl
@[simp] theorem szOf_4 : szOf prog 4 = some 1 := by kernel_rfl
@[simp] theorem szOf_54 : szOf prog 54 = some 1 := by kernel_rfl
@[simp] theorem zeroOf_27 : zeroOf prog 27 = some #[Value.int IntKind.u64 0, Value.int IntKind.i64 0] := by kernel_rfl
@[simp] theorem zeroOf_38 : zeroOf prog 38 = some #[Value.pointer none] := by kernel_rfl
@[simp] theorem zeroOf_42 : zeroOf prog 42 = some #[Value.string ⟨#[]⟩, Value.int IntKind.i64 0, Value.bool false] := by kernel_rfl
@[simp] theorem zeroOf_56 : zeroOf prog 56 = some #[Value.nilFunc, Value.int IntKind.i64 0, Value.int IntKind.i64 0, Value.bool false] := by kernel_rfl

end Go.Proofs.Ytpppnibhlkpgmaa
