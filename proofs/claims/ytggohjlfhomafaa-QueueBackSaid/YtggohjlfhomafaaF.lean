/-
  What stands where in the types of this program: each by reckoning.
-/
import Derived.Test.YtggohjlfhomafaaProg
import Derived.Test.YtggohjlfhomafaaM20
import Derived.KernelRfl
set_option linter.unusedSimpArgs false
set_option linter.unusedVariables false
set_option linter.unusedSectionVars false
namespace Go.Proofs.Ytggohjlfhomafaa
open Go Go.Mini Go.Proofs.Try

/-- So many times the same. -/
def repV (n : Nat) (v : Value) : Array Value := (List.replicate n v).toArray
theorem mixed : prog.follows .mixedOrders = true := by kernel_rfl
@[simp] theorem aggSz_22 : aggSz prog 22 = some none := by kernel_rfl
@[simp] theorem aggSz_23 : aggSz prog 23 = some none := by kernel_rfl
@[simp] theorem aggSz_29 : aggSz prog 29 = some none := by kernel_rfl
@[simp] theorem aggSz_3 : aggSz prog 3 = some none := by kernel_rfl
@[simp] theorem aggSz_31 : aggSz prog 31 = some (some 2) := by kernel_rfl
@[simp] theorem aggSz_37 : aggSz prog 37 = some none := by kernel_rfl
@[simp] theorem aggSz_4 : aggSz prog 4 = some none := by kernel_rfl
@[simp] theorem aggSz_5 : aggSz prog 5 = some none := by kernel_rfl
@[simp] theorem aggSz_54 : aggSz prog 54 = some (some 20) := by kernel_rfl
@[simp] theorem aggSz_60 : aggSz prog 60 = some none := by kernel_rfl
@[simp] theorem aggSz_62 : aggSz prog 62 = some none := by kernel_rfl
@[simp] theorem aggSz_68 : aggSz prog 68 = some (some 2) := by kernel_rfl
@[simp] theorem aggSz_71 : aggSz prog 71 = some none := by kernel_rfl
@[simp] theorem aggSz_9 : aggSz prog 9 = some none := by kernel_rfl
@[simp] theorem apInfo_29_29 : apInfo prog #[29, 29] = some (1, 16) := by kernel_rfl
@[simp] theorem apInfo_69_69 : apInfo prog #[69, 69] = some (1, 1) := by kernel_rfl
@[simp] theorem cvOf_3_5 : cvOf prog 3 5 = Cv.int IntKind.u8 := by kernel_rfl
@[simp] theorem cvOf_3_62 : cvOf prog 3 62 = Cv.int IntKind.u64 := by kernel_rfl
@[simp] theorem cvOf_5_3 : cvOf prog 5 3 = Cv.int IntKind.i64 := by kernel_rfl
@[simp] theorem cvOf_5_62 : cvOf prog 5 62 = Cv.int IntKind.u64 := by kernel_rfl
@[simp] theorem cvOf_62_3 : cvOf prog 62 3 = Cv.int IntKind.i64 := by kernel_rfl
@[simp] theorem cvOf_62_5 : cvOf prog 62 5 = Cv.int IntKind.u8 := by kernel_rfl
@[simp] theorem cvOf_69_9 : cvOf prog 69 9 = Cv.ofBytes := by kernel_rfl
@[simp] theorem cvOf_9_69 : cvOf prog 9 69 = Cv.toBytes 5 := by kernel_rfl
@[simp] theorem elInfo_29 : elInfo prog 29 = some (1, 16, #[Value.string ⟨#[]⟩]) := by kernel_rfl
@[simp] theorem elInfo_69 : elInfo prog 69 = some (1, 1, #[Value.int IntKind.u8 0]) := by kernel_rfl
@[simp] theorem elInfo_76 : elInfo prog 76 = some (2, 16, #[Value.int IntKind.u64 0, Value.int IntKind.i64 0]) := by kernel_rfl
@[simp] theorem fldOff_31_0 : fldOff prog 31 0 = some 0 := by kernel_rfl
@[simp] theorem fldOff_31_1 : fldOff prog 31 1 = some 1 := by kernel_rfl
@[simp] theorem fldOff_54_0 : fldOff prog 54 0 = some 0 := by kernel_rfl
@[simp] theorem fldOff_54_1 : fldOff prog 54 1 = some 16 := by kernel_rfl
@[simp] theorem fldOff_54_2 : fldOff prog 54 2 = some 17 := by kernel_rfl
@[simp] theorem fldOff_54_3 : fldOff prog 54 3 = some 18 := by kernel_rfl
@[simp] theorem fldOff_54_4 : fldOff prog 54 4 = some 19 := by kernel_rfl
@[simp] theorem fldOff_56_0 : fldOff prog 56 0 = some 0 := by kernel_rfl
@[simp] theorem fldOff_56_1 : fldOff prog 56 1 = some 1 := by kernel_rfl
@[simp] theorem fldOff_56_2 : fldOff prog 56 2 = some 2 := by kernel_rfl
@[simp] theorem fldOff_68_0 : fldOff prog 68 0 = some 0 := by kernel_rfl
@[simp] theorem fldOff_68_1 : fldOff prog 68 1 = some 1 := by kernel_rfl
@[simp] theorem fldOff_73_0 : fldOff prog 73 0 = some 0 := by kernel_rfl
@[simp] theorem fldOff_73_1 : fldOff prog 73 1 = some 1 := by kernel_rfl
@[simp] theorem fldOff_73_2 : fldOff prog 73 2 = some 2 := by kernel_rfl
@[simp] theorem fldOff_73_3 : fldOff prog 73 3 = some 3 := by kernel_rfl
@[simp] theorem isStr_29 : isStr prog 29 = false := by kernel_rfl
@[simp] theorem isStr_9 : isStr prog 9 = true := by kernel_rfl
@[simp] theorem ixInfo_22 : ixInfo prog 22 = some (none, 2, some 2) := by kernel_rfl
@[simp] theorem ixInfo_29 : ixInfo prog 29 = some (none, 1, none) := by kernel_rfl
@[simp] theorem ixInfo_43 : ixInfo prog 43 = some (some 2, 1, none) := by kernel_rfl
@[simp] theorem ixInfo_44 : ixInfo prog 44 = some (some 2, 1, none) := by kernel_rfl
@[simp] theorem ixInfo_52 : ixInfo prog 52 = some (some 16, 1, none) := by kernel_rfl
@[simp] theorem ixInfo_69 : ixInfo prog 69 = some (none, 1, none) := by kernel_rfl
@[simp] theorem ixInfo_76 : ixInfo prog 76 = some (none, 2, some 2) := by kernel_rfl
@[simp] theorem ixInfo_9 : ixInfo prog 9 = none := by kernel_rfl
@[simp] theorem lenK_22 : lenK prog 22 = LenK.slice := by kernel_rfl
@[simp] theorem lenK_29 : lenK prog 29 = LenK.slice := by kernel_rfl
@[simp] theorem lenK_69 : lenK prog 69 = LenK.slice := by kernel_rfl
@[simp] theorem lenK_76 : lenK prog 76 = LenK.slice := by kernel_rfl
@[simp] theorem lenK_9 : lenK prog 9 = LenK.str := by kernel_rfl
@[simp] theorem plc_54 : plc prog 54 = Plc.st #[(0, 16), (16, 1), (17, 1), (18, 1), (19, 1)] := by kernel_rfl
@[simp] theorem plc_56 : plc prog 56 = Plc.st #[(0, 1), (1, 1), (2, 1)] := by kernel_rfl
@[simp] theorem plc_68 : plc prog 68 = Plc.st #[(0, 1), (1, 1)] := by kernel_rfl
@[simp] theorem plc_73 : plc prog 73 = Plc.st #[(0, 1), (1, 1), (2, 1), (3, 1)] := by kernel_rfl
@[simp] theorem szOf_29 : szOf prog 29 = some 1 := by kernel_rfl
@[simp] theorem szOf_3 : szOf prog 3 = some 1 := by kernel_rfl
@[simp] theorem szOf_31 : szOf prog 31 = some 2 := by kernel_rfl
@[simp] theorem szOf_4 : szOf prog 4 = some 1 := by kernel_rfl
@[simp] theorem szOf_54 : szOf prog 54 = some 20 := by kernel_rfl
@[simp] theorem szOf_60 : szOf prog 60 = some 1 := by kernel_rfl
@[simp] theorem szOf_68 : szOf prog 68 = some 2 := by kernel_rfl
@[simp] theorem szOf_71 : szOf prog 71 = some 1 := by kernel_rfl
@[simp] theorem szOf_9 : szOf prog 9 = some 1 := by kernel_rfl
@[simp] theorem zeroOf_3 : zeroOf prog 3 = some #[Value.int IntKind.i64 0] := by kernel_rfl
@[simp] theorem zeroOf_31 : zeroOf prog 31 = some #[Value.int IntKind.u8 0, Value.string ⟨#[]⟩] := by kernel_rfl
@[simp] theorem zeroOf_4 : zeroOf prog 4 = some #[Value.bool false] := by kernel_rfl
@[simp] theorem zeroOf_54 : zeroOf prog 54 = some #[Value.string ⟨#[]⟩, Value.string ⟨#[]⟩, Value.string ⟨#[]⟩, Value.string ⟨#[]⟩, Value.string ⟨#[]⟩, Value.string ⟨#[]⟩, Value.string ⟨#[]⟩, Value.string ⟨#[]⟩, Value.string ⟨#[]⟩, Value.string ⟨#[]⟩, Value.string ⟨#[]⟩, Value.string ⟨#[]⟩, Value.string ⟨#[]⟩, Value.string ⟨#[]⟩, Value.string ⟨#[]⟩, Value.string ⟨#[]⟩, Value.int IntKind.i64 0, Value.int IntKind.i64 0, Value.int IntKind.i64 0, Value.int IntKind.i64 0] := by kernel_rfl
@[simp] theorem zeroOf_56 : zeroOf prog 56 = some #[Value.slice none 0 0, Value.int IntKind.i64 0, Value.int IntKind.i64 0] := by kernel_rfl
@[simp] theorem zeroOf_60 : zeroOf prog 60 = some #[Value.pointer none] := by kernel_rfl
@[simp] theorem zeroOf_68 : zeroOf prog 68 = some #[Value.int IntKind.u64 0, Value.int IntKind.i64 0] := by kernel_rfl
@[simp] theorem zeroOf_73 : zeroOf prog 73 = some #[Value.nilFunc, Value.int IntKind.i64 0, Value.int IntKind.i64 0, Value.bool false] := by kernel_rfl
@[simp] theorem zeroOf_9 : zeroOf prog 9 = some #[Value.string ⟨#[]⟩] := by kernel_rfl

end Go.Proofs.Ytggohjlfhomafaa
