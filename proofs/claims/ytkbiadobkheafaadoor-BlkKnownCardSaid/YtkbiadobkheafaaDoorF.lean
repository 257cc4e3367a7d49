/-
  What stands where in the types of this program: each by reckoning.
-/
import Derived.Test.YtkbiadobkheafaaDoorProg
import Derived.Test.YtkbiadobkheafaaDoorM20
import Derived.KernelRfl
set_option linter.unusedSimpArgs false
set_option linter.unusedVariables false
set_option linter.unusedSectionVars false
namespace Go.Proofs.YtkbiadobkheafaaDoor
open Go Go.Mini Go.Proofs.Tryd

/-- So many times the same. -/
def repV (n : Nat) (v : Value) : Array Value := (List.replicate n v).toArray
theorem mixed : prog.follows .mixedOrders = true := by kernel_rfl
@[simp] theorem aggSz_104 : aggSz prog 104 = some none := by kernel_rfl
@[simp] theorem aggSz_22 : aggSz prog 22 = some none := by kernel_rfl
@[simp] theorem aggSz_23 : aggSz prog 23 = some none := by kernel_rfl
@[simp] theorem aggSz_28 : aggSz prog 28 = some none := by kernel_rfl
@[simp] theorem aggSz_3 : aggSz prog 3 = some none := by kernel_rfl
@[simp] theorem aggSz_31 : aggSz prog 31 = some none := by kernel_rfl
@[simp] theorem aggSz_34 : aggSz prog 34 = some none := by kernel_rfl
@[simp] theorem aggSz_4 : aggSz prog 4 = some none := by kernel_rfl
@[simp] theorem aggSz_45 : aggSz prog 45 = some (some 3) := by kernel_rfl
@[simp] theorem aggSz_47 : aggSz prog 47 = some (some 64) := by kernel_rfl
@[simp] theorem aggSz_48 : aggSz prog 48 = some (some 2048) := by kernel_rfl
@[simp] theorem aggSz_5 : aggSz prog 5 = some none := by kernel_rfl
@[simp] theorem aggSz_50 : aggSz prog 50 = some (some 2057) := by kernel_rfl
@[simp] theorem aggSz_52 : aggSz prog 52 = some (some 2058) := by kernel_rfl
@[simp] theorem aggSz_55 : aggSz prog 55 = some none := by kernel_rfl
@[simp] theorem aggSz_56 : aggSz prog 56 = some (some 32) := by kernel_rfl
@[simp] theorem aggSz_58 : aggSz prog 58 = some (some 41) := by kernel_rfl
@[simp] theorem aggSz_59 : aggSz prog 59 = some none := by kernel_rfl
@[simp] theorem aggSz_62 : aggSz prog 62 = some (some 4) := by kernel_rfl
@[simp] theorem aggSz_64 : aggSz prog 64 = some (some 4) := by kernel_rfl
@[simp] theorem aggSz_68 : aggSz prog 68 = some none := by kernel_rfl
@[simp] theorem aggSz_81 : aggSz prog 81 = some none := by kernel_rfl
@[simp] theorem aggSz_84 : aggSz prog 84 = some none := by kernel_rfl
@[simp] theorem aggSz_9 : aggSz prog 9 = some none := by kernel_rfl
@[simp] theorem aggSz_91 : aggSz prog 91 = some (some 2) := by kernel_rfl
@[simp] theorem aggSz_96 : aggSz prog 96 = some none := by kernel_rfl
@[simp] theorem apInfo_68_68 : apInfo prog #[68, 68] = some (2, 16) := by kernel_rfl
@[simp] theorem apInfo_76_76 : apInfo prog #[76, 76] = some (1, 16) := by kernel_rfl
@[simp] theorem apInfo_84_84 : apInfo prog #[84, 84] = some (1, 1) := by kernel_rfl
@[simp] theorem apInfo_84_9 : apInfo prog #[84, 9] = some (1, 1) := by kernel_rfl
@[simp] theorem cvOf_131_96 : cvOf prog 131 96 = Cv.no := by kernel_rfl
@[simp] theorem cvOf_28_3 : cvOf prog 28 3 = Cv.int IntKind.i64 := by kernel_rfl
@[simp] theorem cvOf_28_31 : cvOf prog 28 31 = Cv.int IntKind.u32 := by kernel_rfl
@[simp] theorem cvOf_28_5 : cvOf prog 28 5 = Cv.int IntKind.u8 := by kernel_rfl
@[simp] theorem cvOf_3_28 : cvOf prog 3 28 = Cv.int IntKind.u64 := by kernel_rfl
@[simp] theorem cvOf_3_94 : cvOf prog 3 94 = Cv.int IntKind.u64 := by kernel_rfl
@[simp] theorem cvOf_31_28 : cvOf prog 31 28 = Cv.int IntKind.u64 := by kernel_rfl
@[simp] theorem cvOf_31_3 : cvOf prog 31 3 = Cv.int IntKind.i64 := by kernel_rfl
@[simp] theorem cvOf_31_5 : cvOf prog 31 5 = Cv.int IntKind.u8 := by kernel_rfl
@[simp] theorem cvOf_31_94 : cvOf prog 31 94 = Cv.int IntKind.u64 := by kernel_rfl
@[simp] theorem cvOf_5_28 : cvOf prog 5 28 = Cv.int IntKind.u64 := by kernel_rfl
@[simp] theorem cvOf_5_3 : cvOf prog 5 3 = Cv.int IntKind.i64 := by kernel_rfl
@[simp] theorem cvOf_84_9 : cvOf prog 84 9 = Cv.ofBytes := by kernel_rfl
@[simp] theorem cvOf_94_3 : cvOf prog 94 3 = Cv.int IntKind.i64 := by kernel_rfl
@[simp] theorem cvOf_94_31 : cvOf prog 94 31 = Cv.int IntKind.u32 := by kernel_rfl
@[simp] theorem cvOf_96_131 : cvOf prog 96 131 = Cv.no := by kernel_rfl
@[simp] theorem elInfo_68 : elInfo prog 68 = some (2, 16, #[Value.int IntKind.u64 0, Value.int IntKind.u8 0]) := by kernel_rfl
@[simp] theorem elInfo_76 : elInfo prog 76 = some (1, 16, #[Value.string ⟨#[]⟩]) := by kernel_rfl
@[simp] theorem elInfo_77 : elInfo prog 77 = some (1, 8, #[Value.int IntKind.u64 0]) := by kernel_rfl
@[simp] theorem elInfo_84 : elInfo prog 84 = some (1, 1, #[Value.int IntKind.u8 0]) := by kernel_rfl
@[simp] theorem eqPl_91 : eqPl prog 8 91 = some [(0, 0), (1, 0)] := by kernel_rfl
@[simp] theorem fldOff_45_0 : fldOff prog 45 0 = some 0 := by kernel_rfl
@[simp] theorem fldOff_45_1 : fldOff prog 45 1 = some 1 := by kernel_rfl
@[simp] theorem fldOff_45_2 : fldOff prog 45 2 = some 2 := by kernel_rfl
@[simp] theorem fldOff_50_0 : fldOff prog 50 0 = some 0 := by kernel_rfl
@[simp] theorem fldOff_50_1 : fldOff prog 50 1 = some 3 := by kernel_rfl
@[simp] theorem fldOff_50_2 : fldOff prog 50 2 = some 6 := by kernel_rfl
@[simp] theorem fldOff_50_3 : fldOff prog 50 3 = some 7 := by kernel_rfl
@[simp] theorem fldOff_50_4 : fldOff prog 50 4 = some 8 := by kernel_rfl
@[simp] theorem fldOff_50_5 : fldOff prog 50 5 = some 9 := by kernel_rfl
@[simp] theorem fldOff_52_0 : fldOff prog 52 0 = some 0 := by kernel_rfl
@[simp] theorem fldOff_52_1 : fldOff prog 52 1 = some 1 := by kernel_rfl
@[simp] theorem fldOff_58_0 : fldOff prog 58 0 = some 0 := by kernel_rfl
@[simp] theorem fldOff_58_1 : fldOff prog 58 1 = some 1 := by kernel_rfl
@[simp] theorem fldOff_58_2 : fldOff prog 58 2 = some 2 := by kernel_rfl
@[simp] theorem fldOff_58_3 : fldOff prog 58 3 = some 3 := by kernel_rfl
@[simp] theorem fldOff_58_4 : fldOff prog 58 4 = some 4 := by kernel_rfl
@[simp] theorem fldOff_58_5 : fldOff prog 58 5 = some 5 := by kernel_rfl
@[simp] theorem fldOff_58_6 : fldOff prog 58 6 = some 6 := by kernel_rfl
@[simp] theorem fldOff_58_7 : fldOff prog 58 7 = some 7 := by kernel_rfl
@[simp] theorem fldOff_58_8 : fldOff prog 58 8 = some 8 := by kernel_rfl
@[simp] theorem fldOff_58_9 : fldOff prog 58 9 = some 9 := by kernel_rfl
@[simp] theorem fldOff_62_0 : fldOff prog 62 0 = some 0 := by kernel_rfl
@[simp] theorem fldOff_62_1 : fldOff prog 62 1 = some 1 := by kernel_rfl
@[simp] theorem fldOff_62_2 : fldOff prog 62 2 = some 2 := by kernel_rfl
@[simp] theorem fldOff_62_3 : fldOff prog 62 3 = some 3 := by kernel_rfl
@[simp] theorem fldOff_64_0 : fldOff prog 64 0 = some 0 := by kernel_rfl
@[simp] theorem fldOff_64_1 : fldOff prog 64 1 = some 1 := by kernel_rfl
@[simp] theorem fldOff_64_2 : fldOff prog 64 2 = some 2 := by kernel_rfl
@[simp] theorem fldOff_64_3 : fldOff prog 64 3 = some 3 := by kernel_rfl
@[simp] theorem fldOff_70_0 : fldOff prog 70 0 = some 0 := by kernel_rfl
@[simp] theorem fldOff_70_1 : fldOff prog 70 1 = some 1 := by kernel_rfl
@[simp] theorem fldOff_70_2 : fldOff prog 70 2 = some 2 := by kernel_rfl
@[simp] theorem fldOff_70_3 : fldOff prog 70 3 = some 3 := by kernel_rfl
@[simp] theorem fldOff_72_0 : fldOff prog 72 0 = some 0 := by kernel_rfl
@[simp] theorem fldOff_72_1 : fldOff prog 72 1 = some 1 := by kernel_rfl
@[simp] theorem fldOff_86_0 : fldOff prog 86 0 = some 0 := by kernel_rfl
@[simp] theorem fldOff_88_0 : fldOff prog 88 0 = some 0 := by kernel_rfl
@[simp] theorem fldOff_88_1 : fldOff prog 88 1 = some 1 := by kernel_rfl
@[simp] theorem fldOff_98_0 : fldOff prog 98 0 = some 0 := by kernel_rfl
@[simp] theorem fldOff_98_1 : fldOff prog 98 1 = some 1 := by kernel_rfl
@[simp] theorem ifaceOk_23 : ifaceOk prog 23 = true := by kernel_rfl
@[simp] theorem ifaceOk_9 : ifaceOk prog 9 = true := by kernel_rfl
@[simp] theorem isStr_114 : isStr prog 114 = false := by kernel_rfl
@[simp] theorem isStr_129 : isStr prog 129 = false := by kernel_rfl
@[simp] theorem isStr_47 : isStr prog 47 = false := by kernel_rfl
@[simp] theorem isStr_76 : isStr prog 76 = false := by kernel_rfl
@[simp] theorem isStr_84 : isStr prog 84 = false := by kernel_rfl
@[simp] theorem isStr_9 : isStr prog 9 = true := by kernel_rfl
@[simp] theorem ixInfo_114 : ixInfo prog 114 = some (some 24, 1, none) := by kernel_rfl
@[simp] theorem ixInfo_128 : ixInfo prog 128 = some (some 20, 1, none) := by kernel_rfl
@[simp] theorem ixInfo_129 : ixInfo prog 129 = some (some 65, 1, none) := by kernel_rfl
@[simp] theorem ixInfo_139 : ixInfo prog 139 = some (some 32, 1, none) := by kernel_rfl
@[simp] theorem ixInfo_46 : ixInfo prog 46 = some (some 64, 1, none) := by kernel_rfl
@[simp] theorem ixInfo_47 : ixInfo prog 47 = some (some 64, 1, none) := by kernel_rfl
@[simp] theorem ixInfo_48 : ixInfo prog 48 = some (some 32, 64, some 64) := by kernel_rfl
@[simp] theorem ixInfo_53 : ixInfo prog 53 = some (none, 4, some 4) := by kernel_rfl
@[simp] theorem ixInfo_56 : ixInfo prog 56 = some (some 32, 1, none) := by kernel_rfl
@[simp] theorem ixInfo_68 : ixInfo prog 68 = some (none, 2, some 2) := by kernel_rfl
@[simp] theorem ixInfo_76 : ixInfo prog 76 = some (none, 1, none) := by kernel_rfl
@[simp] theorem ixInfo_77 : ixInfo prog 77 = some (none, 1, none) := by kernel_rfl
@[simp] theorem ixInfo_84 : ixInfo prog 84 = some (none, 1, none) := by kernel_rfl
@[simp] theorem ixInfo_9 : ixInfo prog 9 = none := by kernel_rfl
@[simp] theorem lenK_53 : lenK prog 53 = LenK.slice := by kernel_rfl
@[simp] theorem lenK_68 : lenK prog 68 = LenK.slice := by kernel_rfl
@[simp] theorem lenK_76 : lenK prog 76 = LenK.slice := by kernel_rfl
@[simp] theorem lenK_77 : lenK prog 77 = LenK.slice := by kernel_rfl
@[simp] theorem lenK_84 : lenK prog 84 = LenK.slice := by kernel_rfl
@[simp] theorem lenK_9 : lenK prog 9 = LenK.str := by kernel_rfl
@[simp] theorem methOf_23_Bytes : methOf prog 23 "Bytes" = some 13 := by kernel_rfl
@[simp] theorem methOf_23_Put : methOf prog 23 "Put" = some 27 := by kernel_rfl
@[simp] theorem plc_128 : plc prog 128 = Plc.arr 1 := by kernel_rfl
@[simp] theorem plc_139 : plc prog 139 = Plc.arr 1 := by kernel_rfl
@[simp] theorem plc_45 : plc prog 45 = Plc.st #[(0, 1), (1, 1), (2, 1)] := by kernel_rfl
@[simp] theorem plc_46 : plc prog 46 = Plc.arr 1 := by kernel_rfl
@[simp] theorem plc_50 : plc prog 50 = Plc.st #[(0, 3), (3, 3), (6, 1), (7, 1), (8, 1), (9, 2048)] := by kernel_rfl
@[simp] theorem plc_52 : plc prog 52 = Plc.st #[(0, 1), (1, 2057)] := by kernel_rfl
@[simp] theorem plc_58 : plc prog 58 = Plc.st #[(0, 1), (1, 1), (2, 1), (3, 1), (4, 1), (5, 1), (6, 1), (7, 1), (8, 1), (9, 32)] := by kernel_rfl
@[simp] theorem plc_62 : plc prog 62 = Plc.st #[(0, 1), (1, 1), (2, 1), (3, 1)] := by kernel_rfl
@[simp] theorem plc_70 : plc prog 70 = Plc.st #[(0, 1), (1, 1), (2, 1), (3, 1)] := by kernel_rfl
@[simp] theorem plc_72 : plc prog 72 = Plc.st #[(0, 1), (1, 1)] := by kernel_rfl
@[simp] theorem plc_86 : plc prog 86 = Plc.st #[(0, 1), (1, 1)] := by kernel_rfl
@[simp] theorem plc_88 : plc prog 88 = Plc.st #[(0, 1), (1, 2)] := by kernel_rfl
@[simp] theorem plc_91 : plc prog 91 = Plc.st #[(0, 1), (1, 1)] := by kernel_rfl
@[simp] theorem szOf_128 : szOf prog 128 = some 20 := by kernel_rfl
@[simp] theorem szOf_139 : szOf prog 139 = some 32 := by kernel_rfl
@[simp] theorem szOf_22 : szOf prog 22 = some 1 := by kernel_rfl
@[simp] theorem szOf_28 : szOf prog 28 = some 1 := by kernel_rfl
@[simp] theorem szOf_3 : szOf prog 3 = some 1 := by kernel_rfl
@[simp] theorem szOf_31 : szOf prog 31 = some 1 := by kernel_rfl
@[simp] theorem szOf_45 : szOf prog 45 = some 3 := by kernel_rfl
@[simp] theorem szOf_46 : szOf prog 46 = some 64 := by kernel_rfl
@[simp] theorem szOf_47 : szOf prog 47 = some 64 := by kernel_rfl
@[simp] theorem szOf_5 : szOf prog 5 = some 1 := by kernel_rfl
@[simp] theorem szOf_50 : szOf prog 50 = some 2057 := by kernel_rfl
@[simp] theorem szOf_52 : szOf prog 52 = some 2058 := by kernel_rfl
@[simp] theorem szOf_55 : szOf prog 55 = some 1 := by kernel_rfl
@[simp] theorem szOf_58 : szOf prog 58 = some 41 := by kernel_rfl
@[simp] theorem szOf_62 : szOf prog 62 = some 4 := by kernel_rfl
@[simp] theorem szOf_68 : szOf prog 68 = some 1 := by kernel_rfl
@[simp] theorem szOf_84 : szOf prog 84 = some 1 := by kernel_rfl
@[simp] theorem szOf_86 : szOf prog 86 = some 2 := by kernel_rfl
@[simp] theorem szOf_9 : szOf prog 9 = some 1 := by kernel_rfl
@[simp] theorem szOf_96 : szOf prog 96 = some 1 := by kernel_rfl
@[simp] theorem zeroOf_114 : zeroOf prog 114 = some (repV 24 (Value.int IntKind.u8 0)) := by kernel_rfl
@[simp] theorem zeroOf_128 : zeroOf prog 128 = some (repV 20 (Value.int IntKind.u64 0)) := by kernel_rfl
@[simp] theorem zeroOf_129 : zeroOf prog 129 = some (repV 65 (Value.int IntKind.u8 0)) := by kernel_rfl
@[simp] theorem zeroOf_139 : zeroOf prog 139 = some (repV 32 (Value.int IntKind.u8 0)) := by kernel_rfl
@[simp] theorem zeroOf_45 : zeroOf prog 45 = some #[Value.int IntKind.u32 0, Value.int IntKind.u32 0, Value.int IntKind.u64 0] := by kernel_rfl
@[simp] theorem zeroOf_46 : zeroOf prog 46 = some (repV 64 (Value.int IntKind.u8 0)) := by kernel_rfl
@[simp] theorem zeroOf_47 : zeroOf prog 47 = some (repV 64 (Value.int IntKind.u8 0)) := by kernel_rfl
@[simp] theorem zeroOf_58 : zeroOf prog 58 = some #[Value.int IntKind.u32 0, Value.int IntKind.u32 0, Value.int IntKind.u64 0, Value.int IntKind.i64 0, Value.int IntKind.u32 0, Value.int IntKind.u32 0, Value.int IntKind.u64 0, Value.int IntKind.u32 0, Value.int IntKind.u32 0, Value.string ⟨#[]⟩, Value.string ⟨#[]⟩, Value.string ⟨#[]⟩, Value.string ⟨#[]⟩, Value.string ⟨#[]⟩, Value.string ⟨#[]⟩, Value.string ⟨#[]⟩, Value.string ⟨#[]⟩, Value.string ⟨#[]⟩, Value.string ⟨#[]⟩, Value.string ⟨#[]⟩, Value.string ⟨#[]⟩, Value.string ⟨#[]⟩, Value.string ⟨#[]⟩, Value.string ⟨#[]⟩, Value.string ⟨#[]⟩, Value.string ⟨#[]⟩, Value.string ⟨#[]⟩, Value.string ⟨#[]⟩, Value.string ⟨#[]⟩, Value.string ⟨#[]⟩, Value.string ⟨#[]⟩, Value.string ⟨#[]⟩, Value.string ⟨#[]⟩, Value.string ⟨#[]⟩, Value.string ⟨#[]⟩, Value.string ⟨#[]⟩, Value.string ⟨#[]⟩, Value.string ⟨#[]⟩, Value.string ⟨#[]⟩, Value.string ⟨#[]⟩, Value.string ⟨#[]⟩] := by kernel_rfl
@[simp] theorem zeroOf_62 : zeroOf prog 62 = some #[Value.pointer none, Value.pointer none, Value.pointer none, Value.pointer none] := by kernel_rfl
@[simp] theorem zeroOf_70 : zeroOf prog 70 = some #[Value.int IntKind.u64 0, Value.slice none 0 0, Value.int IntKind.u64 0, Value.int IntKind.i64 0] := by kernel_rfl
@[simp] theorem zeroOf_72 : zeroOf prog 72 = some #[Value.int IntKind.u64 0, Value.int IntKind.u8 0] := by kernel_rfl
@[simp] theorem zeroOf_86 : zeroOf prog 86 = some #[Value.int IntKind.u64 0, Value.int IntKind.i64 0] := by kernel_rfl
@[simp] theorem zeroOf_88 : zeroOf prog 88 = some #[Value.slice none 0 0, Value.int IntKind.u64 0, Value.int IntKind.i64 0] := by kernel_rfl
@[simp] theorem zeroOf_91 : zeroOf prog 91 = some #[Value.int IntKind.u64 0, Value.int IntKind.i64 0] := by kernel_rfl
@[simp] theorem zeroOf_98 : zeroOf prog 98 = some #[Value.pointer none, Value.slice none 0 0] := by kernel_rfl
@[simp] theorem eqGT_91 : eqGT prog 91 = false := by kernel_rfl

end Go.Proofs.YtkbiadobkheafaaDoor
