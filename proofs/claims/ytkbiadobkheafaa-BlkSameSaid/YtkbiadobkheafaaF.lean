/-
  What stands where in the types of this program: each by reckoning.
-/
import Derived.Test.YtkbiadobkheafaaProg
import Derived.Test.YtkbiadobkheafaaM20
import Derived.KernelRfl
set_option linter.unusedSimpArgs false
set_option linter.unusedVariables false
set_option linter.unusedSectionVars false
namespace Go.Proofs.Ytkbiadobkheafaa
open Go Go.Mini Go.Proofs.Try

/-- So many times the same. -/
def repV (n : Nat) (v : Value) : Array Value := (List.replicate n v).toArray
theorem mixed : prog.follows .mixedOrders = true := by kernel_rfl
@[simp] theorem aggSz_104 : aggSz prog 104 = some none := by kernel_rfl
@[simp] theorem aggSz_107 : aggSz prog 107 = some (some 2) := by kernel_rfl
@[simp] theorem aggSz_22 : aggSz prog 22 = some none := by kernel_rfl
@[simp] theorem aggSz_23 : aggSz prog 23 = some none := by kernel_rfl
@[simp] theorem aggSz_26 : aggSz prog 26 = some none := by kernel_rfl
@[simp] theorem aggSz_28 : aggSz prog 28 = some none := by kernel_rfl
@[simp] theorem aggSz_3 : aggSz prog 3 = some none := by kernel_rfl
@[simp] theorem aggSz_32 : aggSz prog 32 = some none := by kernel_rfl
@[simp] theorem aggSz_4 : aggSz prog 4 = some none := by kernel_rfl
@[simp] theorem aggSz_46 : aggSz prog 46 = some (some 4) := by kernel_rfl
@[simp] theorem aggSz_48 : aggSz prog 48 = some none := by kernel_rfl
@[simp] theorem aggSz_49 : aggSz prog 49 = some (some 32) := by kernel_rfl
@[simp] theorem aggSz_5 : aggSz prog 5 = some none := by kernel_rfl
@[simp] theorem aggSz_52 : aggSz prog 52 = some none := by kernel_rfl
@[simp] theorem aggSz_55 : aggSz prog 55 = some (some 4) := by kernel_rfl
@[simp] theorem aggSz_61 : aggSz prog 61 = some (some 3) := by kernel_rfl
@[simp] theorem aggSz_63 : aggSz prog 63 = some (some 64) := by kernel_rfl
@[simp] theorem aggSz_64 : aggSz prog 64 = some (some 2048) := by kernel_rfl
@[simp] theorem aggSz_66 : aggSz prog 66 = some (some 2057) := by kernel_rfl
@[simp] theorem aggSz_68 : aggSz prog 68 = some (some 2058) := by kernel_rfl
@[simp] theorem aggSz_69 : aggSz prog 69 = some none := by kernel_rfl
@[simp] theorem aggSz_80 : aggSz prog 80 = some none := by kernel_rfl
@[simp] theorem aggSz_84 : aggSz prog 84 = some none := by kernel_rfl
@[simp] theorem aggSz_9 : aggSz prog 9 = some none := by kernel_rfl
@[simp] theorem aggSz_94 : aggSz prog 94 = some none := by kernel_rfl
@[simp] theorem apInfo_69_69 : apInfo prog #[69, 69] = some (1, 1) := by kernel_rfl
@[simp] theorem apInfo_69_9 : apInfo prog #[69, 9] = some (1, 1) := by kernel_rfl
@[simp] theorem apInfo_84_84 : apInfo prog #[84, 84] = some (2, 16) := by kernel_rfl
@[simp] theorem cvOf_122_94 : cvOf prog 122 94 = Cv.no := by kernel_rfl
@[simp] theorem cvOf_22_23 : cvOf prog 22 23 = Cv.int IntKind.u64 := by kernel_rfl
@[simp] theorem cvOf_22_3 : cvOf prog 22 3 = Cv.int IntKind.i64 := by kernel_rfl
@[simp] theorem cvOf_22_90 : cvOf prog 22 90 = Cv.int IntKind.u64 := by kernel_rfl
@[simp] theorem cvOf_23_22 : cvOf prog 23 22 = Cv.int IntKind.u32 := by kernel_rfl
@[simp] theorem cvOf_23_5 : cvOf prog 23 5 = Cv.int IntKind.u8 := by kernel_rfl
@[simp] theorem cvOf_3_23 : cvOf prog 3 23 = Cv.int IntKind.u64 := by kernel_rfl
@[simp] theorem cvOf_3_90 : cvOf prog 3 90 = Cv.int IntKind.u64 := by kernel_rfl
@[simp] theorem cvOf_5_23 : cvOf prog 5 23 = Cv.int IntKind.u64 := by kernel_rfl
@[simp] theorem cvOf_69_9 : cvOf prog 69 9 = Cv.ofBytes := by kernel_rfl
@[simp] theorem cvOf_90_22 : cvOf prog 90 22 = Cv.int IntKind.u32 := by kernel_rfl
@[simp] theorem cvOf_90_3 : cvOf prog 90 3 = Cv.int IntKind.i64 := by kernel_rfl
@[simp] theorem cvOf_94_122 : cvOf prog 94 122 = Cv.no := by kernel_rfl
@[simp] theorem elInfo_69 : elInfo prog 69 = some (1, 1, #[Value.int IntKind.u8 0]) := by kernel_rfl
@[simp] theorem elInfo_84 : elInfo prog 84 = some (2, 16, #[Value.int IntKind.u64 0, Value.int IntKind.u8 0]) := by kernel_rfl
@[simp] theorem eqPl_107 : eqPl prog 8 107 = some [(0, 0), (1, 0)] := by kernel_rfl
@[simp] theorem fldOff_121_0 : fldOff prog 121 0 = some 0 := by kernel_rfl
@[simp] theorem fldOff_121_1 : fldOff prog 121 1 = some 1 := by kernel_rfl
@[simp] theorem fldOff_25_0 : fldOff prog 25 0 = some 0 := by kernel_rfl
@[simp] theorem fldOff_25_1 : fldOff prog 25 1 = some 1 := by kernel_rfl
@[simp] theorem fldOff_25_2 : fldOff prog 25 2 = some 2 := by kernel_rfl
@[simp] theorem fldOff_25_3 : fldOff prog 25 3 = some 3 := by kernel_rfl
@[simp] theorem fldOff_25_4 : fldOff prog 25 4 = some 4 := by kernel_rfl
@[simp] theorem fldOff_46_0 : fldOff prog 46 0 = some 0 := by kernel_rfl
@[simp] theorem fldOff_46_1 : fldOff prog 46 1 = some 1 := by kernel_rfl
@[simp] theorem fldOff_46_2 : fldOff prog 46 2 = some 2 := by kernel_rfl
@[simp] theorem fldOff_46_3 : fldOff prog 46 3 = some 3 := by kernel_rfl
@[simp] theorem fldOff_51_0 : fldOff prog 51 0 = some 0 := by kernel_rfl
@[simp] theorem fldOff_51_1 : fldOff prog 51 1 = some 1 := by kernel_rfl
@[simp] theorem fldOff_51_2 : fldOff prog 51 2 = some 2 := by kernel_rfl
@[simp] theorem fldOff_51_3 : fldOff prog 51 3 = some 3 := by kernel_rfl
@[simp] theorem fldOff_51_4 : fldOff prog 51 4 = some 4 := by kernel_rfl
@[simp] theorem fldOff_51_5 : fldOff prog 51 5 = some 5 := by kernel_rfl
@[simp] theorem fldOff_51_6 : fldOff prog 51 6 = some 6 := by kernel_rfl
@[simp] theorem fldOff_51_7 : fldOff prog 51 7 = some 7 := by kernel_rfl
@[simp] theorem fldOff_51_8 : fldOff prog 51 8 = some 8 := by kernel_rfl
@[simp] theorem fldOff_51_9 : fldOff prog 51 9 = some 9 := by kernel_rfl
@[simp] theorem fldOff_55_0 : fldOff prog 55 0 = some 0 := by kernel_rfl
@[simp] theorem fldOff_55_1 : fldOff prog 55 1 = some 1 := by kernel_rfl
@[simp] theorem fldOff_55_2 : fldOff prog 55 2 = some 2 := by kernel_rfl
@[simp] theorem fldOff_55_3 : fldOff prog 55 3 = some 3 := by kernel_rfl
@[simp] theorem fldOff_61_0 : fldOff prog 61 0 = some 0 := by kernel_rfl
@[simp] theorem fldOff_61_1 : fldOff prog 61 1 = some 1 := by kernel_rfl
@[simp] theorem fldOff_61_2 : fldOff prog 61 2 = some 2 := by kernel_rfl
@[simp] theorem fldOff_66_0 : fldOff prog 66 0 = some 0 := by kernel_rfl
@[simp] theorem fldOff_66_1 : fldOff prog 66 1 = some 3 := by kernel_rfl
@[simp] theorem fldOff_66_2 : fldOff prog 66 2 = some 6 := by kernel_rfl
@[simp] theorem fldOff_66_3 : fldOff prog 66 3 = some 7 := by kernel_rfl
@[simp] theorem fldOff_66_4 : fldOff prog 66 4 = some 8 := by kernel_rfl
@[simp] theorem fldOff_66_5 : fldOff prog 66 5 = some 9 := by kernel_rfl
@[simp] theorem fldOff_68_0 : fldOff prog 68 0 = some 0 := by kernel_rfl
@[simp] theorem fldOff_68_1 : fldOff prog 68 1 = some 1 := by kernel_rfl
@[simp] theorem fldOff_71_0 : fldOff prog 71 0 = some 0 := by kernel_rfl
@[simp] theorem fldOff_73_0 : fldOff prog 73 0 = some 0 := by kernel_rfl
@[simp] theorem fldOff_73_1 : fldOff prog 73 1 = some 1 := by kernel_rfl
@[simp] theorem fldOff_86_0 : fldOff prog 86 0 = some 0 := by kernel_rfl
@[simp] theorem fldOff_86_1 : fldOff prog 86 1 = some 1 := by kernel_rfl
@[simp] theorem fldOff_86_2 : fldOff prog 86 2 = some 2 := by kernel_rfl
@[simp] theorem fldOff_86_3 : fldOff prog 86 3 = some 3 := by kernel_rfl
@[simp] theorem fldOff_96_0 : fldOff prog 96 0 = some 0 := by kernel_rfl
@[simp] theorem fldOff_96_1 : fldOff prog 96 1 = some 1 := by kernel_rfl
@[simp] theorem ifaceOk_28 : ifaceOk prog 28 = true := by kernel_rfl
@[simp] theorem ifaceOk_9 : ifaceOk prog 9 = true := by kernel_rfl
@[simp] theorem isStr_63 : isStr prog 63 = false := by kernel_rfl
@[simp] theorem isStr_69 : isStr prog 69 = false := by kernel_rfl
@[simp] theorem isStr_9 : isStr prog 9 = true := by kernel_rfl
@[simp] theorem ixInfo_44 : ixInfo prog 44 = some (none, 4, some 4) := by kernel_rfl
@[simp] theorem ixInfo_49 : ixInfo prog 49 = some (some 32, 1, none) := by kernel_rfl
@[simp] theorem ixInfo_63 : ixInfo prog 63 = some (some 64, 1, none) := by kernel_rfl
@[simp] theorem ixInfo_64 : ixInfo prog 64 = some (some 32, 64, some 64) := by kernel_rfl
@[simp] theorem ixInfo_69 : ixInfo prog 69 = some (none, 1, none) := by kernel_rfl
@[simp] theorem ixInfo_84 : ixInfo prog 84 = some (none, 2, some 2) := by kernel_rfl
@[simp] theorem ixInfo_9 : ixInfo prog 9 = none := by kernel_rfl
@[simp] theorem lenK_44 : lenK prog 44 = LenK.slice := by kernel_rfl
@[simp] theorem lenK_69 : lenK prog 69 = LenK.slice := by kernel_rfl
@[simp] theorem lenK_84 : lenK prog 84 = LenK.slice := by kernel_rfl
@[simp] theorem lenK_9 : lenK prog 9 = LenK.str := by kernel_rfl
@[simp] theorem methOf_28_Bytes : methOf prog 28 "Bytes" = some 14 := by kernel_rfl
@[simp] theorem methOf_28_Put : methOf prog 28 "Put" = some 10 := by kernel_rfl
@[simp] theorem plc_107 : plc prog 107 = Plc.st #[(0, 1), (1, 1)] := by kernel_rfl
@[simp] theorem plc_121 : plc prog 121 = Plc.st #[(0, 1), (1, 1)] := by kernel_rfl
@[simp] theorem plc_51 : plc prog 51 = Plc.st #[(0, 1), (1, 1), (2, 1), (3, 1), (4, 1), (5, 1), (6, 1), (7, 1), (8, 1), (9, 32)] := by kernel_rfl
@[simp] theorem plc_55 : plc prog 55 = Plc.st #[(0, 1), (1, 1), (2, 1), (3, 1)] := by kernel_rfl
@[simp] theorem plc_61 : plc prog 61 = Plc.st #[(0, 1), (1, 1), (2, 1)] := by kernel_rfl
@[simp] theorem plc_66 : plc prog 66 = Plc.st #[(0, 3), (3, 3), (6, 1), (7, 1), (8, 1), (9, 2048)] := by kernel_rfl
@[simp] theorem plc_68 : plc prog 68 = Plc.st #[(0, 1), (1, 2057)] := by kernel_rfl
@[simp] theorem plc_71 : plc prog 71 = Plc.st #[(0, 1), (1, 1)] := by kernel_rfl
@[simp] theorem plc_73 : plc prog 73 = Plc.st #[(0, 1), (1, 2)] := by kernel_rfl
@[simp] theorem plc_86 : plc prog 86 = Plc.st #[(0, 1), (1, 1), (2, 1), (3, 1)] := by kernel_rfl
@[simp] theorem szOf_22 : szOf prog 22 = some 1 := by kernel_rfl
@[simp] theorem szOf_23 : szOf prog 23 = some 1 := by kernel_rfl
@[simp] theorem szOf_3 : szOf prog 3 = some 1 := by kernel_rfl
@[simp] theorem szOf_46 : szOf prog 46 = some 4 := by kernel_rfl
@[simp] theorem szOf_5 : szOf prog 5 = some 1 := by kernel_rfl
@[simp] theorem szOf_51 : szOf prog 51 = some 41 := by kernel_rfl
@[simp] theorem szOf_55 : szOf prog 55 = some 4 := by kernel_rfl
@[simp] theorem szOf_61 : szOf prog 61 = some 3 := by kernel_rfl
@[simp] theorem szOf_63 : szOf prog 63 = some 64 := by kernel_rfl
@[simp] theorem szOf_66 : szOf prog 66 = some 2057 := by kernel_rfl
@[simp] theorem szOf_68 : szOf prog 68 = some 2058 := by kernel_rfl
@[simp] theorem szOf_69 : szOf prog 69 = some 1 := by kernel_rfl
@[simp] theorem szOf_71 : szOf prog 71 = some 2 := by kernel_rfl
@[simp] theorem szOf_84 : szOf prog 84 = some 1 := by kernel_rfl
@[simp] theorem szOf_9 : szOf prog 9 = some 1 := by kernel_rfl
@[simp] theorem szOf_94 : szOf prog 94 = some 1 := by kernel_rfl
@[simp] theorem zeroOf_107 : zeroOf prog 107 = some #[Value.int IntKind.u64 0, Value.int IntKind.i64 0] := by kernel_rfl
@[simp] theorem zeroOf_121 : zeroOf prog 121 = some #[Value.int IntKind.u64 0, Value.int IntKind.u8 0] := by kernel_rfl
@[simp] theorem zeroOf_46 : zeroOf prog 46 = some #[Value.int IntKind.u8 0, Value.int IntKind.u64 0, Value.int IntKind.u64 0, Value.int IntKind.i64 0] := by kernel_rfl
@[simp] theorem zeroOf_51 : zeroOf prog 51 = some #[Value.int IntKind.u32 0, Value.int IntKind.u32 0, Value.int IntKind.u64 0, Value.int IntKind.i64 0, Value.int IntKind.u32 0, Value.int IntKind.u32 0, Value.int IntKind.u64 0, Value.int IntKind.u32 0, Value.int IntKind.u32 0, Value.string ⟨#[]⟩, Value.string ⟨#[]⟩, Value.string ⟨#[]⟩, Value.string ⟨#[]⟩, Value.string ⟨#[]⟩, Value.string ⟨#[]⟩, Value.string ⟨#[]⟩, Value.string ⟨#[]⟩, Value.string ⟨#[]⟩, Value.string ⟨#[]⟩, Value.string ⟨#[]⟩, Value.string ⟨#[]⟩, Value.string ⟨#[]⟩, Value.string ⟨#[]⟩, Value.string ⟨#[]⟩, Value.string ⟨#[]⟩, Value.string ⟨#[]⟩, Value.string ⟨#[]⟩, Value.string ⟨#[]⟩, Value.string ⟨#[]⟩, Value.string ⟨#[]⟩, Value.string ⟨#[]⟩, Value.string ⟨#[]⟩, Value.string ⟨#[]⟩, Value.string ⟨#[]⟩, Value.string ⟨#[]⟩, Value.string ⟨#[]⟩, Value.string ⟨#[]⟩, Value.string ⟨#[]⟩, Value.string ⟨#[]⟩, Value.string ⟨#[]⟩, Value.string ⟨#[]⟩] := by kernel_rfl
@[simp] theorem zeroOf_55 : zeroOf prog 55 = some #[Value.pointer none, Value.pointer none, Value.pointer none, Value.pointer none] := by kernel_rfl
@[simp] theorem zeroOf_61 : zeroOf prog 61 = some #[Value.int IntKind.u32 0, Value.int IntKind.u32 0, Value.int IntKind.u64 0] := by kernel_rfl
@[simp] theorem zeroOf_63 : zeroOf prog 63 = some (repV 64 (Value.int IntKind.u8 0)) := by kernel_rfl
@[simp] theorem zeroOf_71 : zeroOf prog 71 = some #[Value.int IntKind.u64 0, Value.int IntKind.i64 0] := by kernel_rfl
@[simp] theorem zeroOf_73 : zeroOf prog 73 = some #[Value.slice none 0 0, Value.int IntKind.u64 0, Value.int IntKind.i64 0] := by kernel_rfl
@[simp] theorem zeroOf_86 : zeroOf prog 86 = some #[Value.int IntKind.u64 0, Value.slice none 0 0, Value.int IntKind.u64 0, Value.int IntKind.i64 0] := by kernel_rfl
@[simp] theorem zeroOf_96 : zeroOf prog 96 = some #[Value.pointer none, Value.slice none 0 0] := by kernel_rfl
@[simp] theorem eqGT_107 : eqGT prog 107 = false := by kernel_rfl

end Go.Proofs.Ytkbiadobkheafaa
