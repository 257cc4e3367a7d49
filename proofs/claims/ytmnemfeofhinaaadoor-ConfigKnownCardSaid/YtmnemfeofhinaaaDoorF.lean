/-
  What stands where in the types of this program: each by reckoning.
-/
import Derived.Test.YtmnemfeofhinaaaDoorProg
import Derived.Test.YtmnemfeofhinaaaDoorM20
import Derived.KernelRfl
set_option linter.unusedSimpArgs false
set_option linter.unusedVariables false
set_option linter.unusedSectionVars false
namespace Go.Proofs.YtmnemfeofhinaaaDoor
open Go Go.Mini Go.Proofs.Tryd

/-- So many times the same. -/
def repV (n : Nat) (v : Value) : Array Value := (List.replicate n v).toArray
theorem mixed : prog.follows .mixedOrders = true := by kernel_rfl
@[simp] theorem aggSz_102 : aggSz prog 102 = some (some 2) := by kernel_rfl
@[simp] theorem aggSz_114 : aggSz prog 114 = some none := by kernel_rfl
@[simp] theorem aggSz_123 : aggSz prog 123 = some none := by kernel_rfl
@[simp] theorem aggSz_134 : aggSz prog 134 = some (some 3) := by kernel_rfl
@[simp] theorem aggSz_137 : aggSz prog 137 = some none := by kernel_rfl
@[simp] theorem aggSz_139 : aggSz prog 139 = some none := by kernel_rfl
@[simp] theorem aggSz_20 : aggSz prog 20 = some none := by kernel_rfl
@[simp] theorem aggSz_23 : aggSz prog 23 = some none := by kernel_rfl
@[simp] theorem aggSz_24 : aggSz prog 24 = some none := by kernel_rfl
@[simp] theorem aggSz_25 : aggSz prog 25 = some none := by kernel_rfl
@[simp] theorem aggSz_27 : aggSz prog 27 = some (some 3) := by kernel_rfl
@[simp] theorem aggSz_29 : aggSz prog 29 = some none := by kernel_rfl
@[simp] theorem aggSz_3 : aggSz prog 3 = some none := by kernel_rfl
@[simp] theorem aggSz_32 : aggSz prog 32 = some (some 3) := by kernel_rfl
@[simp] theorem aggSz_34 : aggSz prog 34 = some (some 6) := by kernel_rfl
@[simp] theorem aggSz_39 : aggSz prog 39 = some none := by kernel_rfl
@[simp] theorem aggSz_4 : aggSz prog 4 = some none := by kernel_rfl
@[simp] theorem aggSz_5 : aggSz prog 5 = some none := by kernel_rfl
@[simp] theorem aggSz_51 : aggSz prog 51 = some none := by kernel_rfl
@[simp] theorem aggSz_53 : aggSz prog 53 = some none := by kernel_rfl
@[simp] theorem aggSz_56 : aggSz prog 56 = some none := by kernel_rfl
@[simp] theorem aggSz_61 : aggSz prog 61 = some none := by kernel_rfl
@[simp] theorem aggSz_62 : aggSz prog 62 = some (some 17) := by kernel_rfl
@[simp] theorem aggSz_64 : aggSz prog 64 = some (some 20) := by kernel_rfl
@[simp] theorem aggSz_66 : aggSz prog 66 = some (some 2) := by kernel_rfl
@[simp] theorem aggSz_67 : aggSz prog 67 = some none := by kernel_rfl
@[simp] theorem aggSz_69 : aggSz prog 69 = some (some 7) := by kernel_rfl
@[simp] theorem aggSz_70 : aggSz prog 70 = some none := by kernel_rfl
@[simp] theorem aggSz_76 : aggSz prog 76 = some (some 2) := by kernel_rfl
@[simp] theorem aggSz_78 : aggSz prog 78 = some none := by kernel_rfl
@[simp] theorem aggSz_9 : aggSz prog 9 = some none := by kernel_rfl
@[simp] theorem apInfo_104_104 : apInfo prog #[104, 104] = some (2, 16) := by kernel_rfl
@[simp] theorem apInfo_114_114 : apInfo prog #[114, 114] = some (1, 8) := by kernel_rfl
@[simp] theorem apInfo_23_23 : apInfo prog #[23, 23] = some (20, 28) := by kernel_rfl
@[simp] theorem apInfo_24_24 : apInfo prog #[24, 24] = some (2, 4) := by kernel_rfl
@[simp] theorem apInfo_25_25 : apInfo prog #[25, 25] = some (7, 40) := by kernel_rfl
@[simp] theorem apInfo_44_44 : apInfo prog #[44, 44] = some (1, 1) := by kernel_rfl
@[simp] theorem apInfo_67_67 : apInfo prog #[67, 67] = some (2, 2) := by kernel_rfl
@[simp] theorem cvOf_180_61 : cvOf prog 180 61 = Cv.int IntKind.u32 := by kernel_rfl
@[simp] theorem cvOf_2_56 : cvOf prog 2 56 = Cv.int IntKind.u64 := by kernel_rfl
@[simp] theorem cvOf_3_180 : cvOf prog 3 180 = Cv.int IntKind.u64 := by kernel_rfl
@[simp] theorem cvOf_3_5 : cvOf prog 3 5 = Cv.int IntKind.u8 := by kernel_rfl
@[simp] theorem cvOf_3_56 : cvOf prog 3 56 = Cv.int IntKind.u64 := by kernel_rfl
@[simp] theorem cvOf_39_3 : cvOf prog 39 3 = Cv.int IntKind.i64 := by kernel_rfl
@[simp] theorem cvOf_39_56 : cvOf prog 39 56 = Cv.int IntKind.u64 := by kernel_rfl
@[simp] theorem cvOf_44_9 : cvOf prog 44 9 = Cv.ofBytes := by kernel_rfl
@[simp] theorem cvOf_5_3 : cvOf prog 5 3 = Cv.int IntKind.i64 := by kernel_rfl
@[simp] theorem cvOf_5_56 : cvOf prog 5 56 = Cv.int IntKind.u64 := by kernel_rfl
@[simp] theorem cvOf_5_61 : cvOf prog 5 61 = Cv.int IntKind.u32 := by kernel_rfl
@[simp] theorem cvOf_56_39 : cvOf prog 56 39 = Cv.int IntKind.u16 := by kernel_rfl
@[simp] theorem cvOf_56_5 : cvOf prog 56 5 = Cv.int IntKind.u8 := by kernel_rfl
@[simp] theorem cvOf_56_61 : cvOf prog 56 61 = Cv.int IntKind.u32 := by kernel_rfl
@[simp] theorem cvOf_61_5 : cvOf prog 61 5 = Cv.int IntKind.u8 := by kernel_rfl
@[simp] theorem cvOf_61_56 : cvOf prog 61 56 = Cv.int IntKind.u64 := by kernel_rfl
@[simp] theorem cvOf_9_44 : cvOf prog 9 44 = Cv.toBytes 5 := by kernel_rfl
@[simp] theorem elInfo_104 : elInfo prog 104 = some (2, 16, #[Value.int IntKind.u64 0, Value.int IntKind.i64 0]) := by kernel_rfl
@[simp] theorem elInfo_114 : elInfo prog 114 = some (1, 8, #[Value.int IntKind.u64 0]) := by kernel_rfl
@[simp] theorem elInfo_23 : elInfo prog 23 = some (20, 28, #[Value.int IntKind.u8 0, Value.int IntKind.u32 0, Value.int IntKind.u8 0, Value.int IntKind.u8 0, Value.int IntKind.u8 0, Value.int IntKind.u8 0, Value.int IntKind.u8 0, Value.int IntKind.u8 0, Value.int IntKind.u8 0, Value.int IntKind.u8 0, Value.int IntKind.u8 0, Value.int IntKind.u8 0, Value.int IntKind.u8 0, Value.int IntKind.u8 0, Value.int IntKind.u8 0, Value.int IntKind.u8 0, Value.int IntKind.u8 0, Value.int IntKind.u8 0, Value.int IntKind.u8 0, Value.int IntKind.u8 0]) := by kernel_rfl
@[simp] theorem elInfo_24 : elInfo prog 24 = some (2, 4, #[Value.int IntKind.u8 0, Value.int IntKind.u16 0]) := by kernel_rfl
@[simp] theorem elInfo_25 : elInfo prog 25 = some (7, 40, #[Value.int IntKind.u8 0, Value.int IntKind.u8 0, Value.int IntKind.u8 0, Value.slice none 0 0, Value.int IntKind.u8 0, Value.int IntKind.u8 0, Value.int IntKind.u32 0]) := by kernel_rfl
@[simp] theorem elInfo_44 : elInfo prog 44 = some (1, 1, #[Value.int IntKind.u8 0]) := by kernel_rfl
@[simp] theorem elInfo_67 : elInfo prog 67 = some (2, 2, #[Value.int IntKind.u8 0, Value.int IntKind.u8 0]) := by kernel_rfl
@[simp] theorem eqPl_64 : eqPl prog 8 64 = some [(0, 0), (1, 0), (2, 0), (3, 0), (4, 0), (5, 0), (6, 0), (7, 0), (8, 0), (9, 0), (10, 0), (11, 0), (12, 0), (13, 0), (14, 0), (15, 0), (16, 0), (17, 0), (18, 0), (19, 0)] := by kernel_rfl
@[simp] theorem eqPl_66 : eqPl prog 8 66 = some [(0, 0), (1, 0)] := by kernel_rfl
@[simp] theorem eqPl_76 : eqPl prog 8 76 = some [(0, 0), (1, 0)] := by kernel_rfl
@[simp] theorem fldOff_102_0 : fldOff prog 102 0 = some 0 := by kernel_rfl
@[simp] theorem fldOff_102_1 : fldOff prog 102 1 = some 1 := by kernel_rfl
@[simp] theorem fldOff_116_0 : fldOff prog 116 0 = some 0 := by kernel_rfl
@[simp] theorem fldOff_116_1 : fldOff prog 116 1 = some 1 := by kernel_rfl
@[simp] theorem fldOff_125_0 : fldOff prog 125 0 = some 0 := by kernel_rfl
@[simp] theorem fldOff_125_1 : fldOff prog 125 1 = some 1 := by kernel_rfl
@[simp] theorem fldOff_125_2 : fldOff prog 125 2 = some 2 := by kernel_rfl
@[simp] theorem fldOff_125_3 : fldOff prog 125 3 = some 3 := by kernel_rfl
@[simp] theorem fldOff_27_0 : fldOff prog 27 0 = some 0 := by kernel_rfl
@[simp] theorem fldOff_27_1 : fldOff prog 27 1 = some 1 := by kernel_rfl
@[simp] theorem fldOff_27_2 : fldOff prog 27 2 = some 2 := by kernel_rfl
@[simp] theorem fldOff_32_0 : fldOff prog 32 0 = some 0 := by kernel_rfl
@[simp] theorem fldOff_32_1 : fldOff prog 32 1 = some 1 := by kernel_rfl
@[simp] theorem fldOff_32_2 : fldOff prog 32 2 = some 2 := by kernel_rfl
@[simp] theorem fldOff_34_0 : fldOff prog 34 0 = some 0 := by kernel_rfl
@[simp] theorem fldOff_34_1 : fldOff prog 34 1 = some 1 := by kernel_rfl
@[simp] theorem fldOff_34_2 : fldOff prog 34 2 = some 2 := by kernel_rfl
@[simp] theorem fldOff_34_3 : fldOff prog 34 3 = some 3 := by kernel_rfl
@[simp] theorem fldOff_64_0 : fldOff prog 64 0 = some 0 := by kernel_rfl
@[simp] theorem fldOff_64_1 : fldOff prog 64 1 = some 1 := by kernel_rfl
@[simp] theorem fldOff_64_2 : fldOff prog 64 2 = some 2 := by kernel_rfl
@[simp] theorem fldOff_64_3 : fldOff prog 64 3 = some 3 := by kernel_rfl
@[simp] theorem fldOff_66_0 : fldOff prog 66 0 = some 0 := by kernel_rfl
@[simp] theorem fldOff_66_1 : fldOff prog 66 1 = some 1 := by kernel_rfl
@[simp] theorem fldOff_69_0 : fldOff prog 69 0 = some 0 := by kernel_rfl
@[simp] theorem fldOff_69_1 : fldOff prog 69 1 = some 1 := by kernel_rfl
@[simp] theorem fldOff_69_2 : fldOff prog 69 2 = some 2 := by kernel_rfl
@[simp] theorem fldOff_69_3 : fldOff prog 69 3 = some 3 := by kernel_rfl
@[simp] theorem fldOff_69_4 : fldOff prog 69 4 = some 4 := by kernel_rfl
@[simp] theorem fldOff_69_5 : fldOff prog 69 5 = some 5 := by kernel_rfl
@[simp] theorem fldOff_69_6 : fldOff prog 69 6 = some 6 := by kernel_rfl
@[simp] theorem fldOff_72_0 : fldOff prog 72 0 = some 0 := by kernel_rfl
@[simp] theorem fldOff_72_1 : fldOff prog 72 1 = some 1 := by kernel_rfl
@[simp] theorem fldOff_72_2 : fldOff prog 72 2 = some 2 := by kernel_rfl
@[simp] theorem fldOff_76_0 : fldOff prog 76 0 = some 0 := by kernel_rfl
@[simp] theorem fldOff_76_1 : fldOff prog 76 1 = some 1 := by kernel_rfl
@[simp] theorem fldOff_81_0 : fldOff prog 81 0 = some 0 := by kernel_rfl
@[simp] theorem fldOff_81_1 : fldOff prog 81 1 = some 1 := by kernel_rfl
@[simp] theorem ifaceOk_108 : ifaceOk prog 108 = true := by kernel_rfl
@[simp] theorem ifaceOk_112 : ifaceOk prog 112 = true := by kernel_rfl
@[simp] theorem ifaceOk_120 : ifaceOk prog 120 = true := by kernel_rfl
@[simp] theorem ifaceOk_210 : ifaceOk prog 210 = true := by kernel_rfl
@[simp] theorem ifaceOk_51 : ifaceOk prog 51 = true := by kernel_rfl
@[simp] theorem ifaceOk_70 : ifaceOk prog 70 = true := by kernel_rfl
@[simp] theorem ifaceOk_9 : ifaceOk prog 9 = true := by kernel_rfl
@[simp] theorem isStr_145 : isStr prog 145 = false := by kernel_rfl
@[simp] theorem isStr_171 : isStr prog 171 = false := by kernel_rfl
@[simp] theorem isStr_178 : isStr prog 178 = false := by kernel_rfl
@[simp] theorem isStr_24 : isStr prog 24 = false := by kernel_rfl
@[simp] theorem isStr_62 : isStr prog 62 = false := by kernel_rfl
@[simp] theorem isStr_9 : isStr prog 9 = true := by kernel_rfl
@[simp] theorem ixInfo_104 : ixInfo prog 104 = some (none, 2, some 2) := by kernel_rfl
@[simp] theorem ixInfo_114 : ixInfo prog 114 = some (none, 1, none) := by kernel_rfl
@[simp] theorem ixInfo_145 : ixInfo prog 145 = some (some 16, 1, none) := by kernel_rfl
@[simp] theorem ixInfo_146 : ixInfo prog 146 = some (none, 1, none) := by kernel_rfl
@[simp] theorem ixInfo_152 : ixInfo prog 152 = some (some 15, 1, none) := by kernel_rfl
@[simp] theorem ixInfo_164 : ixInfo prog 164 = some (none, 1, none) := by kernel_rfl
@[simp] theorem ixInfo_171 : ixInfo prog 171 = some (some 24, 1, none) := by kernel_rfl
@[simp] theorem ixInfo_177 : ixInfo prog 177 = some (some 20, 1, none) := by kernel_rfl
@[simp] theorem ixInfo_178 : ixInfo prog 178 = some (some 65, 1, none) := by kernel_rfl
@[simp] theorem ixInfo_183 : ixInfo prog 183 = some (some 32, 1, none) := by kernel_rfl
@[simp] theorem ixInfo_184 : ixInfo prog 184 = some (some 64, 1, none) := by kernel_rfl
@[simp] theorem ixInfo_23 : ixInfo prog 23 = some (none, 20, some 20) := by kernel_rfl
@[simp] theorem ixInfo_24 : ixInfo prog 24 = some (none, 2, some 2) := by kernel_rfl
@[simp] theorem ixInfo_25 : ixInfo prog 25 = some (none, 7, some 7) := by kernel_rfl
@[simp] theorem ixInfo_44 : ixInfo prog 44 = some (none, 1, none) := by kernel_rfl
@[simp] theorem ixInfo_62 : ixInfo prog 62 = some (some 17, 1, none) := by kernel_rfl
@[simp] theorem ixInfo_67 : ixInfo prog 67 = some (none, 2, some 2) := by kernel_rfl
@[simp] theorem ixInfo_9 : ixInfo prog 9 = none := by kernel_rfl
@[simp] theorem lenK_104 : lenK prog 104 = LenK.slice := by kernel_rfl
@[simp] theorem lenK_146 : lenK prog 146 = LenK.slice := by kernel_rfl
@[simp] theorem lenK_164 : lenK prog 164 = LenK.slice := by kernel_rfl
@[simp] theorem lenK_23 : lenK prog 23 = LenK.slice := by kernel_rfl
@[simp] theorem lenK_24 : lenK prog 24 = LenK.slice := by kernel_rfl
@[simp] theorem lenK_25 : lenK prog 25 = LenK.slice := by kernel_rfl
@[simp] theorem lenK_44 : lenK prog 44 = LenK.slice := by kernel_rfl
@[simp] theorem lenK_67 : lenK prog 67 = LenK.slice := by kernel_rfl
@[simp] theorem lenK_9 : lenK prog 9 = LenK.str := by kernel_rfl
@[simp] theorem methOf_70_Unwrap : methOf prog 70 "Unwrap" = some 26 := by kernel_rfl
@[simp] theorem plc_102 : plc prog 102 = Plc.st #[(0, 1), (1, 1)] := by kernel_rfl
@[simp] theorem plc_116 : plc prog 116 = Plc.st #[(0, 1), (1, 1)] := by kernel_rfl
@[simp] theorem plc_122 : plc prog 122 = Plc.st #[(0, 1)] := by kernel_rfl
@[simp] theorem plc_125 : plc prog 125 = Plc.st #[(0, 1), (1, 1), (2, 1), (3, 1)] := by kernel_rfl
@[simp] theorem plc_152 : plc prog 152 = Plc.arr 1 := by kernel_rfl
@[simp] theorem plc_177 : plc prog 177 = Plc.arr 1 := by kernel_rfl
@[simp] theorem plc_183 : plc prog 183 = Plc.arr 1 := by kernel_rfl
@[simp] theorem plc_184 : plc prog 184 = Plc.arr 1 := by kernel_rfl
@[simp] theorem plc_27 : plc prog 27 = Plc.st #[(0, 1), (1, 1), (2, 1)] := by kernel_rfl
@[simp] theorem plc_32 : plc prog 32 = Plc.st #[(0, 1), (1, 1), (2, 1)] := by kernel_rfl
@[simp] theorem plc_34 : plc prog 34 = Plc.st #[(0, 1), (1, 1), (2, 1), (3, 3)] := by kernel_rfl
@[simp] theorem plc_64 : plc prog 64 = Plc.st #[(0, 1), (1, 1), (2, 1), (3, 17)] := by kernel_rfl
@[simp] theorem plc_66 : plc prog 66 = Plc.st #[(0, 1), (1, 1)] := by kernel_rfl
@[simp] theorem plc_69 : plc prog 69 = Plc.st #[(0, 1), (1, 1), (2, 1), (3, 1), (4, 1), (5, 1), (6, 1)] := by kernel_rfl
@[simp] theorem plc_72 : plc prog 72 = Plc.st #[(0, 1), (1, 1), (2, 1)] := by kernel_rfl
@[simp] theorem plc_76 : plc prog 76 = Plc.st #[(0, 1), (1, 1)] := by kernel_rfl
@[simp] theorem plc_81 : plc prog 81 = Plc.st #[(0, 1), (1, 1)] := by kernel_rfl
@[simp] theorem szOf_102 : szOf prog 102 = some 2 := by kernel_rfl
@[simp] theorem szOf_114 : szOf prog 114 = some 1 := by kernel_rfl
@[simp] theorem szOf_123 : szOf prog 123 = some 1 := by kernel_rfl
@[simp] theorem szOf_134 : szOf prog 134 = some 3 := by kernel_rfl
@[simp] theorem szOf_137 : szOf prog 137 = some 1 := by kernel_rfl
@[simp] theorem szOf_152 : szOf prog 152 = some 15 := by kernel_rfl
@[simp] theorem szOf_177 : szOf prog 177 = some 20 := by kernel_rfl
@[simp] theorem szOf_183 : szOf prog 183 = some 32 := by kernel_rfl
@[simp] theorem szOf_184 : szOf prog 184 = some 64 := by kernel_rfl
@[simp] theorem szOf_23 : szOf prog 23 = some 1 := by kernel_rfl
@[simp] theorem szOf_24 : szOf prog 24 = some 1 := by kernel_rfl
@[simp] theorem szOf_25 : szOf prog 25 = some 1 := by kernel_rfl
@[simp] theorem szOf_27 : szOf prog 27 = some 3 := by kernel_rfl
@[simp] theorem szOf_3 : szOf prog 3 = some 1 := by kernel_rfl
@[simp] theorem szOf_32 : szOf prog 32 = some 3 := by kernel_rfl
@[simp] theorem szOf_34 : szOf prog 34 = some 6 := by kernel_rfl
@[simp] theorem szOf_4 : szOf prog 4 = some 1 := by kernel_rfl
@[simp] theorem szOf_5 : szOf prog 5 = some 1 := by kernel_rfl
@[simp] theorem szOf_56 : szOf prog 56 = some 1 := by kernel_rfl
@[simp] theorem szOf_64 : szOf prog 64 = some 20 := by kernel_rfl
@[simp] theorem szOf_66 : szOf prog 66 = some 2 := by kernel_rfl
@[simp] theorem szOf_67 : szOf prog 67 = some 1 := by kernel_rfl
@[simp] theorem szOf_69 : szOf prog 69 = some 7 := by kernel_rfl
@[simp] theorem szOf_70 : szOf prog 70 = some 1 := by kernel_rfl
@[simp] theorem szOf_76 : szOf prog 76 = some 2 := by kernel_rfl
@[simp] theorem szOf_78 : szOf prog 78 = some 1 := by kernel_rfl
@[simp] theorem zeroOf_102 : zeroOf prog 102 = some #[Value.int IntKind.u64 0, Value.int IntKind.i64 0] := by kernel_rfl
@[simp] theorem zeroOf_116 : zeroOf prog 116 = some #[Value.slice none 0 0, Value.slice none 0 0] := by kernel_rfl
@[simp] theorem zeroOf_122 : zeroOf prog 122 = some #[Value.string ⟨#[]⟩] := by kernel_rfl
@[simp] theorem zeroOf_125 : zeroOf prog 125 = some #[Value.nilFunc, Value.int IntKind.i64 0, Value.int IntKind.i64 0, Value.bool false] := by kernel_rfl
@[simp] theorem zeroOf_134 : zeroOf prog 134 = some #[Value.pointer none, Value.pointer none, Value.int IntKind.u64 0] := by kernel_rfl
@[simp] theorem zeroOf_145 : zeroOf prog 145 = some #[Value.bool false, Value.bool false, Value.bool false, Value.bool false, Value.bool false, Value.bool false, Value.bool false, Value.bool false, Value.bool false, Value.bool false, Value.bool false, Value.bool false, Value.bool false, Value.bool false, Value.bool false, Value.bool false] := by kernel_rfl
@[simp] theorem zeroOf_152 : zeroOf prog 152 = some #[Value.string ⟨#[]⟩, Value.string ⟨#[]⟩, Value.string ⟨#[]⟩, Value.string ⟨#[]⟩, Value.string ⟨#[]⟩, Value.string ⟨#[]⟩, Value.string ⟨#[]⟩, Value.string ⟨#[]⟩, Value.string ⟨#[]⟩, Value.string ⟨#[]⟩, Value.string ⟨#[]⟩, Value.string ⟨#[]⟩, Value.string ⟨#[]⟩, Value.string ⟨#[]⟩, Value.string ⟨#[]⟩] := by kernel_rfl
@[simp] theorem zeroOf_171 : zeroOf prog 171 = some (repV 24 (Value.int IntKind.u8 0)) := by kernel_rfl
@[simp] theorem zeroOf_177 : zeroOf prog 177 = some (repV 20 (Value.int IntKind.u64 0)) := by kernel_rfl
@[simp] theorem zeroOf_178 : zeroOf prog 178 = some (repV 65 (Value.int IntKind.u8 0)) := by kernel_rfl
@[simp] theorem zeroOf_183 : zeroOf prog 183 = some (repV 32 (Value.int IntKind.u8 0)) := by kernel_rfl
@[simp] theorem zeroOf_184 : zeroOf prog 184 = some (repV 64 (Value.int IntKind.u8 0)) := by kernel_rfl
@[simp] theorem zeroOf_27 : zeroOf prog 27 = some #[Value.slice none 0 0, Value.slice none 0 0, Value.slice none 0 0] := by kernel_rfl
@[simp] theorem zeroOf_32 : zeroOf prog 32 = some #[Value.slice none 0 0, Value.slice none 0 0, Value.slice none 0 0] := by kernel_rfl
@[simp] theorem zeroOf_34 : zeroOf prog 34 = some #[Value.string ⟨#[]⟩, Value.int IntKind.i64 0, Value.int IntKind.i64 0, Value.slice none 0 0, Value.slice none 0 0, Value.slice none 0 0] := by kernel_rfl
@[simp] theorem zeroOf_51 : zeroOf prog 51 = some #[Value.int IntKind.i64 0] := by kernel_rfl
@[simp] theorem zeroOf_56 : zeroOf prog 56 = some #[Value.int IntKind.u64 0] := by kernel_rfl
@[simp] theorem zeroOf_64 : zeroOf prog 64 = some #[Value.int IntKind.u8 0, Value.int IntKind.u32 0, Value.int IntKind.u8 0, Value.int IntKind.u8 0, Value.int IntKind.u8 0, Value.int IntKind.u8 0, Value.int IntKind.u8 0, Value.int IntKind.u8 0, Value.int IntKind.u8 0, Value.int IntKind.u8 0, Value.int IntKind.u8 0, Value.int IntKind.u8 0, Value.int IntKind.u8 0, Value.int IntKind.u8 0, Value.int IntKind.u8 0, Value.int IntKind.u8 0, Value.int IntKind.u8 0, Value.int IntKind.u8 0, Value.int IntKind.u8 0, Value.int IntKind.u8 0] := by kernel_rfl
@[simp] theorem zeroOf_66 : zeroOf prog 66 = some #[Value.int IntKind.u8 0, Value.int IntKind.u8 0] := by kernel_rfl
@[simp] theorem zeroOf_69 : zeroOf prog 69 = some #[Value.int IntKind.u8 0, Value.int IntKind.u8 0, Value.int IntKind.u8 0, Value.slice none 0 0, Value.int IntKind.u8 0, Value.int IntKind.u8 0, Value.int IntKind.u32 0] := by kernel_rfl
@[simp] theorem zeroOf_70 : zeroOf prog 70 = some #[Value.pointer none] := by kernel_rfl
@[simp] theorem zeroOf_72 : zeroOf prog 72 = some #[Value.string ⟨#[]⟩, Value.int IntKind.i64 0, Value.int IntKind.i64 0] := by kernel_rfl
@[simp] theorem zeroOf_76 : zeroOf prog 76 = some #[Value.int IntKind.u8 0, Value.int IntKind.u16 0] := by kernel_rfl
@[simp] theorem zeroOf_78 : zeroOf prog 78 = some #[Value.pointer none] := by kernel_rfl
@[simp] theorem zeroOf_81 : zeroOf prog 81 = some #[Value.pointer none, Value.pointer none] := by kernel_rfl
@[simp] theorem eqGT_64 : eqGT prog 64 = false := by kernel_rfl
@[simp] theorem eqGT_66 : eqGT prog 66 = false := by kernel_rfl
@[simp] theorem eqGT_76 : eqGT prog 76 = false := by kernel_rfl

end Go.Proofs.YtmnemfeofhinaaaDoor
