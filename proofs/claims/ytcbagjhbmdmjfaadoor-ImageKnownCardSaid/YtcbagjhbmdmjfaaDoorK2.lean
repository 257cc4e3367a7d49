/-
  The chapter's examples: what they come to.
-/
import Derived.Test.YtcbagjhbmdmjfaaDoorID
set_option linter.unusedSimpArgs false
set_option linter.unusedVariables false
set_option linter.unusedSectionVars false
namespace Go.Proofs.YtcbagjhbmdmjfaaDoor
set_option maxRecDepth 100000
open Go Go.Mini Go.Proofs.Tryd

def gB : List UInt8 := bldS 2147483648 [gG]
theorem gB_len : gB.length = 29 := given_size
theorem gB_25 : gB.take 25 = [65, 76, 77, 49, 0, 0, 0, 128, 0, 0, 0, 0, 1, 2, 0, 0, 128, 0, 0, 0, 0, 2, 0, 97, 98] := by decide +kernel
theorem fk1 : prE (gB.take 28) 1 = .flt sSum 25 4 := by kernel_rfl
theorem fk2 : prE (gB ++ [120]) 1 = .flt sEnd 29 5 := by kernel_rfl
theorem fk3 : prE (gB.take 28 ++ [120]) 1 = .flt sSum 25 7 := by kernel_rfl
theorem fk4 : prE [65, 76, 77, 49, 1, 0, 0, 128, 0, 0, 0, 0] 1 = .flt sEntry 4 8 := by kernel_rfl
theorem fk5 : prE [65, 76, 77, 49, 0, 16, 0, 128, 0, 0, 0, 0] 1 = .flt sEntry 4 6 := by kernel_rfl
theorem fk6 : prE [65, 76, 77] 1 = .flt sMagic 0 4 := by kernel_rfl
theorem fk7 : prE [65, 76, 77, 49, 0] 1 = .flt sEntry 4 4 := by kernel_rfl
theorem fk8 : prE (gB.take 12) 1 = .flt sCount 12 4 := by kernel_rfl
theorem fk9 : prE (gB.take 12 ++ [9]) 1 = .flt sCount 12 5 := by kernel_rfl
theorem fk10 : prE (gB.take 20) 1 = .flt sAddr 13 4 := by kernel_rfl
theorem fk11 : prE (gB.take 22) 1 = .flt sLength 21 4 := by kernel_rfl
theorem fk12 : prE (gB.take 21 ++ [0, 0]) 1 = .flt sLength 21 3 := by kernel_rfl
theorem fk13 : prE (gB.take 24) 1 = .flt sBytes 23 4 := by kernel_rfl
theorem fk14 : prE (gB.take 13 ++ [255, 15, 0, 128, 0, 0, 0, 0, 2, 0]) 1 = .flt sAddr 13 6 := by kernel_rfl
theorem fk15 (S : List UInt8) : prE S 0 = .num 2 := by unfold prE; rw [if_pos (by decide)]
theorem ck1 : chkI 2147483648 [gG, ⟨2147483651, [99]⟩] 1 = 12 := by decide +kernel
theorem ck2 : chkI 2147483649 [gG] 1 = 8 := by decide +kernel
theorem ck3 : chkI 2147483648 (List.replicate 9 ⟨0, []⟩) 1 = 5 := by decide +kernel
theorem ck4 : chkI 2147483648 [⟨2147483650, []⟩] 1 = 3 := by decide +kernel
theorem ck5 : chkI 2147483648 [gG] 17 = 2 := by decide +kernel
end Go.Proofs.YtcbagjhbmdmjfaaDoor
