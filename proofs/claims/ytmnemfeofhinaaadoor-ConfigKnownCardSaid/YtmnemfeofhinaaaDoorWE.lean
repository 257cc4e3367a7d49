/-
  The variable of a type's handle: met at a call.
-/
import Derived.Test.YtmnemfeofhinaaaDoorRows
import Derived.Test.YtmnemfeofhinaaaDoorTie
import Derived.Test.YtmnemfeofhinaaaDoorCards
import Derived.Test.YtmnemfeofhinaaaDoorM32
import Derived.Test.YtmnemfeofhinaaaDoorEA
import Derived.WalkKit
import Derived.ProofKit
import Derived.LaidMore
import Derived.LaidLaws
import Derived.LaidHandle
import Derived.OpenShut
import Derived.ShutString
import Derived.ChangeOld
import Derived.Below
import Derived.Stop.Joined
import Derived.SevenTiedAt
set_option linter.unusedSimpArgs false
set_option linter.unusedVariables false
set_option linter.unusedSectionVars false
namespace Go.Proofs.YtmnemfeofhinaaaDoor
open Go Go.Mini Go.Proofs.Tryd
open Go.ChangeShapes Go.WideShapes Go.ChangeAt Go.RowKit

theorem lt63 {a b : Nat} (h : a = b) (h2 : b ≤ maxLen) : a < 9223372036854775808 := by
  have : maxLen < 9223372036854775808 := by decide
  omega
theorem own : ownKnob Tryd.prog.godebug = none := by kernel_rfl
theorem laidOut : laidOutB Tryd.prog = true := by kernel_rfl
theorem eTy : Tryd.prog.globalNamed "errors.errorType" = some 0 := by kernel_rfl
theorem rTy : (Tryd.prog.cutTypes.find? (·.1 == "internal/reflectlite.rtype")).map (·.2) = some 155 := by kernel_rfl
theorem tSize : Tryd.prog.types.size = 211 := by kernel_rfl
theorem oneRow : ((List.range 211).filter fun t => Tryd.prog.rowNamed t [101, 114, 114, 111, 114]) = [29] := by kernel_rfl
abbrev laidE : List (String × DataW Unit) := [("errors.errorType", Rows.laid_errors_errorType)]
def errT : Nat → Option (Array Value) := fun g => if g = 0 then some #[errN] else none
theorem err_of_met {W : World} (h : handlesMet Tryd.prog laidE W) : TabsRn W errT := by
  obtain ⟨name, u, ty, e1, e2, e3, e4, e5⟩ := h _ (List.mem_singleton.2 rfl)
  have en : name = [101, 114, 114, 111, 114] := (Option.some.inj e1).symm
  subst en
  obtain rfl := Option.some.inj (rTy.symm.trans e2)
  have hm : ty ∈ (List.range 211).filter fun t => Tryd.prog.rowNamed t [101, 114, 114, 111, 114] := List.mem_filter.2 ⟨List.mem_range.2 (by rw [← tSize]; exact e3), e4⟩
  rw [oneRow] at hm
  obtain rfl := List.mem_singleton.1 hm
  have hh : typeHandle Tryd.prog 29 = .pointer (some ⟨4, 29, none⟩) := by kernel_rfl
  rw [hh] at e5
  intro g c hc
  unfold errT at hc
  split at hc
  · rename_i hg
    obtain rfl := Option.some.inj hc
    subst hg
    refine ⟨by omega, fun ρ hρ => ?_, ?_⟩
    · unfold World.var? at e5
      rw [eTy] at e5
      simp only [Option.bind_some] at e5
      split at e5
      · rename_i cs t f hcc
        cases e5
        refine ⟨t, f, hcc.trans ?_⟩
        have h4 : ρ 104 = ⟨4, 0, 0⟩ := hρ 4
        simp [errN, rl, rlL, rlAddr, h4]
      · cases e5
    · intro v hv
      simp only [Array.mem_toList_iff, List.mem_toArray, List.mem_singleton, Array.mem_def] at hv
      subst hv
      exact ⟨by simp [errN, vtop, vtopL], rfl⟩
  · cases hc
theorem err_of_laid {W : World} (h : laidMetH Tryd.prog laidE W) : TabsRn W errT := by
  have h' : laidMet Tryd.prog [] W ∧ handlesMet Tryd.prog laidE W := h
  exact err_of_met h'.2
theorem doorE (os : Os) (args : Array Value) : laidMetH Tryd.prog laidE ((World.doorLaid Tryd.prog 400 os).forCall (fun _ _ => 0) ⟨#[], args, []⟩).memory :=
  laidMetH_of_parts (laidMet_nil _ _) (by kernel_rfl)
theorem law_err (l : List Arg) : HasErr (lawHp l errT) := rfl
end Go.Proofs.YtmnemfeofhinaaaDoor
