/-
  The tables that the program lays: met at a call.
-/
import Derived.Test.YtkbiadobkheafaaDoorRows
import Derived.Test.YtkbiadobkheafaaDoorTie
import Derived.Test.YtkbiadobkheafaaDoorCards
import Derived.Test.YtkbiadobkheafaaDoorM19
import Derived.Test.YtkbiadobkheafaaDoorM29
import Derived.Test.YtkbiadobkheafaaDoorVA
import Derived.Test.YtkbiadobkheafaaDoorZA
import Derived.WalkKit
import Derived.ProofKit
import Derived.LaidMore
import Derived.LaidLaws
import Derived.OpenShut
import Derived.ShutString
import Derived.ChangeOld
import Derived.Below
import Derived.Stop.Joined
import Derived.SevenTiedAt
set_option linter.unusedSimpArgs false
set_option linter.unusedVariables false
set_option linter.unusedSectionVars false
namespace Go.Proofs.YtkbiadobkheafaaDoor
open Go Go.Mini Go.Proofs.Tryd
open Go.ChangeShapes Go.WideShapes Go.ChangeAt Go.RowKit

theorem own : ownKnob Tryd.prog.godebug = none := by kernel_rfl
theorem laidOut : laidOutB Tryd.prog = true := by kernel_rfl
abbrev laidL : List (String × DataW Unit) := [("math/bits.deBruijn32tab", Rows.laid_math_bits_deBruijn32tab), ("math/bits.deBruijn64tab", Rows.laid_math_bits_deBruijn64tab), ("internal/strconv.uint64pow10", Rows.laid_internal_strconv_uint64pow10)]
theorem door_met (os : Os) (args : Array Value) : laidMetH Tryd.prog laidL ((World.doorLaid Tryd.prog 400 os).forCall (fun _ _ => 0) ⟨#[], args, []⟩).memory :=
  laidMetH_of_parts3 (fuel := 8) (laidMet_of_run' 8 (by kernel_rfl) (by kernel_rfl)) (by kernel_rfl) (by kernel_rfl)
theorem tPow : (Tryd.prog.globals[0]?).map (·.type) = some 128 := by kernel_rfl
theorem one_cell {cs : List Value} {i : Nat} {v : Value} (h : (cs.drop i).take 1 = [v]) : cs[i]? = some v := by
  have : (cs.drop i)[0]? = some v := by
    cases hd : cs.drop i with
    | nil => rw [hd] at h; cases h
    | cons x l => rw [hd] at h; simp at h; simp [h]
  simpa using this
def powT : Nat → Option (Array Value) := fun g => if g = 0 then some powC else none
theorem pow_size : powC.size = 20 := by kernel_rfl
theorem pow_of_laid {W : World} (h : laidMetH Tryd.prog laidL W) : TabsOk W powT := by
  rw [MakeChecks.laidMetH_plain _ _ _ (by kernel_rfl)] at h
  obtain ⟨ps, ⟨_, _, _, _, _, _, _, _, _, _, ⟨_, _, _, _, _, _, _, _, _, _, ⟨g0, t0, cs0, f0, p0, q0, hg0, ht0, hv0, hd0, _, _⟩, _⟩, _⟩, _, _⟩ := h
  obtain rfl := Option.some.inj (gPow.symm.trans hg0)
  obtain rfl := Option.some.inj (tPow.symm.trans ht0)
  obtain ⟨xs, m1, rfl, hx1, hlen, hn3, hel⟩ := DataW.trod_array Tryd.underlying128 hd0
  have c5 : Tryd.prog.cellsOf 28 = 1 := by kernel_rfl
  have c55 : Tryd.prog.cellsOf 128 = 20 := by kernel_rfl
  simp only [Prod.mk.injEq] at hx1
  have hxs : (DataW.agg (xs.map (·.1)) : DataW Unit) = .agg (Lib.pow10Tab.map fun n => .lit (.int .u64 n)) := hx1.1.symm.trans (by rfl)
  have hxs' : xs.map (·.1) = Lib.pow10Tab.map fun n => (.lit (.int .u64 n) : DataW Unit) := by injection hxs
  have hcell : ∀ i, (hi : i < 20) → cs0.toList[i]? = powC[i]? := fun i hi => by
    have h0 := hel i hi
    rw [c5, Nat.mul_one] at h0
    obtain ⟨x, hx⟩ : ∃ x, xs[i]? = some x := ⟨xs[i], List.getElem?_eq_getElem (by omega)⟩
    rw [hx] at h0
    obtain ⟨k, e1, e2, _⟩ := DataW.trod_int Tryd.underlying28 h0
    rw [one_cell e1]
    have : (xs.map (·.1))[i]? = some x.1 := by rw [List.getElem?_map, hx]; rfl
    rw [hxs', List.getElem?_map, e2] at this
    unfold powC
    rw [List.getElem?_toArray, List.getElem?_map]
    cases ht : Lib.pow10Tab[i]? with
    | none => rw [ht] at this; cases this
    | some n => rw [ht] at this; simp at this; simp [this]
  intro g c hc
  unfold powT at hc
  split at hc
  · rename_i hg
    obtain rfl := Option.some.inj hc
    subst hg
    refine ⟨by omega, ?_, ?_⟩
    · unfold World.var? at hv0
      rw [gPow] at hv0
      simp only [Option.bind_some] at hv0
      split at hv0
      · rename_i cs t f hcc
        cases hv0
        refine ⟨t, f, hcc.trans ?_⟩
        have ec : cs0 = powC := by
          apply Array.ext_getElem?
          intro j
          by_cases hj : j < 20
          · have := hcell j hj
            rwa [Array.getElem?_toList] at this
          · have hl := hlen
            rw [c55, Array.length_toList] at hl
            rw [Array.getElem?_eq_none (by omega), Array.getElem?_eq_none (by rw [pow_size]; omega)]
        exact congrArg _ (by rw [ec])
      · cases hv0
    · intro v hv
      unfold powC at hv
      simp only [List.mem_toArray, List.mem_map] at hv
      obtain ⟨n, _, rfl⟩ := hv
      exact ⟨rfl, rfl, fun _ => rfl⟩
  · cases hc
theorem sl_law {l : List Arg} {ts : Nat → Option (Array Value)} {e n : Nat} {cs : List Value} {v : Value} (hv : Sl (argsHp l) e n cs v) (hlen : l.length ≤ 100 := by simp) : Sl (lawHp l ts) e n cs v := by
  obtain ⟨h0, h1 | ⟨a, c, b, rfl, h2, h3⟩⟩ := hv
  · exact ⟨h0, .inl h1⟩
  · refine ⟨h0, .inr ⟨a, c, b, rfl, ?_, h3⟩⟩
    obtain ⟨p, c', hp, _, _⟩ := argsHp_blks h2
    have := (List.getElem?_eq_some_iff.1 hp).1
    simp only [lawHp]
    rw [if_pos (by omega)]
    exact h2

end Go.Proofs.YtkbiadobkheafaaDoor
