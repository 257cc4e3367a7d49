/-
  A block device: Copy.
-/
import Derived.Test.YtkbiadobkheafaaU3
set_option linter.unusedSimpArgs false
set_option linter.unusedVariables false
set_option linter.unusedSectionVars false
namespace Go.Proofs.Ytkbiadobkheafaa
open Go Go.Mini Go.Proofs.Try
set_option maxRecDepth 100000
theorem putL_full {cs cs' : Array Value} (h : cs.size = cs'.size) : putL cs 0 cs'.toList = cs' := by
  apply Array.ext_getElem?
  intro j
  rw [getElem?_putL]
  by_cases hj : j < cs'.size
  · rw [if_pos ⟨by omega, by simpa using hj, by omega⟩]; simp
  · rw [if_neg (by simp; omega), Array.getElem?_eq_none (by omega), Array.getElem?_eq_none (by omega)]
section
variable {h : Hp} {K : Value → Hp → Prop} {p : Nat} {d : Dev}
theorem copy_call (hb : h.blks p = some ⟨devC d, 1, true⟩) (hK : K (ptr h.next) (h.alloc ⟨devC d, 1, true⟩)) : ACall prog 24 [ptr p] h K := by
  refine acallF_of tb0 func24 rfl rfl mixed (by kernel_rfl) fun hwf => ?_
  simp -dsimp (disch := omega)
  refine is_call hb ?_
  obtain ⟨c, hc⟩ : ∃ c, c = devC d := ⟨_, rfl⟩
  have cs : c.size = 2058 := by rw [hc]; simp
  have ce : c.extract 0 2058 = c := by rw [hc]; exact devC_whole d
  have co : oneAll c.toList = true := by rw [hc]; exact oneAll_dev d
  have cp : putL (Value.bool false :: zL).toArray 0 c.toList = c := putL_full (by rw [cs]; simp [zL_len])
  rw [← hc] at hb hK
  clear hc
  simp -dsimp (disch := omega) [hb, cs, ce, co, zL_len, cp]
  exact RetF.all (r := ptr h.next) (by simp) hK
end
end Go.Proofs.Ytkbiadobkheafaa
