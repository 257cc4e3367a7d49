/-
  A block device: New, Copy, Sector, Reset.
-/
import Derived.Test.YtkbiadobkheafaaU2
import Derived.Test.YtkbiadobkheafaaU0
set_option linter.unusedSimpArgs false
set_option linter.unusedVariables false
set_option linter.unusedSectionVars false
namespace Go.Proofs.Ytkbiadobkheafaa
open Go Go.Mini Go.Proofs.Try
set_option maxRecDepth 100000

def dev0 : Dev := ⟨0, 0, 0, 0, 0, 0, 0, 0, 0, fun _ => 0⟩
theorem dev0_ok : dev0.ok := ⟨by decide, by decide, by decide, by decide, by decide, by decide, by decide, by decide, by decide, fun _ => by show 0 < 256; omega, fun h => by cases h⟩
theorem dev0_C : devC dev0 = (.bool true :: zL).toArray := by
  refine (devC_ext (by simp [zL_len]) fun i hi => ?_).symm
  rw [List.getElem?_toArray]
  match i with
  | 0 => rfl
  | 1 => rfl
  | 2 => rfl
  | 3 => rfl
  | 4 => rfl
  | 5 => rfl
  | 6 => rfl
  | 7 => rfl
  | 8 => rfl
  | 9 => rfl
  | i + 10 =>
    rw [List.getElem?_cons_succ, Nat.add_comm i 9, zL_at (by omega)]
    unfold cell
    rw [if_neg (by omega), if_neg (by omega), if_neg (by omega), if_neg (by omega), if_neg (by omega), if_neg (by omega), if_neg (by omega), if_neg (by omega), if_neg (by omega), if_neg (by omega)]
    rfl
theorem oneAll_zL : oneAll zL = true := by kernel_rfl
theorem oneAll_dev (d : Dev) : oneAll (devC d).toList = true := by
  have h : ∀ l : List Value, (∀ v ∈ l, v.oneCell' = true) → oneAll l = true := by
    intro l
    induction l with
    | nil => intro _; rfl
    | cons v l ih => intro h; rw [oneAll_cons, h v (by simp), ih fun w hw => h w (by simp [hw])]; rfl
  refine h _ fun v hv => ?_
  unfold devC at hv
  simp only [List.mem_map] at hv
  obtain ⟨i, _, rfl⟩ := hv
  unfold cell
  (repeat' split) <;> rfl
theorem devC_whole (d : Dev) : (devC d).extract 0 2058 = devC d := by
  have := Array.extract_size (xs := devC d)
  rwa [devC_size] at this
section
variable {h : Hp} {K : Value → Hp → Prop} {p : Nat} {d : Dev}
theorem new_call (hK : K (ptr h.next) (h.alloc ⟨devC dev0, 1, true⟩)) : ACall prog 6 [] h K := by
  refine acallF_of tb0 func6 rfl rfl mixed (by kernel_rfl) fun hwf => ?_
  simp -dsimp (disch := omega) [oneAll_zL]
  rw [dev0_C] at hK
  exact RetF.all (r := ptr h.next) (by simp) hK
end
end Go.Proofs.Ytkbiadobkheafaa
