/-
  A block device: Reset.
-/
import Derived.Test.YtkbiadobkheafaaU5
set_option linter.unusedSimpArgs false
set_option linter.unusedVariables false
set_option linter.unusedSectionVars false
namespace Go.Proofs.Ytkbiadobkheafaa
open Go Go.Mini Go.Proofs.Try
set_option maxRecDepth 100000

def resetD (d : Dev) : Dev := { dev0 with dl := d.dl, S := d.S }
def resR (d : Dev) : Array Value := putL (zL.set 8 (.int .u32 d.dl)).toArray 9 ((devC d).extract 10 2058).toList
theorem resR_size (d : Dev) : (resR d).size = 2057 := by simp [resR, zL_len]
theorem resR_at (d : Dev) {j : Nat} (hj : j < 2057) : (resR d)[j]? = some (cell (resetD d) (j + 1)) := by
  unfold resR
  rw [getElem?_putL]
  match j with
  | 0 => rfl
  | 1 => rfl
  | 2 => rfl
  | 3 => rfl
  | 4 => rfl
  | 5 => rfl
  | 6 => rfl
  | 7 => rfl
  | 8 => rfl
  | k + 9 =>
    rw [if_pos ⟨by omega, by simp; omega, by simp [zL_len]; omega⟩, Array.getElem?_toList, Array.getElem?_extract, if_pos (by simp; omega), show 10 + (k + 9 - 9) = 10 + k by omega, devC_S d (by omega)]
    unfold cell
    rw [if_neg (by omega), if_neg (by omega), if_neg (by omega), if_neg (by omega), if_neg (by omega), if_neg (by omega), if_neg (by omega), if_neg (by omega), if_neg (by omega), if_neg (by omega), show k + 9 + 1 - 10 = k by omega]
    rfl
theorem res_cells (d : Dev) : putL (devC d) 1 (resR d).toList = devC (resetD d) := by
  refine devC_ext (by simp) fun i hi => ?_
  rw [getElem?_putL]
  match i with
  | 0 => rw [if_neg (by omega), devC_0]; rfl
  | j + 1 => rw [if_pos ⟨by omega, by simp [resR_size]; omega, by simp; omega⟩, Array.getElem?_toList, show j + 1 - 1 = j by omega, resR_at d (by omega)]
section
variable {h : Hp} {K : Value → Hp → Prop} {p : Nat} {d : Dev}
theorem reset_call (hb : h.blks p = some ⟨devC d, 1, true⟩) (hK : K (.tuple #[]) (h.set p ⟨devC (resetD d), 1, true⟩)) : ACall prog 18 [ptr p] h K := by
  refine acallF_of tb0 func18 rfl rfl mixed (by kernel_rfl) fun hwf => ?_
  simp -dsimp (disch := omega)
  refine is_call hb ?_
  obtain ⟨c, hc⟩ : ∃ c, c = devC d := ⟨_, rfl⟩
  have cs : c.size = 2058 := by rw [hc]; simp
  have c9 : c[9]? = some (.int .u32 d.dl) := by rw [hc]; exact devC_9 d
  obtain ⟨m, hm⟩ : ∃ m, m = c.extract 10 2058 := ⟨_, rfl⟩
  have ms : m.size = 2048 := by rw [hm]; simp [cs]
  obtain ⟨r, hr⟩ : ∃ r, r = putL (zL.set 8 (.int .u32 d.dl)).toArray 9 m.toList := ⟨_, rfl⟩
  have rs : r.size = 2057 := by rw [hr]; simp [zL_len]
  have rr : r = resR d := by rw [hr, hm, hc]; rfl
  have ro : oneAll r.toList = true := by
    have h : ∀ l : List Value, (∀ v ∈ l, v.oneCell' = true) → oneAll l = true := by
      intro l
      induction l with
      | nil => intro _; rfl
      | cons v l ih => intro h; rw [oneAll_cons, h v (by simp), ih fun w hw => h w (by simp [hw])]; rfl
    refine h _ fun v hv => ?_
    obtain ⟨j, hj⟩ := List.mem_iff_getElem?.1 hv
    rw [Array.getElem?_toList] at hj
    have hlt : j < 2057 := by
      rcases Nat.lt_or_ge j 2057 with h | h
      · exact h
      · rw [Array.getElem?_eq_none (by omega)] at hj; cases hj
    rw [rr, resR_at d hlt] at hj
    cases hj
    unfold cell
    (repeat' split) <;> rfl
  have rc : putL c 1 r.toList = devC (resetD d) := by rw [rr, hc]; exact res_cells d
  rw [← hc] at hb
  simp -dsimp (disch := omega) [hb, cs, c9, ← hm, ms, zL_len, ← hr, rs, ro, rc, -getElem?_pos]
  exact RetF.all (r := .tuple #[]) (by simp) hK
end
end Go.Proofs.Ytkbiadobkheafaa
