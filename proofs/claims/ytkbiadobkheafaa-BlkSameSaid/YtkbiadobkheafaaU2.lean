/-
  A block device: a command begins; Write.
-/
import Derived.Test.YtkbiadobkheafaaU1
set_option linter.unusedSimpArgs false
set_option linter.unusedVariables false
set_option linter.unusedSectionVars false
namespace Go.Proofs.Ytkbiadobkheafaa
open Go Go.Mini Go.Proofs.Try
set_option maxRecDepth 100000

theorem devC_regs (d : Dev) : (devC d).extract 1 4 = #[.int .u32 d.rs, .int .u32 d.rc, .int .u64 d.ra] := by
  apply Array.ext_getElem?
  intro i
  rw [Array.getElem?_extract]
  match i with
  | 0 => rw [if_pos (by simp), devC_1]; rfl
  | 1 => rw [if_pos (by simp), devC_2]; rfl
  | 2 => rw [if_pos (by simp), devC_3]; rfl
  | i + 3 => rw [if_neg (by simp)]; simp
theorem devC_set4 (d : Dev) (n : Nat) : (devC d).setIfInBounds 4 (.int .u32 n) = devC { d with us := n } := devC_set (by omega) rfl fun i _ h => by unfold cell; (repeat' split) <;> first | rfl | omega
theorem devC_set5 (d : Dev) (n : Nat) : (devC d).setIfInBounds 5 (.int .u32 n) = devC { d with uc := n } := devC_set (by omega) rfl fun i _ h => by unfold cell; (repeat' split) <;> first | rfl | omega
theorem devC_set6 (d : Dev) (n : Nat) : (devC d).setIfInBounds 6 (.int .u64 n) = devC { d with ua := n } := devC_set (by omega) rfl fun i _ h => by unfold cell; (repeat' split) <;> first | rfl | omega
theorem devC_st1 (d : Dev) : (devC d).setIfInBounds 7 (.int .u8 1) = devC { d with st := 1 } := devC_set7 d 1
section
variable {h : Hp} {K : Value → Hp → Prop} {p : Nat} {d : Dev}
theorem begin_call {c : Nat} (hb : h.blks p = some ⟨devC d, 1, true⟩) (hd : d.ok) (hc : c < 4294967296) (hK : K (.tuple #[]) (h.set p ⟨devC (beginD d c), 1, true⟩)) : ACall prog 33 [ptr p, .int .u32 c] h K := by
  refine acallF_of tb0 func33 rfl rfl mixed (by kernel_rfl) fun hwf => ?_
  unfold beginD at hK
  by_cases e : d.st = 1
  · rw [if_pos e, set_same hb] at hK
    simp -dsimp (disch := omega) [hb, devC_7, e]
    exact RetF.all (by simp) hK
  · rw [if_neg e] at hK
    have e' : ¬ (d.st : Int) = 1 := by omega
    have s2 := devC_set2 d c
    have d9 := hd.dl
    simp -dsimp (disch := omega) [hb, devC_7, e, e', s2, devC_regs, devC_9, devC_set4, devC_set5, devC_set6, devC_st1]
    have hm : (if (d.dl : Int) < 1 then (1 : Int) else d.dl) = ((max d.dl 1 : Nat) : Int) := by split <;> omega
    refine RetF.all (r := .tuple #[]) (by simp) ?_
    rw [hm, devC_set8]
    exact hK
theorem wrap32 (v : Nat) : IntKind.u32.wrap (v : Int) = ((v % 4294967296 : Nat) : Int) := by simp [IntKind.wrap, IntKind.bits, IntKind.signed]
theorem write_call {off v : Nat} {w : Int} (hb : h.blks p = some ⟨devC d, 1, true⟩) (hd : d.ok) (ho : off < 18446744073709551616) (hv : v < 18446744073709551616) (h1 : mayD off w = false → K (.bool false) h) (h2 : mayD off w = true → K (.bool true) (h.set p ⟨devC (writeD d off v), 1, true⟩)) : ACall prog 16 [ptr p, .int .u64 off, .int .u64 v, .int .i64 w] h K := by
  refine acallF_of tb0 func16 rfl rfl mixed (by kernel_rfl) fun hwf => ?_
  simp -dsimp (disch := omega)
  refine read_call hb hd ho ?_
  have e32 := wrap32 v
  have m32 : v % 4294967296 < 4294967296 := Nat.mod_lt _ (by omega)
  by_cases c : mayD off w = true
  · have h2 := h2 c
    unfold writeD at h2
    have c2 := c
    unfold mayD at c2
    have c3 := of_decide_eq_true c2
    rw [c]
    generalize readD d off w = rr at *
    generalize v % 4294967296 = m at *
    by_cases k1 : off = 0
    · rw [if_pos k1] at h2
      simp -dsimp (disch := omega) [hb, k1, e32, devC_set1]
      exact RetF.all (r := .bool true) (by simp) h2
    rw [if_neg k1] at h2
    by_cases k2 : off = 8
    · rw [if_pos k2] at h2
      have z : (off : Int) = 8 := by omega
      simp -dsimp (disch := omega) [hb, k1, k2, z, devC_set3]
      exact RetF.all (r := .bool true) (by simp) h2
    rw [if_neg k2] at h2
    have z2 : ¬ (off : Int) = 8 := by omega
    by_cases k3 : off = 16
    · rw [if_pos k3] at h2
      have z : (off : Int) = 16 := by omega
      simp -dsimp (disch := omega) [hb, k1, z2, k3, z, e32]
      refine begin_call hb hd m32 ?_
      simp -dsimp (disch := omega)
      exact RetF.all (r := .bool true) (by simp) h2
    rw [if_neg k3] at h2
    have z3 : ¬ (off : Int) = 16 := by omega
    by_cases k4 : off = 24
    · rw [if_pos k4] at h2
      have z : (off : Int) = 24 := by omega
      simp -dsimp (disch := omega) [hb, k1, z2, z3, k4, z]
      refine ack_call hb ?_
      simp -dsimp (disch := omega)
      exact RetF.all (r := .bool true) (by simp) h2
    rw [if_neg k4, set_same hb] at h2
    have z4 : ¬ (off : Int) = 24 := by omega
    simp -dsimp (disch := omega) [k1, z2, z3, z4]
    exact RetF.all (r := .bool true) (by simp) h2
  · rw [Bool.not_eq_true] at c
    have h1 := h1 c
    rw [c]
    simp -dsimp (disch := omega)
    exact RetF.all (r := .bool false) (by simp) h1
end
end Go.Proofs.Ytkbiadobkheafaa
