/-
  find: the register of an offset.
-/
import Derived.Test.YtfdhahnnhaeibaaDoorG6
set_option linter.unusedSimpArgs false
set_option linter.unusedVariables false
set_option linter.unusedSectionVars false
namespace Go.Proofs.YtfdhahnnhaeibaaDoor
open Go Go.Mini Go.Proofs.Tryd
set_option maxRecDepth 100000

def mv (p f : Nat) : Value := .func (.func f) #[ptr p] #[]
def findV (p off : Nat) : Array Value :=
  if 0 < off ∧ off < 32 then #[.int .i64 (off / 4 : Nat), mv p 43, mv p 44]
  else if off = 4096 then #[.int .i64 0, mv p 45, mv p 42]
  else if off = 8320 then #[.int .i64 1, mv p 46, mv p 47]
  else if off = 8192 then #[.int .i64 0, mv p 46, mv p 47]
  else if off = 2101248 then #[.int .i64 1, mv p 48, mv p 49]
  else if off = 2097152 then #[.int .i64 0, mv p 48, mv p 49]
  else if off = 2101252 then #[.int .i64 1, mv p 50, mv p 51]
  else if off = 2097156 then #[.int .i64 0, mv p 50, mv p 51]
  else #[.int .i64 0, mv p 41, mv p 42]
section
variable {h : Hp} {K : Value → Hp → Prop} {p : Nat}
set_option maxHeartbeats 1000000 in
theorem find_call {off : Nat} (ho : off < 18446744073709551616) (hK : K (.agg (findV p off)) h) : ACall prog 34 [ptr p, .int .u64 off] h K := by
  refine acallF_of tb0 func34 rfl rfl mixed (by kernel_rfl) fun hwf => ?_
  have hpl : p < h.next := by have := hwf.args (ptr p) (by simp); simp [vtop] at this; omega
  unfold findV mv at hK
  by_cases c1 : 0 < off ∧ off < 32
  · rw [if_pos c1] at hK
    obtain ⟨c1, c2⟩ := c1
    have c1' : (0 : Int) < off := by omega
    have c2' : (off : Int) < 32 := by omega
    have e : ((off : Int) / 4) = (off / 4 : Nat) := by omega
    have hl : off / 4 < 8 := by omega
    generalize off / 4 = d at *
    simp -dsimp (disch := omega) [c1, c1', c2', e]
    exact RetF.same hwf (by simp (disch := omega)) (by simp [vtop, vtopL, fnTop]; omega) (fun i hi => by simp (disch := omega)) hK
  rw [if_neg c1] at hK
  have b0 : 0 < off → ¬ (off : Int) < 32 := fun h => by omega
  by_cases n0 : off = 4096
  · rw [if_pos n0] at hK
    subst n0
    simp -dsimp (disch := omega)
    exact RetF.same hwf (by simp (disch := omega)) (by simp [vtop, vtopL, fnTop]; omega) (fun i hi => by simp (disch := omega)) hK
  rw [if_neg n0] at hK
  have m0 : ¬ (off : Int) = 4096 := by omega
  by_cases n1 : off = 8320
  · rw [if_pos n1] at hK
    subst n1
    simp -dsimp (disch := omega)
    exact RetF.same hwf (by simp (disch := omega)) (by simp [vtop, vtopL, fnTop]; omega) (fun i hi => by simp (disch := omega)) hK
  rw [if_neg n1] at hK
  have m1 : ¬ (off : Int) = 8320 := by omega
  by_cases n2 : off = 8192
  · rw [if_pos n2] at hK
    subst n2
    simp -dsimp (disch := omega)
    exact RetF.same hwf (by simp (disch := omega)) (by simp [vtop, vtopL, fnTop]; omega) (fun i hi => by simp (disch := omega)) hK
  rw [if_neg n2] at hK
  have m2 : ¬ (off : Int) = 8192 := by omega
  by_cases n3 : off = 2101248
  · rw [if_pos n3] at hK
    subst n3
    simp -dsimp (disch := omega)
    exact RetF.same hwf (by simp (disch := omega)) (by simp [vtop, vtopL, fnTop]; omega) (fun i hi => by simp (disch := omega)) hK
  rw [if_neg n3] at hK
  have m3 : ¬ (off : Int) = 2101248 := by omega
  by_cases n4 : off = 2097152
  · rw [if_pos n4] at hK
    subst n4
    simp -dsimp (disch := omega)
    exact RetF.same hwf (by simp (disch := omega)) (by simp [vtop, vtopL, fnTop]; omega) (fun i hi => by simp (disch := omega)) hK
  rw [if_neg n4] at hK
  have m4 : ¬ (off : Int) = 2097152 := by omega
  by_cases n5 : off = 2101252
  · rw [if_pos n5] at hK
    subst n5
    simp -dsimp (disch := omega)
    exact RetF.same hwf (by simp (disch := omega)) (by simp [vtop, vtopL, fnTop]; omega) (fun i hi => by simp (disch := omega)) hK
  rw [if_neg n5] at hK
  have m5 : ¬ (off : Int) = 2101252 := by omega
  by_cases n6 : off = 2097156
  · rw [if_pos n6] at hK
    subst n6
    simp -dsimp (disch := omega)
    exact RetF.same hwf (by simp (disch := omega)) (by simp [vtop, vtopL, fnTop]; omega) (fun i hi => by simp (disch := omega)) hK
  rw [if_neg n6] at hK
  have m6 : ¬ (off : Int) = 2097156 := by omega
  rcases Nat.eq_zero_or_pos off with z | z
  · subst z
    simp -dsimp (disch := omega)
    exact RetF.same hwf (by simp (disch := omega)) (by simp [vtop, vtopL, fnTop]; omega) (fun i hi => by simp (disch := omega)) hK
  · have z' := b0 z
    have z2 : (0 : Int) < off := by omega
    simp -dsimp (disch := omega) [z, z2, z', n0, m0, n1, m1, n2, m2, n3, m3, n4, m4, n5, m5, n6, m6]
    exact RetF.same hwf (by simp (disch := omega)) (by simp [vtop, vtopL, fnTop]; omega) (fun i hi => by simp (disch := omega)) hK
end
end Go.Proofs.YtfdhahnnhaeibaaDoor
