/-
  complete.
-/
import Derived.Test.YtfdhahnnhaeibaaDoorG5
set_option linter.unusedSimpArgs false
set_option linter.unusedVariables false
set_option linter.unusedSectionVars false
namespace Go.Proofs.YtfdhahnnhaeibaaDoor
open Go Go.Mini Go.Proofs.Tryd
set_option maxRecDepth 100000

theorem shr_u8' (y k : Nat) (hk : k < 8) (ty : TypeId) (xo yo : Operand) : abin prog .shr ty xo yo (.int .u8 (y : Nat)) (.int .u32 (k : Nat)) = some (.int .u8 ((y / 2 ^ k : Nat) : Int)) := by
  have e : ((y : Int).fdiv (2 ^ (min ((k : Nat) : Int).toNat IntKind.u8.bits))) = ((y / 2 ^ k : Nat) : Int) := by
    rw [show min ((k : Nat) : Int).toNat IntKind.u8.bits = k from by show min ((k : Nat) : Int).toNat 8 = k; omega, Int.fdiv_eq_ediv_of_nonneg _ (Int.le_of_lt (Int.pow_pos (by omega))), Int.natCast_ediv, Int.natCast_pow]
    rfl
  have h1 := abin_shr (P := prog) (ty := ty) (xo := xo) (yo := yo) (k := .u8) (k' := .u32) (a := (y : Int)) (b := (k : Int)) (by omega)
  rw [e] at h1
  exact h1
theorem wrap32 (n : Int) : IntKind.u32.wrap n = n % 4294967296 := by simp [IntKind.wrap, IntKind.bits, IntKind.signed]
section
variable {h : Hp} {K : Value → Hp → Prop} {p : Nat} {s : St}
theorem complete_call {c v : Nat} (hb : h.blks p = some ⟨stC s, 1, true⟩) (hs : s.ok) (hc : c < 2) (hv : v < 18446744073709551616) (hK : K (.tuple #[]) (h.set p ⟨stC (completeS s c (v % 4294967296)), 1, true⟩)) : ACall prog 51 [ptr p, .int .i64 c, .int .u64 v] h K := by
  refine acallF_of tb0 func51 rfl rfl mixed (by kernel_rfl) fun hwf => ?_
  have ew : IntKind.u32.wrap (v : Int) = ((v % 4294967296 : Nat) : Int) := by rw [wrap32]; omega
  have hl : v % 4294967296 < 4294967296 := Nat.mod_lt _ (by omega)
  generalize v % 4294967296 = n at *
  unfold completeS at hK
  by_cases c1 : 8 ≤ n
  · have c1' : (8 : Int) ≤ n := by omega
    rw [if_pos (.inl c1), set_same hb] at hK
    simp -dsimp (disch := omega) [ew, c1, c1']
    exact RetF.same hwf (by simp) (Nat.zero_le _) (fun _ _ => rfl) hK
  · have c1' : ¬ (8 : Int) ≤ n := by omega
    have hn : n < 8 := by omega
    have p3 := hs.en c
    have a0 := stC_en s hc
    have a1 := shr_u8' (s.en c) n hn
    have p4 : s.en c / 2 ^ n < 256 := Nat.lt_of_le_of_lt (Nat.div_le_self _ _) p3
    have a2 := and1_u8 (s.en c / 2 ^ n) p4
    have e1 := stC_setse (s := s) hn false
    generalize s.en c / 2 ^ n = y at *
    by_cases e2 : y % 2 = 0
    · rw [if_pos (.inr e2), set_same hb] at hK
      have e2' : ((y % 2 : Nat) : Int) = 0 := by omega
      rw [e2'] at a2
      simp -dsimp (disch := omega) [ew, c1, c1', hb, a0, a1, a2, -abin_shr, -abin_and]
      exact RetF.same hwf (by simp) (Nat.zero_le _) (fun _ _ => rfl) hK
    · rw [if_neg (by omega)] at hK
      have e2' : ((y % 2 : Nat) : Int) = 1 := by omega
      rw [e2'] at a2
      simp -dsimp (disch := omega) [ew, c1, c1', hb, a0, a1, a2, e1, -abin_shr, -abin_and]
      refine gate_call (n := n) (s := { s with se := upd1 s.se n false }) (blks_set_eq _ _ _) hn ?_
      simp -dsimp (disch := omega)
      exact RetF.all (r := .tuple #[]) (by simp) (by rw [Hp.set_set]; exact hK)
end
end Go.Proofs.YtfdhahnnhaeibaaDoor
