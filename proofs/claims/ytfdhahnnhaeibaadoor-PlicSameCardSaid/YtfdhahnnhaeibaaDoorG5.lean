/-
  enable, pending, complete.
-/
import Derived.Test.YtfdhahnnhaeibaaDoorG4
set_option linter.unusedSimpArgs false
set_option linter.unusedVariables false
set_option linter.unusedSectionVars false
namespace Go.Proofs.YtfdhahnnhaeibaaDoor
open Go Go.Mini Go.Proofs.Tryd
set_option maxRecDepth 100000

theorem and_n (a b d : Nat) (ha : a < 18446744073709551616) (hb : b < 18446744073709551616) (hd : d = a &&& b) (ty : TypeId) (xo yo : Operand) : abin prog .and ty xo yo (.int .u64 (a : Nat)) (.int .u64 (b : Nat)) = some (.int .u64 (d : Nat)) := by
  rw [abin_and, show IntKind.u64.bits = 64 from rfl, BitVec.toNat_and, bv_of a ha, bv_of b hb, ← hd]
  have : d ≤ a := by rw [hd]; exact Nat.and_le_left
  rw [IntWalk.u64_in _ (by omega)]
/-- The bits of what is pending. -/
def pendK (s : St) : Nat → Nat
  | 0 => 0
  | k + 1 => pendK s k + if s.pe k = true then 2 ^ k else 0
theorem pendK_lt (s : St) : ∀ k, pendK s k < 2 ^ k := by
  intro k
  induction k with
  | zero => simp [pendK]
  | succ k ih =>
    simp only [pendK, Nat.pow_succ]
    split <;> omega
def completeS (s : St) (c n : Nat) : St := if 8 ≤ n ∨ s.en c / 2 ^ n % 2 = 0 then s else gateS { s with se := upd1 s.se n false } n
section
variable {h : Hp} {K : Value → Hp → Prop} {p : Nat} {s : St}
theorem enable_call {c v : Nat} (hb : h.blks p = some ⟨stC s, 1, true⟩) (hc : c < 2) (hv : v < 18446744073709551616) (hK : K (.tuple #[]) (h.set p ⟨stC { s with en := upd1 s.en c (v &&& 254) }, 1, true⟩)) : ACall prog 47 [ptr p, .int .i64 c, .int .u64 v] h K := by
  refine acallF_of tb0 func47 rfl rfl mixed (by kernel_rfl) fun hwf => ?_
  have a1 : ∀ (ty : TypeId) (xo yo : Operand), abin prog .and ty xo yo (.int .u64 (v : Nat)) (.int .u64 254) = some (.int .u64 ((v &&& 254 : Nat) : Int)) := and_n v 254 _ hv (by omega) rfl
  have e1 := stC_seten (s := s) hc (v &&& 254)
  have hl : v &&& 254 ≤ 254 := Nat.and_le_right
  generalize v &&& 254 = d at *
  simp -dsimp (disch := omega) [hb, a1, e1, -abin_and]
  exact RetF.all (by simp) hK
theorem pending_call {n : Int} (hb : h.blks p = some ⟨stC s, 1, true⟩) (hp : p < h.next) (hK : K (.int .u64 (pendK s 8 : Nat)) h) : ACall prog 45 [ptr p, .int .i64 n] h K := by
  refine acallF_of tb0 func45 rfl rfl mixed (by kernel_rfl) fun hwf => ?_
  obtain ⟨R, hR⟩ : ∃ R, R = (stC s).extract 1 33 := ⟨_, rfl⟩
  have hRs : R.size = 32 := by rw [hR]; simp
  simp -dsimp (disch := omega) [hb, ← hR]
  refine awp_loop (fun t h' => h.next ≤ h'.next ∧ (∀ i, i < h.next → h'.blks i = h.blks i) ∧ ∃ k : Nat, k ≤ 8 ∧ t 4 = .int .u64 (pendK s k : Nat) ∧ t 10 = .agg R ∧ t 11 = .int .i64 k) (fun t _ => 8 - ivN (t 11)) ?_ ?_
  · simp -dsimp (disch := omega)
    exact ⟨0, by omega, rfl, rfl⟩
  · rintro t h' ⟨hn, hsm, k, hk, t4, t10, t11⟩
    refine vcF_sound mixed (tb := tb0) _ (by kernel_rfl) ?_
    simp -dsimp (disch := omega) [t11]
    refine CondF_dec (fun hc3 => ?_) (fun hc3 => ?_)
    · have hk8 : k < 8 := by omega
      have hsc := src_cells s hk8
      rw [← hR] at hsc
      have hkz : k * 4 + 4 ≤ 32 := by omega
      have hps : pendK s (k + 1) = pendK s k + if s.pe k = true then 2 ^ k else 0 := rfl
      have hpl := pendK_lt s k
      have h2k : 2 ^ k ≤ 2 ^ 7 := Nat.pow_le_pow_right (by omega) (by omega)
      cases e1 : s.pe k with
      | false =>
        rw [e1, if_neg (by simp)] at hps
        simp -dsimp (disch := omega) [t4, t10, t11, hsc, hRs, hkz, e1]
        exact ⟨⟨by omega, fun i hi => by rw [if_neg (by omega)]; exact hsm i hi, k + 1, by omega, by rw [hps, Nat.add_zero], by simp⟩, by simp [ivN]; omega⟩
      | true =>
        rw [e1, if_pos rfl] at hps
        have a1 : IntKind.u64.wrap ((2 : Int) ^ (min k IntKind.u64.bits)) = ((2 ^ k : Nat) : Int) := by
          have := shl_u64 1 k (by omega) (2 ^ k) (by omega) (by omega)
          simpa using this
        have a2 := abin_join' (P := prog) (2 ^ k) (pendK s k) k hpl (by simp) (pendK s k + 2 ^ k) (by omega) (by omega)
        generalize 2 ^ k = B at hps a1 a2 h2k hpl
        simp -dsimp (disch := omega) [t4, t10, t11, hsc, hRs, hkz, e1, a1, a2, -abin_or]
        exact ⟨⟨by omega, fun i hi => by rw [if_neg (by omega)]; exact hsm i hi, k + 1, by omega, by rw [hps]; simp, by simp⟩, by simp [ivN]; omega⟩
    · have : k = 8 := by omega
      subst this
      simp -dsimp (disch := omega) [t4, t11]
      exact RetF.same hwf (by simp [t4]) (Nat.zero_le _) hsm hK
end
end Go.Proofs.YtfdhahnnhaeibaaDoor
