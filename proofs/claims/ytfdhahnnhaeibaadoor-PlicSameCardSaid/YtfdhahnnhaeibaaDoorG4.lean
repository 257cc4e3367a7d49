/-
  claim, complete; what registers are set to.
-/
import Derived.Test.YtfdhahnnhaeibaaDoorG3
set_option linter.unusedSimpArgs false
set_option linter.unusedVariables false
set_option linter.unusedSectionVars false
namespace Go.Proofs.YtfdhahnnhaeibaaDoor
open Go Go.Mini Go.Proofs.Tryd
set_option maxRecDepth 100000

theorem stC_setse {s : St} {n : Nat} (hn : n < 8) (x : Bool) : (stC s).setIfInBounds (1 + n * 4 + 3) (.bool x) = stC { s with se := upd1 s.se n x } := by
  refine stC_set (by omega) ?_ fun i hi hne => ?_
  · unfold cell
    rw [if_neg (by omega), if_pos (by omega), if_neg (by omega), if_neg (by omega), if_neg (by omega), show (1 + n * 4 + 3 - 1) / 4 = n by omega]
    simp [upd1]
  · simp only [cell, upd1]
    repeat' split
    all_goals first | rfl | (exfalso; omega)
theorem stC_setpr {s : St} {n : Nat} (hn : n < 8) (x : Nat) : (stC s).setIfInBounds (1 + n * 4) (.int .u8 x) = stC { s with pr := upd1 s.pr n x } := by
  refine stC_set (by omega) ?_ fun i hi hne => ?_
  · unfold cell
    rw [if_neg (by omega), if_pos (by omega), if_pos (by omega), show (1 + n * 4 - 1) / 4 = n by omega]
    simp [upd1]
  · simp only [cell, upd1]
    repeat' split
    all_goals first | rfl | (exfalso; omega)
theorem stC_seten {s : St} {c : Nat} (hc : c < 2) (x : Nat) : (stC s).setIfInBounds (33 + c * 2) (.int .u8 x) = stC { s with en := upd1 s.en c x } := by
  refine stC_set (by omega) ?_ fun i hi hne => ?_
  · unfold cell
    rw [if_neg (by omega), if_neg (by omega), if_pos (by omega), show (33 + c * 2 - 33) / 2 = c by omega]
    simp [upd1]
  · simp only [cell, upd1]
    repeat' split
    all_goals first | rfl | (exfalso; omega)
theorem stC_setth {s : St} {c : Nat} (hc : c < 2) (x : Nat) : (stC s).setIfInBounds (33 + c * 2 + 1) (.int .u8 x) = stC { s with th := upd1 s.th c x } := by
  refine stC_set (by omega) ?_ fun i hi hne => ?_
  · unfold cell
    rw [if_neg (by omega), if_neg (by omega), if_neg (by omega), show (33 + c * 2 + 1 - 33) / 2 = c by omega]
    simp [upd1]
  · simp only [cell, upd1]
    repeat' split
    all_goals first | rfl | (exfalso; omega)
def claimS (s : St) (c : Nat) : St := if 0 < bestS s c then { s with pe := upd1 s.pe (bestS s c) false, se := upd1 s.se (bestS s c) true } else s
section
variable {h : Hp} {K : Value → Hp → Prop} {p : Nat} {s : St}
theorem claim_call {c : Nat} (hb : h.blks p = some ⟨stC s, 1, true⟩) (hs : s.ok) (hc : c < 2) (hp : p < h.next) (hK : K (.int .u64 (bestS s c : Nat)) (h.set p ⟨stC (claimS s c), 1, true⟩)) : ACall prog 50 [ptr p, .int .i64 c] h K := by
  refine acallF_of tb0 func50 rfl rfl mixed (by kernel_rfl) fun hwf => ?_
  simp -dsimp (disch := omega)
  refine best_call hb hs hc hp ?_
  have hbl := bestS_lt s c
  unfold claimS at hK
  generalize bestS s c = n at *
  by_cases h0 : 0 < n
  · have h0' : (0 : Int) < n := by omega
    rw [if_pos h0] at hK
    have e1 := stC_setpe (s := s) hbl false
    have e2 := stC_setse (s := { s with pe := upd1 s.pe n false }) hbl true
    simp -dsimp (disch := omega) [h0, h0', hb, e1, e2]
    exact RetF.all (by simp) hK
  · have h0' : ¬ (0 : Int) < n := by omega
    rw [if_neg h0, set_same hb] at hK
    simp -dsimp (disch := omega) [h0, h0']
    exact RetF.same hwf (by simp) (Nat.zero_le _) (fun _ _ => rfl) hK
theorem setPriority_call {n v : Nat} (hb : h.blks p = some ⟨stC s, 1, true⟩) (hn : n < 8) (hv : v < 18446744073709551616) (hK : K (.tuple #[]) (h.set p ⟨stC { s with pr := upd1 s.pr n (v % 8) }, 1, true⟩)) : ACall prog 44 [ptr p, .int .i64 n, .int .u64 v] h K := by
  refine acallF_of tb0 func44 rfl rfl mixed (by kernel_rfl) fun hwf => ?_
  have a1 : ∀ (ty : TypeId) (xo yo : Operand), abin prog .and ty xo yo (.int .u64 (v : Nat)) (.int .u64 7) = some (.int .u64 ((v % 8 : Nat) : Int)) := abin_low v 3 7 (v % 8) (by omega) hv (by rfl) rfl
  have e1 := stC_setpr (s := s) hn (v % 8)
  have hl : v % 8 < 8 := Nat.mod_lt _ (by omega)
  generalize v % 8 = d at *
  simp -dsimp (disch := omega) [hb, a1, e1, -abin_and]
  exact RetF.all (by simp) hK
theorem setThreshold_call {c v : Nat} (hb : h.blks p = some ⟨stC s, 1, true⟩) (hc : c < 2) (hv : v < 18446744073709551616) (hK : K (.tuple #[]) (h.set p ⟨stC { s with th := upd1 s.th c (v % 8) }, 1, true⟩)) : ACall prog 49 [ptr p, .int .i64 c, .int .u64 v] h K := by
  refine acallF_of tb0 func49 rfl rfl mixed (by kernel_rfl) fun hwf => ?_
  have a1 : ∀ (ty : TypeId) (xo yo : Operand), abin prog .and ty xo yo (.int .u64 (v : Nat)) (.int .u64 7) = some (.int .u64 ((v % 8 : Nat) : Int)) := abin_low v 3 7 (v % 8) (by omega) hv (by rfl) rfl
  have e1 := stC_setth (s := s) hc (v % 8)
  have hl : v % 8 < 8 := Nat.mod_lt _ (by omega)
  generalize v % 8 = d at *
  simp -dsimp (disch := omega) [hb, a1, e1, -abin_and]
  exact RetF.all (by simp) hK
end
end Go.Proofs.YtfdhahnnhaeibaaDoor
