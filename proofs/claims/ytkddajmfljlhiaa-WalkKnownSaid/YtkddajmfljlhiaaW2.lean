/-
  Small functions of a walk: canonical, bad, page, Allowed.
-/
import Derived.Test.YtkddajmfljlhiaaW1
set_option linter.unusedSimpArgs false
set_option linter.unusedVariables false
namespace Go.Proofs.Ytkddajmfljlhiaa
open Go Go.Mini Go.Proofs.Try

def needN (x : Ask) : Nat := if x.kind = 0 then 8 else if x.kind = 1 then (if x.mxr = true then 10 else 2) else 4
def allowedB (e : Nat) (x : Ask) : Bool := if 3 ≤ x.kind then false else if x.mode = 0 then (!decide (e &&& 16 = 0)) && !decide (e &&& needN x = 0) else (!decide (e &&& needN x = 0)) && (decide (e &&& 16 = 0) || (x.sum && !decide (x.kind = 0)))
section
variable {h : Hp} {K : Value → Hp → Prop}
set_option maxRecDepth 100000 in
theorem can_call {va : Nat} (hv : va < 18446744073709551616) (hK : K (.bool (canB va)) h) : ACall prog 21 [.int .u64 va] h K := by
  refine acallF_of tb0 func21 rfl rfl mixed (by kernel_rfl) fun hwf => ?_
  obtain ⟨t, e1, e2, e3⟩ : ∃ t : Int, (IntKind.i64.wrap (va : Int)).fdiv (2 ^ min 38 IntKind.i64.bits) = t ∧ (t = 0 ↔ va / 274877906944 = 0) ∧ (t = -1 ↔ va / 274877906944 = 67108863) := by
    refine ⟨_, rfl, ?_⟩
    rw [show IntKind.i64.bits = 64 from rfl, show min 38 64 = 38 from rfl, Int.fdiv_eq_ediv_of_nonneg _ (by decide), IntKind.wrap_i64, show (2 : Int) ^ 38 = 274877906944 from rfl]
    omega
  unfold canB at hK
  by_cases h0 : t = 0
  · rw [decide_eq_true (e2.1 h0), Bool.true_or] at hK
    subst h0
    clear e2 e3
    simp -dsimp (disch := omega) [e1]
    exact RetF.same (r := .bool true) hwf (by simp) (Nat.zero_le _) (fun _ _ => rfl) hK
  · rw [decide_eq_false (fun h => h0 (e2.2 h)), Bool.false_or] at hK
    by_cases h1 : t = -1
    · rw [decide_eq_true (e3.1 h1)] at hK
      simp -dsimp (disch := omega) [e1, h0, h1]
      exact RetF.same hwf (by simp) (Nat.zero_le _) (fun _ _ => rfl) hK
    · rw [decide_eq_false (fun h => h1 (e3.2 h))] at hK
      simp -dsimp (disch := omega) [e1, h0, h1]
      exact RetF.same hwf (by simp) (Nat.zero_le _) (fun _ _ => rfl) hK

set_option maxRecDepth 100000 in
theorem bad_call {e : Nat} (he : e < 18446744073709551616) (hK : K (.bool (badB e)) h) : ACall prog 25 [.int .u64 e] h K := by
  refine acallF_of tb0 func25 rfl rfl mixed (by kernel_rfl) fun hwf => ?_
  obtain ⟨d1, hd1⟩ : ∃ d, d = e &&& 1 := ⟨_, rfl⟩
  obtain ⟨d6, hd6⟩ : ∃ d, d = e &&& 6 := ⟨_, rfl⟩
  obtain ⟨d, hd⟩ : ∃ d, d = e / 18014398509481984 := ⟨_, rfl⟩
  have a1 : ∀ (ty : TypeId) (xo yo : Operand), abin prog .and ty xo yo (.int .u64 (e : Nat)) (.int .u64 1) = some (.int .u64 (d1 : Nat)) := and_n e 1 d1 he (by omega) hd1
  have a6 : ∀ (ty : TypeId) (xo yo : Operand), abin prog .and ty xo yo (.int .u64 (e : Nat)) (.int .u64 6) = some (.int .u64 (d6 : Nat)) := and_n e 6 d6 he (by omega) hd6
  have e1 := shr_u64 e 54 (by omega)
  rw [show e / 2 ^ 54 = d from hd.symm] at e1
  unfold badB at hK
  rw [← hd1, ← hd6, ← hd] at hK
  clear hd1 hd6 hd
  by_cases h1 : d1 = 0
  · subst h1
    simp only [decide_true, Bool.true_or] at hK
    simp -dsimp (disch := omega) [a1, -abin_and]
    exact RetF.same hwf (by simp) (Nat.zero_le _) (fun _ _ => rfl) hK
  · have h1' : ¬ (d1 : Int) = 0 := by omega
    rw [decide_eq_false h1, Bool.false_or] at hK
    by_cases h6 : d6 = 4
    · subst h6
      simp only [decide_true, Bool.true_or] at hK
      simp -dsimp (disch := omega) [a1, a6, h1, h1', -abin_and]
      exact RetF.same hwf (by simp) (Nat.zero_le _) (fun _ _ => rfl) hK
    · have h6' : ¬ (d6 : Int) = 4 := by omega
      rw [decide_eq_false h6, Bool.false_or] at hK
      simp -dsimp (disch := omega) [a1, a6, h1, h1', h6, h6', e1, -abin_and]
      refine RetF.same (r := .bool (!decide ((d : Int) = 0))) hwf (by simp) (Nat.zero_le _) (fun _ _ => rfl) ?_
      rw [show decide ((d : Int) = 0) = decide (d = 0) from by rw [decide_eq_decide]; omega]
      exact hK

theorem page_call {e : Nat} (he : e < 18446744073709551616) (hK : K (.int .u64 (pageN e)) h) : ACall prog 26 [.int .u64 e] h K := by
  refine acallF_of tb0 func26 rfl rfl mixed (by kernel_rfl) fun hwf => ?_
  have e1 := shr_u64 e 10 (by omega)
  obtain ⟨d, hd⟩ : ∃ d, d = e / 1024 := ⟨_, rfl⟩
  rw [show e / 2 ^ 10 = d from hd.symm] at e1
  unfold pageN at hK
  rw [← hd] at hK
  have hdl : d < 18446744073709551616 := by omega
  have a1 : ∀ (ty : TypeId) (xo yo : Operand), abin prog .and ty xo yo (.int .u64 (d : Nat)) (.int .u64 17592186044415) = some (.int .u64 ((d % 17592186044416 : Nat) : Int)) := abin_low d 44 17592186044415 (d % 17592186044416) (by omega) hdl (by rfl) rfl
  obtain ⟨r, hr⟩ : ∃ r, r = d % 17592186044416 := ⟨_, rfl⟩
  rw [← hr] at a1 hK
  simp -dsimp (disch := omega) [e1]
  refine low_call (n := 44) (by omega) ?_
  rw [show ((2 ^ 44 - 1 : Nat) : Int) = 17592186044415 from rfl]
  simp -dsimp (disch := omega) [a1, -abin_and]
  exact RetF.same hwf (by simp) (Nat.zero_le _) (fun _ _ => rfl) hK

set_option maxRecDepth 100000 in
set_option maxHeartbeats 4000000 in
theorem allowed_call {e : Nat} {x : Ask} (he : e < 18446744073709551616) (ox : x.ok) (hK : K (.bool (allowedB e x)) h) : ACall prog 14 [.int .u64 e, askV x] h K := by
  refine acallF_of tb0 func14 rfl rfl mixed (by kernel_rfl) fun hwf => ?_
  obtain ⟨va, sa, ki, mo, su, mx⟩ := x
  obtain ⟨o1, o2, o3, o4⟩ := ox
  simp only at o1 o2 o3 o4
  unfold allowedB at hK
  unfold askV at *
  simp only at hK
  obtain ⟨d16, hd16⟩ : ∃ d, d = e &&& 16 := ⟨_, rfl⟩
  have a16 : ∀ (ty : TypeId) (xo yo : Operand), abin prog .and ty xo yo (.int .u64 (e : Nat)) (.int .u64 16) = some (.int .u64 (d16 : Nat)) := and_n e 16 d16 he (by omega) hd16
  rw [← hd16] at hK
  clear hd16
  rcases Nat.lt_or_ge ki 3 with hk | hk
  · rw [if_neg (by omega)] at hK
    rcases (by omega : ki = 0 ∨ ki = 1 ∨ ki = 2) with rfl | rfl | rfl
    · rw [show needN ⟨va, sa, 0, mo, su, mx⟩ = 8 from rfl] at hK
      obtain ⟨dn, hdn⟩ : ∃ d, d = e &&& 8 := ⟨_, rfl⟩
      have an : ∀ (ty : TypeId) (xo yo : Operand), abin prog .and ty xo yo (.int .u64 (e : Nat)) (.int .u64 8) = some (.int .u64 (dn : Nat)) := and_n e 8 dn he (by omega) hdn
      rw [← hdn] at hK
      clear hdn
      by_cases hm : mo = 0
      · subst hm
        rw [if_pos rfl] at hK
        by_cases h16 : d16 = 0
        · subst h16
          simp only [decide_true, Bool.not_true, Bool.false_and] at hK
          simp -dsimp (disch := omega) [a16, an, -abin_and]
          exact RetF.same (r := .bool false) hwf (by simp) (Nat.zero_le _) (fun i hi => by simp (disch := omega)) hK
        · have h16' : ¬ (d16 : Int) = 0 := by omega
          rw [decide_eq_false h16, Bool.not_false, Bool.true_and] at hK
          simp -dsimp (disch := omega) [a16, an, h16, h16', -abin_and]
          refine RetF.same (r := .bool (!decide ((dn : Int) = 0))) hwf (by simp) (Nat.zero_le _) (fun i hi => by simp (disch := omega)) ?_
          rw [show decide ((dn : Int) = 0) = decide (dn = 0) from by rw [decide_eq_decide]; omega]
          exact hK
      · have hm' : ¬ (mo : Int) = 0 := by omega
        rw [if_neg hm] at hK
        by_cases hn : dn = 0
        · subst hn
          simp only [decide_true, Bool.not_true, Bool.false_and] at hK
          simp -dsimp (disch := omega) [a16, an, hm, hm', -abin_and]
          exact RetF.same (r := .bool false) hwf (by simp) (Nat.zero_le _) (fun i hi => by simp (disch := omega)) hK
        · have hn' : ¬ (dn : Int) = 0 := by omega
          rw [decide_eq_false hn, Bool.not_false, Bool.true_and] at hK
          by_cases h16 : d16 = 0
          · subst h16
            simp only [decide_true, Bool.true_or] at hK
            simp -dsimp (disch := omega) [a16, an, hm, hm', hn, hn', -abin_and]
            exact RetF.same (r := .bool true) hwf (by simp) (Nat.zero_le _) (fun i hi => by simp (disch := omega)) hK
          · have h16' : ¬ (d16 : Int) = 0 := by omega
            rw [decide_eq_false h16, Bool.false_or] at hK
            cases su
            · simp -dsimp (disch := omega) [a16, an, hm, hm', hn, hn', h16, h16', -abin_and]
              exact RetF.same (r := .bool false) hwf (by simp) (Nat.zero_le _) (fun i hi => by simp (disch := omega)) hK
            · simp -dsimp (disch := omega) [a16, an, hm, hm', hn, hn', h16, h16', -abin_and]
              exact RetF.same (r := .bool false) hwf (by simp) (Nat.zero_le _) (fun i hi => by simp (disch := omega)) hK
    · cases mx
      · rw [show needN ⟨va, sa, 1, mo, su, false⟩ = 2 from rfl] at hK
        obtain ⟨dn, hdn⟩ : ∃ d, d = e &&& 2 := ⟨_, rfl⟩
        have an : ∀ (ty : TypeId) (xo yo : Operand), abin prog .and ty xo yo (.int .u64 (e : Nat)) (.int .u64 2) = some (.int .u64 (dn : Nat)) := and_n e 2 dn he (by omega) hdn
        rw [← hdn] at hK
        clear hdn
        by_cases hm : mo = 0
        · subst hm
          rw [if_pos rfl] at hK
          by_cases h16 : d16 = 0
          · subst h16
            simp only [decide_true, Bool.not_true, Bool.false_and] at hK
            simp -dsimp (disch := omega) [a16, an, -abin_and]
            exact RetF.same (r := .bool false) hwf (by simp) (Nat.zero_le _) (fun i hi => by simp (disch := omega)) hK
          · have h16' : ¬ (d16 : Int) = 0 := by omega
            rw [decide_eq_false h16, Bool.not_false, Bool.true_and] at hK
            simp -dsimp (disch := omega) [a16, an, h16, h16', -abin_and]
            refine RetF.same (r := .bool (!decide ((dn : Int) = 0))) hwf (by simp) (Nat.zero_le _) (fun i hi => by simp (disch := omega)) ?_
            rw [show decide ((dn : Int) = 0) = decide (dn = 0) from by rw [decide_eq_decide]; omega]
            exact hK
        · have hm' : ¬ (mo : Int) = 0 := by omega
          rw [if_neg hm] at hK
          by_cases hn : dn = 0
          · subst hn
            simp only [decide_true, Bool.not_true, Bool.false_and] at hK
            simp -dsimp (disch := omega) [a16, an, hm, hm', -abin_and]
            exact RetF.same (r := .bool false) hwf (by simp) (Nat.zero_le _) (fun i hi => by simp (disch := omega)) hK
          · have hn' : ¬ (dn : Int) = 0 := by omega
            rw [decide_eq_false hn, Bool.not_false, Bool.true_and] at hK
            by_cases h16 : d16 = 0
            · subst h16
              simp only [decide_true, Bool.true_or] at hK
              simp -dsimp (disch := omega) [a16, an, hm, hm', hn, hn', -abin_and]
              exact RetF.same (r := .bool true) hwf (by simp) (Nat.zero_le _) (fun i hi => by simp (disch := omega)) hK
            · have h16' : ¬ (d16 : Int) = 0 := by omega
              rw [decide_eq_false h16, Bool.false_or] at hK
              cases su
              · simp -dsimp (disch := omega) [a16, an, hm, hm', hn, hn', h16, h16', -abin_and]
                exact RetF.same (r := .bool false) hwf (by simp) (Nat.zero_le _) (fun i hi => by simp (disch := omega)) hK
              · simp -dsimp (disch := omega) [a16, an, hm, hm', hn, hn', h16, h16', -abin_and]
                exact RetF.same (r := .bool true) hwf (by simp) (Nat.zero_le _) (fun i hi => by simp (disch := omega)) hK
      · rw [show needN ⟨va, sa, 1, mo, su, true⟩ = 10 from rfl] at hK
        have o10 : ∀ (ty : TypeId) (xo yo : Operand), abin prog .or ty xo yo (.int .u64 2) (.int .u64 8) = some (.int .u64 10) := or_n 2 8 10 (by omega) (by omega) (by rfl)
        obtain ⟨dn, hdn⟩ : ∃ d, d = e &&& 10 := ⟨_, rfl⟩
        have an : ∀ (ty : TypeId) (xo yo : Operand), abin prog .and ty xo yo (.int .u64 (e : Nat)) (.int .u64 10) = some (.int .u64 (dn : Nat)) := and_n e 10 dn he (by omega) hdn
        rw [← hdn] at hK
        clear hdn
        by_cases hm : mo = 0
        · subst hm
          rw [if_pos rfl] at hK
          by_cases h16 : d16 = 0
          · subst h16
            simp only [decide_true, Bool.not_true, Bool.false_and] at hK
            simp -dsimp (disch := omega) [o10, -abin_or, a16, an, -abin_and]
            exact RetF.same (r := .bool false) hwf (by simp) (Nat.zero_le _) (fun i hi => by simp (disch := omega)) hK
          · have h16' : ¬ (d16 : Int) = 0 := by omega
            rw [decide_eq_false h16, Bool.not_false, Bool.true_and] at hK
            simp -dsimp (disch := omega) [o10, -abin_or, a16, an, h16, h16', -abin_and]
            refine RetF.same (r := .bool (!decide ((dn : Int) = 0))) hwf (by simp) (Nat.zero_le _) (fun i hi => by simp (disch := omega)) ?_
            rw [show decide ((dn : Int) = 0) = decide (dn = 0) from by rw [decide_eq_decide]; omega]
            exact hK
        · have hm' : ¬ (mo : Int) = 0 := by omega
          rw [if_neg hm] at hK
          by_cases hn : dn = 0
          · subst hn
            simp only [decide_true, Bool.not_true, Bool.false_and] at hK
            simp -dsimp (disch := omega) [o10, -abin_or, a16, an, hm, hm', -abin_and]
            exact RetF.same (r := .bool false) hwf (by simp) (Nat.zero_le _) (fun i hi => by simp (disch := omega)) hK
          · have hn' : ¬ (dn : Int) = 0 := by omega
            rw [decide_eq_false hn, Bool.not_false, Bool.true_and] at hK
            by_cases h16 : d16 = 0
            · subst h16
              simp only [decide_true, Bool.true_or] at hK
              simp -dsimp (disch := omega) [o10, -abin_or, a16, an, hm, hm', hn, hn', -abin_and]
              exact RetF.same (r := .bool true) hwf (by simp) (Nat.zero_le _) (fun i hi => by simp (disch := omega)) hK
            · have h16' : ¬ (d16 : Int) = 0 := by omega
              rw [decide_eq_false h16, Bool.false_or] at hK
              cases su
              · simp -dsimp (disch := omega) [o10, -abin_or, a16, an, hm, hm', hn, hn', h16, h16', -abin_and]
                exact RetF.same (r := .bool false) hwf (by simp) (Nat.zero_le _) (fun i hi => by simp (disch := omega)) hK
              · simp -dsimp (disch := omega) [o10, -abin_or, a16, an, hm, hm', hn, hn', h16, h16', -abin_and]
                exact RetF.same (r := .bool true) hwf (by simp) (Nat.zero_le _) (fun i hi => by simp (disch := omega)) hK
    · rw [show needN ⟨va, sa, 2, mo, su, mx⟩ = 4 from rfl] at hK
      obtain ⟨dn, hdn⟩ : ∃ d, d = e &&& 4 := ⟨_, rfl⟩
      have an : ∀ (ty : TypeId) (xo yo : Operand), abin prog .and ty xo yo (.int .u64 (e : Nat)) (.int .u64 4) = some (.int .u64 (dn : Nat)) := and_n e 4 dn he (by omega) hdn
      rw [← hdn] at hK
      clear hdn
      by_cases hm : mo = 0
      · subst hm
        rw [if_pos rfl] at hK
        by_cases h16 : d16 = 0
        · subst h16
          simp only [decide_true, Bool.not_true, Bool.false_and] at hK
          simp -dsimp (disch := omega) [a16, an, -abin_and]
          exact RetF.same (r := .bool false) hwf (by simp) (Nat.zero_le _) (fun i hi => by simp (disch := omega)) hK
        · have h16' : ¬ (d16 : Int) = 0 := by omega
          rw [decide_eq_false h16, Bool.not_false, Bool.true_and] at hK
          simp -dsimp (disch := omega) [a16, an, h16, h16', -abin_and]
          refine RetF.same (r := .bool (!decide ((dn : Int) = 0))) hwf (by simp) (Nat.zero_le _) (fun i hi => by simp (disch := omega)) ?_
          rw [show decide ((dn : Int) = 0) = decide (dn = 0) from by rw [decide_eq_decide]; omega]
          exact hK
      · have hm' : ¬ (mo : Int) = 0 := by omega
        rw [if_neg hm] at hK
        by_cases hn : dn = 0
        · subst hn
          simp only [decide_true, Bool.not_true, Bool.false_and] at hK
          simp -dsimp (disch := omega) [a16, an, hm, hm', -abin_and]
          exact RetF.same (r := .bool false) hwf (by simp) (Nat.zero_le _) (fun i hi => by simp (disch := omega)) hK
        · have hn' : ¬ (dn : Int) = 0 := by omega
          rw [decide_eq_false hn, Bool.not_false, Bool.true_and] at hK
          by_cases h16 : d16 = 0
          · subst h16
            simp only [decide_true, Bool.true_or] at hK
            simp -dsimp (disch := omega) [a16, an, hm, hm', hn, hn', -abin_and]
            exact RetF.same (r := .bool true) hwf (by simp) (Nat.zero_le _) (fun i hi => by simp (disch := omega)) hK
          · have h16' : ¬ (d16 : Int) = 0 := by omega
            rw [decide_eq_false h16, Bool.false_or] at hK
            cases su
            · simp -dsimp (disch := omega) [a16, an, hm, hm', hn, hn', h16, h16', -abin_and]
              exact RetF.same (r := .bool false) hwf (by simp) (Nat.zero_le _) (fun i hi => by simp (disch := omega)) hK
            · simp -dsimp (disch := omega) [a16, an, hm, hm', hn, hn', h16, h16', -abin_and]
              exact RetF.same (r := .bool true) hwf (by simp) (Nat.zero_le _) (fun i hi => by simp (disch := omega)) hK
  · rw [if_pos hk] at hK
    have hk' : 3 ≤ (ki : Int) := by omega
    simp -dsimp (disch := omega) [hk, hk']
    exact RetF.same hwf (by simp) (Nat.zero_le _) (fun i hi => by simp (disch := omega)) hK
end
end Go.Proofs.Ytkddajmfljlhiaa
