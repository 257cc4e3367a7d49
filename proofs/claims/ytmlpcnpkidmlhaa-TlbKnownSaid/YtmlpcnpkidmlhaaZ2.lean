/-
  The document's Pa, bit by bit.
-/
import Derived.Test.YtmlpcnpkidmlhaaZ1
set_option linter.unusedSimpArgs false
set_option linter.unusedVariables false
set_option linter.unusedSectionVars false
namespace Go.Proofs.Ytmlpcnpkidmlhaa
open Go Go.Mini Go.Proofs.Try

theorem paN_mod (s pte va k : Nat) (hs : 12 ≤ s) (hk : k < 56) (b : Nat) (hb : b = if k < s then va / 2 ^ k % 2 else pte / 2 ^ (k - 2) % 2) : paN s pte va % 2 ^ (k + 1) = b * 2 ^ k + paN s pte va % 2 ^ k := by
  rw [mod_bit, paN_bit s pte va k hs hk, ← hb, Nat.add_comm]
section
variable {h : Hp} {K : Value → Hp → Prop}
set_option maxRecDepth 100000 in
set_option maxHeartbeats 4000000 in
theorem refPa_call {e : Ent} {va : Nat} (ok : e.ok) (hv : va < 18446744073709551616) (hK : K (.int .u64 (paE e va)) h) : ACall prog 7 [.agg (entA e), .int .u64 va] h K := by
  refine acallF_of tb0 func7 rfl rfl mixed (by kernel_rfl) fun hwf => ?_
  obtain ⟨H, hH⟩ : ∃ H, H = h.alloc ⟨entA e, 1, true⟩ := ⟨_, rfl⟩
  have hB : H.blks h.next = some ⟨entA e, 1, true⟩ := by rw [hH]; exact blks_alloc_eq _ _
  have hS : ∀ i, i < h.next → H.blks i = h.blks i := fun i hi => by rw [hH]; exact blks_alloc_ne _ _ _ (by omega)
  have key := @refMay_call
  unfold entA at *
  simp -dsimp (disch := omega) [← hH]
  obtain ⟨sa, vp, pt, le, a0, a1, a2, rd⟩ := e
  obtain ⟨o1, o2, o3⟩ := ok
  simp only at o1 o2 o3 hB
  by_cases hm : mayB ⟨sa, vp, pt, le, a0, a1, a2, rd⟩ = true
  · unfold paE at hK
    rw [if_pos hm] at hK
    obtain ⟨m1, m2, m3, m4⟩ := of_decide_eq_true hm
    simp only at m1 m2 m3 m4
    obtain ⟨l, rfl⟩ := Int.eq_ofNat_of_zero_le m1
    obtain ⟨s, hs⟩ : ∃ s, s = 12 + 9 * l := ⟨_, rfl⟩
    rw [show sE ⟨sa, vp, pt, (l : Nat), a0, a1, a2, rd⟩ = s from by rw [hs]; rfl] at hK
    have hRl := paN_lt s pt va (by omega)
    refine awp_loop (fun t h' => h' = H ∧ ∃ k : Nat, k ≤ 56 ∧ t 1 = .int .u64 va ∧ t 2 = ptr h.next ∧ t 5 = .int .u64 ((paN s pt va % 2 ^ k : Nat) : Int) ∧ t 6 = .int .i64 k) (fun t _ => 56 - ivN (t 6)) ?_ ?_
    · simp -dsimp (disch := omega)
      exact ⟨0, by omega, by simp [Nat.mod_one], rfl⟩
    · rintro t h' ⟨rfl, k, hk, g1, g2, g5, g6⟩
      refine vcF_sound mixed (tb := tb0) _ (by kernel_rfl) ?_
      rcases Nat.lt_or_ge k 56 with hc | hc
      · have hc' : (k : Int) < 56 := by omega
        simp -dsimp (disch := omega) [g1, g2, g5, g6, hc, hc', hB]
        refine key (e := ⟨sa, vp, pt, (l : Nat), a0, a1, a2, rd⟩) ?_
        rw [hm]
        have e1 := shr_u64 va k (by omega)
        have hdl : va / 2 ^ k < 18446744073709551616 := Nat.lt_of_le_of_lt (Nat.div_le_self _ _) hv
        have b1 : ∀ (ty : TypeId) (xo yo : Operand), abin prog .and ty xo yo (.int .u64 ((va / 2 ^ k : Nat) : Int)) (.int .u64 1) = some (.int .u64 ((va / 2 ^ k % 2 : Nat) : Int)) := abin_low (va / 2 ^ k) 1 1 (va / 2 ^ k % 2) (by omega) hdl (by rfl) rfl
        have hp : 2 ^ k ≤ 2 ^ 55 := Nat.pow_le_pow_right (by omega) (by omega)
        have hq : 0 < 2 ^ k := Nat.pow_pos (by omega)
        have hlow : paN s pt va % 2 ^ k < 2 ^ k := Nat.mod_lt _ hq
        by_cases hks : k < s
        · have hks' : ¬ (12 + 9 * (l : Int) ≤ k) := by omega
          have hstep := paN_mod s pt va k (by omega) hc (va / 2 ^ k % 2) (by rw [if_pos hks])
          obtain ⟨d, hd⟩ : ∃ d, d = va / 2 ^ k := ⟨_, rfl⟩
          rw [← hd] at e1 b1 hstep
          obtain ⟨b, hb⟩ : ∃ b, b = d % 2 := ⟨_, rfl⟩
          rw [← hb] at b1 hstep
          have hb2 : b < 2 := by omega
          obtain ⟨w, hw⟩ : ∃ w, w = b * 2 ^ k := ⟨_, rfl⟩
          have hwl : w ≤ 2 ^ 55 := by
            rcases (by omega : b = 0 ∨ b = 1) with h | h
            · rw [hw, h]; omega
            · rw [hw, h]; omega
          have e3 := shl_u64 b k (by omega) w hw (by omega)
          obtain ⟨R, hR⟩ : ∃ R, R = paN s pt va % 2 ^ (k + 1) := ⟨_, rfl⟩
          obtain ⟨Q, hQ⟩ : ∃ Q, Q = paN s pt va % 2 ^ k := ⟨_, rfl⟩
          rw [← hQ] at hlow g5 hstep
          rw [← hR, ← hw] at hstep
          have aJ := abin_join' (P := prog) w Q k hlow (by rw [hw]; exact Nat.mul_mod_left _ _) R hstep (by omega)
          simp -dsimp (disch := omega) [g1, g2, g5, g6, hc, hc', hB, e1, b1, hks', e3, aJ, -abin_and, -abin_or]
          exact ⟨⟨k + 1, by omega, by rw [hR, Int.natCast_emod, Int.natCast_pow]; rfl, by simp⟩, by simp [ivN]; omega⟩
        · have hks' : 12 + 9 * (l : Int) ≤ k := by omega
          have e4 := shr_u64 pt (k - 2) (by omega)
          have hk2 : ((k : Int) - 2).toNat = k - 2 := by omega
          have hdl4 : pt / 2 ^ (k - 2) < 18446744073709551616 := Nat.lt_of_le_of_lt (Nat.div_le_self _ _) o3
          have b4 : ∀ (ty : TypeId) (xo yo : Operand), abin prog .and ty xo yo (.int .u64 ((pt / 2 ^ (k - 2) : Nat) : Int)) (.int .u64 1) = some (.int .u64 ((pt / 2 ^ (k - 2) % 2 : Nat) : Int)) := abin_low (pt / 2 ^ (k - 2)) 1 1 (pt / 2 ^ (k - 2) % 2) (by omega) hdl4 (by rfl) rfl
          obtain ⟨dv, hdv⟩ : ∃ d, d = va / 2 ^ k := ⟨_, rfl⟩
          rw [← hdv] at e1 b1
          obtain ⟨bv, hbv⟩ : ∃ b, b = dv % 2 := ⟨_, rfl⟩
          rw [← hbv] at b1
          have hstep := paN_mod s pt va k (by omega) hc (pt / 2 ^ (k - 2) % 2) (by rw [if_neg hks])
          obtain ⟨d, hd⟩ : ∃ d, d = pt / 2 ^ (k - 2) := ⟨_, rfl⟩
          rw [← hd] at e4 b4 hstep
          obtain ⟨b, hb⟩ : ∃ b, b = d % 2 := ⟨_, rfl⟩
          rw [← hb] at b4 hstep
          have hb2 : b < 2 := by omega
          obtain ⟨w, hw⟩ : ∃ w, w = b * 2 ^ k := ⟨_, rfl⟩
          have hwl : w ≤ 2 ^ 55 := by
            rcases (by omega : b = 0 ∨ b = 1) with h | h
            · rw [hw, h]; omega
            · rw [hw, h]; omega
          have e3 := shl_u64 b k (by omega) w hw (by omega)
          obtain ⟨R, hR⟩ : ∃ R, R = paN s pt va % 2 ^ (k + 1) := ⟨_, rfl⟩
          obtain ⟨Q, hQ⟩ : ∃ Q, Q = paN s pt va % 2 ^ k := ⟨_, rfl⟩
          rw [← hQ] at hlow g5 hstep
          rw [← hR, ← hw] at hstep
          have aJ := abin_join' (P := prog) w Q k hlow (by rw [hw]; exact Nat.mul_mod_left _ _) R hstep (by omega)
          simp -dsimp (disch := omega) [g1, g2, g5, g6, hc, hc', hB, e1, b1, hk2, e4, b4, hks', e3, aJ, -abin_and, -abin_or]
          exact ⟨⟨k + 1, by omega, by rw [hR, Int.natCast_emod, Int.natCast_pow]; rfl, by simp⟩, by simp [ivN]; omega⟩
      · have hc' : ¬ (k : Int) < 56 := by omega
        obtain rfl : k = 56 := by omega
        rw [Nat.mod_eq_of_lt (by omega)] at g5
        simp -dsimp (disch := omega) [g1, g2, g5, g6, hc']
        exact RetF.same hwf (by simp [g5]) (Nat.zero_le _) hS hK
  · unfold paE at hK
    rw [if_neg hm] at hK
    refine awp_loop (fun t h' => h' = H ∧ t 2 = ptr h.next ∧ t 5 = .int .u64 0 ∧ t 6 = .int .i64 0) (fun _ _ => 0) ?_ ?_
    · simp -dsimp (disch := omega)
    · rintro t h' ⟨rfl, g2, g5, g6⟩
      refine vcF_sound mixed (tb := tb0) _ (by kernel_rfl) ?_
      simp -dsimp (disch := omega) [g2, g5, g6, hB]
      refine key (e := ⟨sa, vp, pt, le, a0, a1, a2, rd⟩) ?_
      rw [Bool.eq_false_iff.2 hm]
      simp -dsimp (disch := omega) [g2, g5, g6, hB]
      exact RetF.same hwf (by simp [g5]) (Nat.zero_le _) hS hK
end
end Go.Proofs.Ytmlpcnpkidmlhaa
