/-
  The document's range.
-/
import Derived.Test.YtdnjooallhdjdaaDoorA4
set_option linter.unusedSimpArgs false
set_option linter.unusedVariables false
namespace Go.Proofs.YtdnjooallhdjdaaDoor
open Go Go.Mini Go.Proofs.Tryd

theorem adr_zero : adr (fun _ => 0) = #[.int .u64 0, .int .u64 0, .int .u64 0, .int .u64 0, .int .u64 0, .int .u64 0, .int .u64 0, .int .u64 0] := by simp [adr, List.range_succ]
theorem adr_congr {A A' : Nat → Nat} (h : ∀ j, j < 8 → A j = A' j) : adr A = adr A' := by
  unfold adr
  congr 1
  apply List.map_congr_left
  intro j hj
  rw [h j (by simpa using hj)]
/-- The bytes that have been taken. -/
def byt (c k : Nat) (j : Nat) : Nat := if j < k then flg c j else 0
def rest (c k : Nat) : Nat := c / 256 ^ k
theorem flg_rest (c k : Nat) : flg c k = rest c k % 256 := by
  unfold flg rest
  rw [Nat.pow_mul]
theorem rest_succ (c k : Nat) : rest c k / 256 = rest c (k + 1) := by
  unfold rest
  rw [Nat.div_div_eq_div_mul, Nat.pow_succ]
theorem rest_le (c k : Nat) : rest c k ≤ c := Nat.div_le_self _ _

theorem half_bot (a k : Nat) (hk : ones (low54 a) = k) : low54 a / 2 ^ k * (4 * 2 ^ k) = bot a := by
  obtain ⟨j, hj⟩ := onesF_spec 54 (low54 a) (low54_lt a)
  rw [show onesF 54 (low54 a) = ones (low54 a) from rfl, hk] at hj
  have hp : pw a = 2 ^ k := by unfold pw; rw [hk]
  have hpos : 0 < 2 ^ k := Nat.pow_pos (by omega)
  have h1 : low54 a = 2 ^ k * (2 * j) + (2 ^ k - 1) := by rw [Nat.mul_add, Nat.mul_one] at hj; omega
  have h2 : low54 a / 2 ^ k = 2 * j := by
    rw [h1, Nat.mul_add_div hpos, Nat.div_eq_of_lt (by omega), Nat.add_zero]
  have h3 : clr a = 2 ^ k * (2 * j) := by unfold clr; rw [hp]; omega
  rw [h2]
  unfold bot
  rw [h3, Nat.mul_left_comm, Nat.mul_comm (2 * j)]

theorem refRange_call {c : Nat} {A : Nat → Nat} {i : Int} {h : Hp} {K : Value → Hp → Prop} (hr : Regs h c A)
    (hK : K (.tuple #[.int .u64 (eF c A i), .int .u64 (eL c A i), .bool (eB c A i)]) h) : ACall prog 9 [.int .u64 c, .agg (adr A), .int .i64 i] h K := by
  refine acallF_of tb0 func9 rfl rfl mixed (by kernel_rfl) fun hwf => ?_
  have a1 := adr_size A
  have a2 := adr_one A
  have a3 := adr_row A
  by_cases h0 : i < 0
  · have e0 : entI c A i = none := by unfold entI; rw [if_neg (by omega)]
    unfold eF eL eB at hK
    simp only [e0, Option.map_none, Option.getD_none, Option.isSome_none] at hK
    simp -dsimp (disch := omega) [a2, a3, h0]
    exact RetF.same hwf (by simp (disch := omega)) (Nat.zero_le _) (fun i hi => by simp (disch := omega)) hK
  by_cases h7 : 7 < i
  · have e0 : entI c A i = none := by unfold entI; rw [if_neg (by omega)]
    unfold eF eL eB at hK
    simp only [e0, Option.map_none, Option.getD_none, Option.isSome_none] at hK
    simp -dsimp (disch := omega) [a2, a3, h0, h7]
    exact RetF.same hwf (by simp (disch := omega)) (Nat.zero_le _) (fun i hi => by simp (disch := omega)) hK
  obtain ⟨n, rfl⟩ := Int.eq_ofNat_of_zero_le (show 0 ≤ i by omega)
  have hn8 : n < 8 := by omega
  have hAn := hr.adr n hn8
  have hc := hr.cfg
  simp -dsimp (disch := omega) [a2, a3, h0, h7]
  refine awp_loop (fun t h' => ∃ k : Nat, k ≤ 8 ∧ h' = (h.alloc ⟨adr A, 1, true⟩).alloc ⟨adr (byt c k), 1, true⟩ ∧ t 0 = .int .u64 (rest c k) ∧ t 2 = .int .i64 n ∧ t 4 = .pointer (some ⟨h.next, 0, none⟩) ∧ t 9 = .pointer (some ⟨h.next + 1, 0, none⟩) ∧ t 10 = .int .i64 k) (fun t _ => 8 - ivN (t 10)) ?_ ?_
  · simp -dsimp
    refine ⟨0, by omega, ?_, by simp [rest], rfl⟩
    rw [← adr_zero, adr_congr (A := fun _ => 0) (A' := byt c 0) (by simp [byt])]
  · rintro t _ ⟨k, hk, rfl, g0, g2, g4, g9, g10⟩
    refine vcF_sound mixed (tb := tb0) _ (by kernel_rfl) ?_
    simp -dsimp (disch := omega) [g0, g2, g4, g9, g10]
    refine CondF_dec (fun hcc => ?_) (fun hcc => ?_)
    · have hk8 : k < 8 := by omega
      have r1 := rest_le c k
      have m1 : ((rest c k : Nat) : Int) % 256 = (flg c k : Nat) := by rw [flg_rest]; rfl
      have m2 : ((rest c k : Nat) : Int) / 256 = (rest c (k + 1) : Nat) := by rw [← rest_succ]; rfl
      have m3 := adr_set (byt c k) k (flg c k) hk8
      have m4 : adr (fun i => if i = k then flg c k else byt c k i) = adr (byt c (k + 1)) := adr_congr fun j _ => by
        unfold byt
        by_cases hjk : j = k
        · subst hjk; simp
        · rw [if_neg hjk]
          by_cases hj2 : j < k
          · rw [if_pos hj2, if_pos (by omega)]
          · rw [if_neg hj2, if_neg (by omega)]
      simp -dsimp (disch := omega) [g0, g2, g4, g9, g10, m1, m2, m3, m4]
      exact ⟨⟨k + 1, by omega, rfl, rfl, by simp⟩, by simp [ivN]; omega⟩
    · have : k = 8 := by omega
      subst this
      have m1 : ((A n : Nat) : Int) % 18014398509481984 = (low54 (A n) : Nat) := rfl
      have m2 : byt c 8 n = flg c n := by unfold byt; rw [if_pos hn8]
      have m3 : ((flg c n : Nat) : Int) / 8 % 4 = (knd c n : Nat) := rfl
      have m4 : (4 : Int) * (low54 (A n) : Nat) = (quad (A n) : Nat) := rfl
      have q1 := quad_lt (A n)
      have hf : flg c n < 256 := Nat.mod_lt _ (by omega)
      have e0 : entI c A n = ent c A n := by unfold entI; rw [if_pos (by omega)]; rfl
      by_cases k1 : knd c n = 1
      · by_cases i0 : n = 0
        · have t1 : torF A n = 0 := by unfold torF; rw [if_pos i0]
          have j1 : ¬ 0 < n := by omega
          by_cases hq : 0 < quad (A n)
          · have he : ent c A n = some (0, quad (A n) - 1) := by unfold ent; rw [if_pos k1, t1, if_pos hq]
            unfold eF eL eB at hK
            simp only [e0, he, Option.map_some, Option.getD_some, Option.isSome_some] at hK
            rw [show ((quad (A n) - 1 : Nat) : Int) = quad (A n) - 1 from by omega] at hK
            have j2 : ¬ (quad (A n) : Int) ≤ 0 := by omega
            have j3 : ¬ quad (A n) = 0 := by omega
            simp -dsimp (disch := omega) [g0, g2, g4, g9, g10, adr_at, m1, m2, m3, m4, k1, j1, j2, j3]
            exact RetF.same hwf (by simp (disch := omega)) (Nat.zero_le _) (fun i hi => by simp (disch := omega)) hK
          · have he : ent c A n = none := by unfold ent; rw [if_pos k1, t1, if_neg hq]
            unfold eF eL eB at hK
            simp only [e0, he, Option.map_none, Option.getD_none, Option.isSome_none] at hK
            have j2 : quad (A n) = 0 := by omega
            simp -dsimp (disch := omega) [g0, g2, g4, g9, g10, adr_at, m1, m2, m3, m4, k1, j1, j2]
            exact RetF.same hwf (by simp (disch := omega)) (Nat.zero_le _) (fun i hi => by simp (disch := omega)) hK
        · have t1 : torF A n = quad (A (n - 1)) := by unfold torF; rw [if_neg i0]
          have j1 : 0 < n := by omega
          have j0 : ((n : Int) - 1).toNat = n - 1 := by omega
          have hA1 := hr.adr (n - 1) (by omega)
          have f1 : ((A (n - 1) : Nat) : Int) % 18014398509481984 = (low54 (A (n - 1)) : Nat) := rfl
          have f2 : ((low54 (A (n - 1)) : Nat) : Int) * 4 = (quad (A (n - 1)) : Nat) := by unfold quad; omega
          have q2 := quad_lt (A (n - 1))
          by_cases hq : quad (A (n - 1)) < quad (A n)
          · have he : ent c A n = some (quad (A (n - 1)), quad (A n) - 1) := by unfold ent; rw [if_pos k1, t1, if_pos hq]
            unfold eF eL eB at hK
            simp only [e0, he, Option.map_some, Option.getD_some, Option.isSome_some] at hK
            rw [show ((quad (A n) - 1 : Nat) : Int) = quad (A n) - 1 from by omega] at hK
            have j2 : ¬ quad (A n) ≤ quad (A (n - 1)) := by omega
            simp -dsimp (disch := omega) [g0, g2, g4, g9, g10, adr_at, m1, m2, m3, m4, k1, j1, j0, j2, f1, f2]
            exact RetF.same hwf (by simp (disch := omega)) (Nat.zero_le _) (fun i hi => by simp (disch := omega)) hK
          · have he : ent c A n = none := by unfold ent; rw [if_pos k1, t1, if_neg hq]
            unfold eF eL eB at hK
            simp only [e0, he, Option.map_none, Option.getD_none, Option.isSome_none] at hK
            have j2 : quad (A n) ≤ quad (A (n - 1)) := by omega
            simp -dsimp (disch := omega) [g0, g2, g4, g9, g10, adr_at, m1, m2, m3, m4, k1, j1, j0, j2, f1, f2]
            exact RetF.same hwf (by simp (disch := omega)) (Nat.zero_le _) (fun i hi => by simp (disch := omega)) hK
      have n1 : ¬ ((knd c n : Nat) : Int) = 1 := by omega
      by_cases k2 : knd c n = 2
      · have he : ent c A n = some (quad (A n), quad (A n) + 3) := by unfold ent; rw [if_neg k1, if_pos k2]
        unfold eF eL eB at hK
        simp only [e0, he, Option.map_some, Option.getD_some, Option.isSome_some] at hK
        rw [show ((quad (A n) + 3 : Nat) : Int) = quad (A n) + 3 from by omega] at hK
        simp -dsimp (disch := omega) [g0, g2, g4, g9, g10, adr_at, m1, m2, m3, m4, k2]
        exact RetF.same hwf (by simp (disch := omega)) (Nat.zero_le _) (fun i hi => by simp (disch := omega)) hK
      have n2 : ¬ ((knd c n : Nat) : Int) = 2 := by omega
      by_cases k3 : knd c n = 3
      · have he : ent c A n = some (bot (A n), top (A n)) := by unfold ent; rw [if_neg k1, if_neg k2, if_pos k3]
        unfold eF eL eB at hK
        simp only [e0, he, Option.map_some, Option.getD_some, Option.isSome_some] at hK
        simp -dsimp (disch := omega) [g0, g2, g4, g9, g10, adr_at, m1, m2, m3, m4, k3]
        have l1 := low54_lt (A n)
        refine awp_loop (fun t h' => h' = (h.alloc ⟨adr A, 1, true⟩).alloc ⟨adr (byt c 8), 1, true⟩ ∧ ∃ j f S q : Nat, t 13 = .int .u64 S ∧ t 11 = .int .u64 q ∧ S = 8 * 2 ^ j ∧ q = low54 (A n) / 2 ^ j ∧ onesF f q + j = ones (low54 (A n)) ∧ q < 2 ^ f) (fun t _ => ivN (t 11)) ?_ ?_
        · simp -dsimp
          exact ⟨0, 54, 8, rfl, low54 (A n), rfl, by simp, by simp, by simp [ones], by simpa using l1⟩
        · rintro t _ ⟨rfl, j, f, S, q, g13, g11, hS, hq, hj1, hj2⟩
          have hj54 : j ≤ 54 := by have := onesF_le 54 (low54 (A n)); unfold ones at hj1; omega
          have hp1 : 0 < 2 ^ j := Nat.pow_pos (by omega)
          have hp2 : 2 ^ j ≤ 2 ^ 54 := Nat.pow_le_pow_right (by omega) hj54
          have hd : low54 (A n) / 2 ^ j ≤ low54 (A n) := Nat.div_le_self _ _
          have hb := half_bot (A n) j
          have hs2 : q / 2 = low54 (A n) / 2 ^ (j + 1) := by rw [hq, Nat.div_div_eq_div_mul, Nat.pow_succ]
          have hs3 : 2 * S = 8 * 2 ^ (j + 1) := by rw [hS, Nat.pow_succ]; omega
          have hpw : ones (low54 (A n)) = j → pw8 (A n) = S := fun h => by unfold pw8 pw; rw [h, hS]
          rw [← hq] at hd hb
          have hS2 : 4 * 2 ^ j = S / 2 := by omega
          rw [hS2] at hb
          have hS3 : S ≤ 8 * 18014398509481984 := by omega
          have hS4 : 8 ≤ S := by omega
          clear hS2 hp1 hp2 hS hq
          refine vcF_sound mixed (tb := tb0) _ (by kernel_rfl) ?_
          simp -dsimp (disch := omega) [g13, g11]
          refine CondF_dec (fun hcc => ?_) (fun hcc => ?_)
          · obtain ⟨f', rfl⟩ : ∃ f', f = f' + 1 := by
              cases f with
              | zero => exfalso; rw [Nat.pow_zero] at hj2; omega
              | succ f' => exact ⟨f', rfl⟩
            have hq1 : q % 2 = 1 := by omega
            rw [onesF, if_pos hq1] at hj1
            have hq3 : q / 2 < 2 ^ f' := by rw [Nat.pow_succ] at hj2; omega
            simp -dsimp (disch := omega) [g13, g11]
            refine ⟨⟨j + 1, f', 2 * S, by simp, q / 2, by simp, hs3, hs2, by omega, hq3⟩, ?_⟩
            simp [ivN]; omega
          · have hq1 : ¬ q % 2 = 1 := by omega
            have hz : onesF f q = 0 := by
              cases f with
              | zero => rfl
              | succ f' => rw [onesF, if_neg hq1]
            have hb' := hb (by omega)
            have hpw' := hpw (by omega)
            have m6 : ((q : Nat) : Int) * ((S : Int) / 2) = (bot (A n) : Nat) := by rw [← hb']; rfl
            have m7 := top_lt (A n)
            have m8 : top (A n) = bot (A n) + (S - 1) := by unfold top; rw [hpw']
            have m9 : (bot (A n) : Int) + (S : Int) - 1 = (top (A n) : Nat) := by omega
            simp -dsimp (disch := omega) [g13, g11, m6, m9]
            exact RetF.same hwf (by simp (disch := omega)) (Nat.zero_le _) (fun i hi => by simp (disch := omega)) hK
      have n3 : ¬ ((knd c n : Nat) : Int) = 3 := by omega
      have he : ent c A n = none := by unfold ent; rw [if_neg k1, if_neg k2, if_neg k3]
      unfold eF eL eB at hK
      simp only [e0, he, Option.map_none, Option.getD_none, Option.isSome_none] at hK
      simp -dsimp (disch := omega) [g0, g2, g4, g9, g10, adr_at, m1, m2, m3, m4, n1, n2, n3]
      exact RetF.same hwf (by simp (disch := omega)) (Nat.zero_le _) (fun i hi => by simp (disch := omega)) hK

end Go.Proofs.YtdnjooallhdjdaaDoor
