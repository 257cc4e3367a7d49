/-
  In each frame each guest has its budget: the law's body.
-/
import Derived.Test.YtndnpmfoegkkeaaP4
set_option linter.unusedSimpArgs false
set_option linter.unusedVariables false
set_option linter.unusedSectionVars false
namespace Go.Proofs.Ytndnpmfoegkkeaa
open Go Go.Mini Go.Proofs.Try

def tb4 : Nat → Marks := fun k => if k = 19 then ⟨[2, 6], fun _ => True⟩ else if k = 21 then ⟨[5, 7, 12, 16], fun _ => True⟩ else ⟨[], fun _ => True⟩
@[simp] theorem tb4_l19 : (tb4 19).l = [2, 6] := rfl
@[simp] theorem tb4_l21 : (tb4 21).l = [5, 7, 12, 16] := rfl
@[simp] theorem tb4_R (k x : Nat) : (tb4 k).R x := by unfold tb4; (repeat' split) <;> trivial
section
variable {h : Hp} {K : Value → Hp → Prop}
set_option maxRecDepth 100000 in
set_option maxHeartbeats 2000000 in
theorem frameBudgets_call {l : List Win} {v : Value} {gs : Int} {X : Nat} (hok : ∀ w ∈ l, w.ok) (hv : Sl h 2 l.length (winsC l) v) (hl : l.length < 9223372036854775808) (hX : X < 18446744073709551616) (hK : K (.bool true) h) : ACall prog 4 [v, .int .i64 gs, .int .u64 X] h K := by
  refine acallF_of tb4 func4 rfl rfl mixed (by kernel_rfl) fun hwf => ?_
  have hvb := sblk_lt (hwf.args v (by simp))
  obtain ⟨va, vc, rfl⟩ := hv.slice
  by_cases hc : 60 < l.length
  · have hc' : (60 : Int) < l.length := by omega
    simp -dsimp (disch := omega) [hc, hc']
    refine awake_call ?_
    simp -dsimp (disch := omega)
    exact RetF.same hwf (by simp) (Nat.zero_le _) (fun _ _ => rfl) hK
  · have hc' : ¬ (60 : Int) < l.length := by omega
    simp -dsimp (disch := omega) [hc, hc']
    refine new_call hok hv hl (fun hne => ?_) (fun h0 _ H p e1 hp q => ?_)
    · have hne' : ¬ (checkW l gs : Int) = 0 := by omega
      simp -dsimp (disch := omega) [hne, hne']
      refine awake_call ?_
      simp -dsimp (disch := omega)
      exact RetF.same hwf (by simp) (Nat.zero_le _) (fun _ _ => rfl) hK
    · obtain ⟨hl0, hl32, hN, hpos, hg1, hg16, hgl, hgt⟩ := check_ok h0
      obtain ⟨G, rfl⟩ : ∃ G : Nat, gs = G := ⟨gs.toNat, by omega⟩
      rw [Int.toNat_natCast] at hgl hgt
      have hN0 : 0 < sumS l := by
        obtain ⟨w, hw⟩ : ∃ w, l[0]? = some w := ⟨l[0], List.getElem?_eq_getElem hl0⟩
        have h1 : sumS (l.take 1) = sumS (l.take 0) + w.s := sumS_succ hw
        have h2 := sumS_all l (k := 1)
        have h3 := hpos w (List.mem_of_getElem? hw)
        omega
      obtain ⟨N, hNe⟩ : ∃ N, N = sumS l := ⟨_, rfl⟩
      have e1n := e1.le
      obtain ⟨n, hn⟩ : ∃ n, n = X % 1099511627776 := ⟨_, rfl⟩
      have hn2 : n < 1099511627776 := by omega
      have en : (X : Int) % 1099511627776 = n := by omega
      have en' : Int.tmod (X : Int) 1099511627776 = n := by rw [Int.tmod_eq_emod_of_nonneg (by omega)]; exact en
      obtain ⟨S, hS⟩ : ∃ S, S = n * sumS l := ⟨_, rfl⟩
      have hSle : S ≤ n * 1024 := by rw [hS]; exact Nat.mul_le_mul_left _ hN
      have eS : (n : Int) * (sumS l : Nat) = S := by rw [hS]; simp
      have hmod : ∀ k, k < sumS l → (S + k) % sumS l = k := fun k hk => by rw [hS]; exact mul_off hk
      have ho1 : ∀ g, owN l g S = n * aheadF l g (sumS l) := fun g => by rw [hS]; exact owN_mul hN0
      have ho2 : ∀ g, owN l g (S + sumS l) = n * aheadF l g (sumS l) + aheadF l g (sumS l) := fun g => by
        have := owN_mul (l := l) (g := g) (n := n + 1) hN0
        rw [Nat.succ_mul, Nat.succ_mul, ← hS] at this
        exact this
      simp -dsimp (disch := omega) [en, en']
      refine length_call q hl0 ?_
      simp -dsimp (disch := omega) [en, en', eS]
      rw [zero_cnt (fun g => aheadF l g 0) (fun i _ => ahead_zero l i)]
      have qa : ∀ b, Tab (H.alloc b) p l := fun b => q.mono (Ext.alloc _ _)
      refine awp_loop (fun t h2 => ∃ k : Nat, k ≤ sumS l ∧ h2 = H.alloc ⟨cntC (fun g => aheadF l g k), 1, true⟩ ∧ t 1 = .int .i64 G ∧ t 7 = ptr p ∧ t 9 = .int .u64 S ∧ t 10 = ptr H.next ∧ t 11 = .int .u64 k) (fun t _ => sumS l - ivN (t 11)) ?_ ?_
      · simp -dsimp (disch := omega)
        exact ⟨0, by omega, rfl, rfl⟩
      · rintro t h2 ⟨k, hk, rfl, t1, t7, t9, t10, t11⟩
        refine vcF_sound mixed (tb := tb4) _ (by kernel_rfl) ?_
        simp -dsimp (disch := omega) [t1, t7, t9, t10, t11]
        refine length_call (qa _) hl0 ?_
        by_cases c1 : k < sumS l
        · have c1' : (k : Int) < (sumS l : Nat) := by omega
          have c2' : (k : Int) < 2000 := by omega
          have c2 : k < 2000 := by omega
          simp -dsimp (disch := omega) [t1, t7, t9, t10, t11, c1, c1', c2, c2']
          refine owner_call (step := S + k) (qa _) hok hl0 hl32 (by omega) hN0 (by omega) (fun k1 w1 hx1 h11 h21 => ?_)
          rw [hmod k c1] at h11 h21
          simp -dsimp (disch := omega) [t1, t7, t9, t10, t11]
          refine owner_call (step := k) (qa _) hok hl0 hl32 (by omega) hN0 (by omega) (fun k2 w2 hx2 h12 h22 => ?_)
          rw [Nat.mod_eq_of_lt c1] at h12 h22
          obtain rfl := one_win h11 h21 h12 h22
          obtain rfl := same_win hx1 hx2 rfl
          have wo := (hok w1 (List.mem_of_getElem? hx1)).1
          have hst := fun g => ahead_step (g := g) hx1 h11 h21
          generalize w1.g = g1 at *
          have hat := cntC_at (fun g => aheadF l g k) wo
          have hset := cntC_set (m := fun g => aheadF l g k) (m' := fun g => aheadF l g (k + 1)) (k := g1) (x := (aheadF l g1 k : Int) + 1) wo (by rw [hst g1, if_pos rfl]; rfl) (fun i _ hi => by rw [hst i, if_neg (fun e => hi e.symm)]; rfl)
          have hb := ahead_le l g1 k
          simp -dsimp (disch := omega) [t1, t7, t9, t10, t11, hat, hset]
          exact ⟨⟨k + 1, by omega, rfl, by simp⟩, by simp [ivN]; omega⟩
        · have c1' : ¬ (k : Int) < (sumS l : Nat) := by omega
          obtain rfl : k = sumS l := by omega
          simp -dsimp (disch := omega) [t1, t7, t9, t10, t11, c1, c1']
          refine awp_loop (fun t h2 => ∃ k : Nat, k ≤ 256 ∧ h2 = H.alloc ⟨cntC (fun g => aheadF l g (sumS l)), 1, true⟩ ∧ t 1 = .int .i64 G ∧ t 7 = ptr p ∧ t 9 = .int .u64 S ∧ t 10 = ptr H.next ∧ t 14 = .int .i64 k ∧ t 13 = .int .u64 (totW l (sumS l) k : Nat)) (fun t _ => 256 - ivN (t 14)) ?_ ?_
          · simp -dsimp (disch := omega) [t1, t7, t9, t10]
            exact ⟨0, by omega, rfl, rfl⟩
          · rintro t h2 ⟨k, hk, rfl, t1, t7, t9, t10, t14, t13⟩
            have htot := totW_all hok (sumS l) (Nat.le_refl _)
            refine vcF_sound mixed (tb := tb4) _ (by kernel_rfl) ?_
            by_cases c3 : k < 256
            · have c3' : (k : Int) < 256 := by omega
              have hat := cntC_at (fun g => aheadF l g (sumS l)) c3
              have htk := totW_succ l (sumS l) k
              have htl := totW_le (l := l) (x := sumS l) k 256 (by omega)
              have hal := ahead_le l k (sumS l)
              have ew : IntKind.u8.wrap (k : Int) = k := IntWalk.u8_in _ (by omega)
              have hposG : k < G → 0 < aheadF l k (sumS l) := fun hkG => by
                obtain ⟨w, hw, hwg⟩ := hgt k hkG
                obtain ⟨i, hi⟩ := List.mem_iff_getElem?.1 hw
                exact budget_pos hi hwg (hpos w hw)
              have hzero : G ≤ k → k ≠ 255 → aheadF l k (sumS l) = 0 := fun hGk h255 => budget_zero fun i w hi he => by
                have := hgl w (List.mem_of_getElem? hi) (by omega)
                omega
              simp -dsimp (disch := omega) [t1, t7, t9, t10, t13, t14, hat, c3, c3', ew]
              refine budget_call (qa _) hok hl0 hl32 (by omega) ?_
              obtain ⟨A, hAe⟩ : ∃ A, A = aheadF l k (sumS l) := ⟨_, rfl⟩
              rw [← hAe] at hat hal htk hposG hzero ⊢
              by_cases c4 : k < G
              · have c4' : (k : Int) < G := by omega
                have a1 := hposG c4
                have a2 : ¬ A = 0 := by omega
                have a3 : ¬ G ≤ k := by omega
                have a3' : ¬ (G : Int) ≤ k := by omega
                simp -dsimp (disch := omega) [t1, t7, t9, t10, t13, t14, hat, ew, c4, c4', a2, a3, a3']
                refine length_call (qa _) hl0 ?_
                simp -dsimp (disch := omega) [t1, t7, t9, t10, t13, t14, ew]
                refine owned_call (step := S + sumS l) (qa _) hok hl0 hl32 (by omega) hN0 (by omega) (fun r1 hr1 => ?_)
                rw [owned_nat (by omega) hN] at hr1
                rw [hr1]
                simp -dsimp (disch := omega) [t1, t7, t9, t10, t13, t14, ew]
                refine owned_call (step := S) (qa _) hok hl0 hl32 (by omega) hN0 (by omega) (fun r2 hr2 => ?_)
                rw [owned_nat (by omega) hN] at hr2
                rw [hr2]
                have hd : ((owN l k (S + sumS l) : Nat) : Int) - (owN l k S : Nat) = (A : Int) := by rw [ho2 k, ho1 k, hAe]; omega
                generalize owN l k (S + sumS l) = o1 at *
                generalize owN l k S = o2 at *
                simp -dsimp (disch := omega) [t1, t7, t9, t10, t13, t14, ew, hat, hd]
                exact ⟨⟨k + 1, by omega, by simp, by rw [htk]; simp⟩, by simp [ivN]; omega⟩
              · have c4' : ¬ (k : Int) < G := by omega
                have a3 : G ≤ k := by omega
                have a3' : (G : Int) ≤ k := by omega
                by_cases c5 : k = 255
                · obtain rfl : k = 255 := c5
                  have t14' : t 14 = .int .i64 255 := t14
                  have hat' : (cntC fun g => aheadF l g (sumS l))[255]? = some (.int .u64 A) := hat
                  have ew' : IntKind.u8.wrap (255 : Int) = 255 := by decide
                  have b1 : ¬ (255 : Int) < G := by omega
                  have b2 : (G : Int) ≤ 255 := by omega
                  have b3 : ¬ 255 < G := by omega
                  simp -dsimp (disch := omega) [t1, t7, t9, t10, t13, t14', hat', ew', b1, b2, b3, a3]
                  refine length_call (qa _) hl0 ?_
                  simp -dsimp (disch := omega) [t1, t7, t9, t10, t13, t14', ew']
                  refine owned_call (g := 255) (step := S + sumS l) (qa _) hok hl0 hl32 (by omega) hN0 (by omega) (fun r1 hr1 => ?_)
                  rw [owned_nat (by omega) hN] at hr1
                  rw [hr1]
                  simp -dsimp (disch := omega) [t1, t7, t9, t10, t13, t14', ew']
                  refine owned_call (g := 255) (step := S) (qa _) hok hl0 hl32 (by omega) hN0 (by omega) (fun r2 hr2 => ?_)
                  rw [owned_nat (by omega) hN] at hr2
                  rw [hr2]
                  have hd : ((owN l 255 (S + sumS l) : Nat) : Int) - (owN l 255 S : Nat) = (A : Int) := by rw [ho2 255, ho1 255, hAe]; omega
                  generalize owN l 255 (S + sumS l) = o1 at *
                  generalize owN l 255 S = o2 at *
                  simp -dsimp (disch := omega) [t1, t7, t9, t10, t13, t14', ew', hat', hd]
                  exact ⟨⟨255 + 1, by omega, by simp, by rw [htk]; simp⟩, by simp [ivN]⟩
                · have c5' : ¬ (k : Int) = 255 := by omega
                  have a4 := hzero a3 c5
                  simp -dsimp (disch := omega) [t1, t7, t9, t10, t13, t14, hat, ew, c4, c4', a3, a3', c5, c5', a4]
                  refine length_call (qa _) hl0 ?_
                  simp -dsimp (disch := omega) [t1, t7, t9, t10, t13, t14, ew]
                  refine owned_call (step := S + sumS l) (qa _) hok hl0 hl32 (by omega) hN0 (by omega) (fun r1 hr1 => ?_)
                  rw [owned_nat (by omega) hN] at hr1
                  rw [hr1]
                  simp -dsimp (disch := omega) [t1, t7, t9, t10, t13, t14, ew]
                  refine owned_call (step := S) (qa _) hok hl0 hl32 (by omega) hN0 (by omega) (fun r2 hr2 => ?_)
                  rw [owned_nat (by omega) hN] at hr2
                  rw [hr2]
                  have hd : ((owN l k (S + sumS l) : Nat) : Int) - (owN l k S : Nat) = (A : Int) := by rw [ho2 k, ho1 k, hAe]; omega
                  generalize owN l k (S + sumS l) = o1 at *
                  generalize owN l k S = o2 at *
                  simp -dsimp (disch := omega) [t1, t7, t9, t10, t13, t14, ew, hat, hd]
                  exact ⟨⟨k + 1, by omega, by simp, by rw [htk]; simp⟩, by simp [ivN]; omega⟩
            · have c3' : ¬ (k : Int) < 256 := by omega
              obtain rfl : k = 256 := by omega
              rw [htot] at t13
              have hge : G ≤ sumS l := by
                have := totW_ge (l := l) (x := sumS l) 256 G (by omega) fun g hg => by
                  obtain ⟨w, hw, hwg⟩ := hgt g hg
                  obtain ⟨i, hi⟩ := List.mem_iff_getElem?.1 hw
                  exact budget_pos hi hwg (hpos w hw)
                omega
              have hge' : (G : Int) ≤ (sumS l : Nat) := by omega
              have hN' : ((sumS l : Nat) : Int) ≤ 1024 := by omega
              simp -dsimp (disch := omega) [t1, t7, t9, t10, t13, t14]
              refine length_call (qa _) hl0 ?_
              simp -dsimp (disch := omega) [t1, t7, t9, t10, t13, t14, hge, hge', hN, hN']
              refine awake_call ?_
              simp -dsimp (disch := omega)
              exact RetF.same hwf (by simp) (Nat.zero_le _) (fun i hi => by rw [blks_alloc_ne _ _ _ (by omega)]; exact e1.same i hi) hK
end
end Go.Proofs.Ytndnpmfoegkkeaa
