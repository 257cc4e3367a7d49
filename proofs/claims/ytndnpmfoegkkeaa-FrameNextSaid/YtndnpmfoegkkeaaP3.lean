/-
  From any step on: the law's body.
-/
import Derived.Test.YtndnpmfoegkkeaaP2
set_option linter.unusedSimpArgs false
set_option linter.unusedVariables false
set_option linter.unusedSectionVars false
namespace Go.Proofs.Ytndnpmfoegkkeaa
open Go Go.Mini Go.Proofs.Try

def tb5 : Nat → Marks := fun k => if k = 8 then ⟨[24, 26], fun _ => True⟩ else if k = 13 then ⟨[2, 4], fun _ => True⟩ else if k = 15 then ⟨[5, 8], fun _ => True⟩ else if k = 16 then ⟨[4, 6], fun _ => True⟩ else ⟨[], fun _ => True⟩
@[simp] theorem tb5_l8 : (tb5 8).l = [24, 26] := rfl
@[simp] theorem tb5_l13 : (tb5 13).l = [2, 4] := rfl
@[simp] theorem tb5_l15 : (tb5 15).l = [5, 8] := rfl
@[simp] theorem tb5_l16 : (tb5 16).l = [4, 6] := rfl
@[simp] theorem tb5_R (k x : Nat) : (tb5 k).R x := by unfold tb5; (repeat' split) <;> trivial
section
variable {h : Hp} {K : Value → Hp → Prop}
set_option maxRecDepth 100000 in
set_option maxHeartbeats 2000000 in
theorem frameNext_call {l : List Win} {v : Value} {gs : Int} {g X : Nat} (hok : ∀ w ∈ l, w.ok) (hv : Sl h 2 l.length (winsC l) v) (hl : l.length < 9223372036854775808) (hg : g < 256) (hX : X < 18446744073709551616) (hK : K (.bool true) h) : ACall prog 5 [v, .int .i64 gs, .agg #[.int .u8 g, .int .u64 X]] h K := by
  refine acallF_of tb5 func5 rfl rfl mixed (by kernel_rfl) fun hwf => ?_
  have hvb := sblk_lt (hwf.args v (by simp))
  have hv0 := hv
  obtain ⟨va, vc, rfl⟩ := hv.slice
  have hsa : ∀ i, i < h.next → (h.alloc ⟨#[.int .u8 g, .int .u64 X], 1, true⟩).blks i = h.blks i := fun i hi => blks_alloc_ne _ _ _ (by omega)
  have hv1 : Sl (h.alloc ⟨#[.int .u8 g, .int .u64 X], 1, true⟩) 2 l.length (winsC l) (.slice va l.length vc) := hv0.mono fun b hb => hsa b (hvb b hb)
  by_cases hc : 60 < l.length
  · have hc' : (60 : Int) < l.length := by omega
    simp -dsimp (disch := omega) [hc, hc']
    refine awake_call ?_
    simp -dsimp (disch := omega)
    exact RetF.same hwf (by simp) (Nat.zero_le _) hsa hK
  · have hc' : ¬ (60 : Int) < l.length := by omega
    simp -dsimp (disch := omega) [hc, hc']
    refine new_call hok hv1 hl (fun hne => ?_) (fun h0 _ H p e1 hp q => ?_)
    · have hne' : ¬ (checkW l gs : Int) = 0 := by omega
      simp -dsimp (disch := omega) [hne, hne']
      refine awake_call ?_
      simp -dsimp (disch := omega)
      exact RetF.same hwf (by simp) (Nat.zero_le _) hsa hK
    · obtain ⟨hl0, hl32, hN, hpos, -, -, -, -⟩ := check_ok h0
      have hN0 : 0 < sumS l := by
        obtain ⟨w, hw⟩ : ∃ w, l[0]? = some w := ⟨l[0], List.getElem?_eq_getElem hl0⟩
        have h1 : sumS (l.take 1) = sumS (l.take 0) + w.s := sumS_succ hw
        have h2 := sumS_all l (k := 1)
        have h3 := hpos w (List.mem_of_getElem? hw)
        omega
      have hsame : ∀ i, i < h.next → H.blks i = h.blks i := fun i hi => (e1.same i (by simp; omega)).trans (hsa i hi)
      have gb : H.blks h.next = some ⟨#[.int .u8 g, .int .u64 X], 1, true⟩ := (e1.same _ (by simp)).trans (blks_alloc_eq _ _)
      obtain ⟨S, hS⟩ : ∃ S, S = X % 1125899906842624 := ⟨_, rfl⟩
      have hS2 : S < 1125899906842624 := by omega
      have eS : (X : Int) % 1125899906842624 = S := by omega
      have eS' : Int.tmod (X : Int) 1125899906842624 = S := by rw [Int.tmod_eq_emod_of_nonneg (by omega)]; exact eS
      simp -dsimp (disch := omega) [gb, eS, eS']
      refine next_call (g := g) (step := S) q hok hl0 hl32 (by omega) hN0 (by omega) (fun hA0 => ?_) (fun k w hx hgw ha hlt => ?_) (fun nx hnv hnx => ?_) (fun hnv => ?_)
      · simp -dsimp (disch := omega) [gb]
        refine budget_call q hok hl0 hl32 (by omega) ?_
        rw [hA0]
        simp -dsimp (disch := omega) [gb]
        refine awp_loop (fun t h2 => h2 = H ∧ t 5 = ptr h.next ∧ t 7 = ptr p ∧ t 9 = .int .u64 S ∧ t 10 = .int .u64 0 ∧ t 11 = .bool false) (fun t _ => 0) ?_ ?_
        · simp -dsimp (disch := omega)
        · rintro t h2 ⟨rfl, t5, t7, t9, t10, t11⟩
          refine vcF_sound mixed (tb := tb5) _ (by kernel_rfl) ?_
          simp -dsimp (disch := omega) [t5, t7, t9, t10, t11, gb]
          refine owned_call (step := S + 1) q hok hl0 hl32 (by omega) hN0 (by omega) (fun r1 hr1 => ?_)
          rw [owned_nat (by omega) hN] at hr1
          rw [hr1]
          simp -dsimp (disch := omega) [t5, t7, t9, t10, t11, gb]
          refine owned_call (step := S) q hok hl0 hl32 (by omega) hN0 (by omega) (fun r2 hr2 => ?_)
          rw [owned_nat (by omega) hN] at hr2
          rw [hr2]
          simp -dsimp (disch := omega) [t5, t7, t9, t10, t11, gb]
          refine owner_call (step := S) q hok hl0 hl32 (by omega) hN0 (by omega) (fun k0 w0 hx0 h10 h20 => ?_)
          have hst := owN_step (g := g) hN0 hx0 h10 h20
          have hol := owN_le (l := l) (g := g) (s := S)
          have wo0 := (hok w0 (List.mem_of_getElem? hx0)).1
          generalize owN l g (S + 1) = o1 at *
          generalize owN l g S = o0 at *
          generalize w0.g = v0 at *
          by_cases hc0 : v0 = g
          · rw [if_pos hc0] at hst
            have e1 : ((o1 : Nat) : Int) - o0 = 1 := by omega
            have e2 : (v0 : Int) = g := by omega
            simp -dsimp (disch := omega) [t5, t7, t9, t10, t11, gb, e1, e2, hc0]
            refine awake_call ?_
            simp -dsimp (disch := omega) [t5, t7, t9, t10, t11, gb]
            exact RetF.same hwf (by simp) (Nat.zero_le _) hsame hK
          · rw [if_neg hc0] at hst
            have e1 : ((o1 : Nat) : Int) - o0 = 0 := by omega
            have e2 : ¬ (v0 : Int) = g := by omega
            simp -dsimp (disch := omega) [t5, t7, t9, t10, t11, gb, e1, e2, hc0]
            refine awake_call ?_
            simp -dsimp (disch := omega) [t5, t7, t9, t10, t11, gb]
            exact RetF.same hwf (by simp) (Nat.zero_le _) hsame hK
      · obtain ⟨p1, p2, p3, p4⟩ := found_A hN0 hpos hx hgw ha hlt
        generalize max (sumS (l.take k)) (S % sumS l) - S % sumS l = b at *
        have eA : upA S b = S + b := by unfold upA; rw [if_pos (by omega)]
        have eB : upB S b = true := by unfold upB; rw [decide_eq_true (by omega)]
        rw [eA, eB]
        obtain ⟨n, hn⟩ : ∃ n, n = S + b := ⟨_, rfl⟩
        rw [← hn] at p2 ⊢
        simp -dsimp (disch := omega) [gb]
        refine budget_call q hok hl0 hl32 (by omega) ?_
        have hAle := ahead_le l g (sumS l)
        generalize aheadF l g (sumS l) = A at *
        have pA : (0 : Int) < A := by omega
        have c1 : ¬ (n : Int) < S := by omega
        have c2 : ¬ (sumS l : Int) ≤ (n : Int) - S := by omega
        simp -dsimp (disch := omega) [gb, p4, pA, c1]
        refine length_call q hl0 ?_
        simp -dsimp (disch := omega) [gb, p4, pA, c1, c2]
        refine owner_call (step := n) q hok hl0 hl32 (by omega) hN0 (by omega) (fun k1 w1 hx1 h11 h21 => ?_)
        rw [p2 k1 w1 hx1 h11 h21]
        simp -dsimp (disch := omega) [gb, p4, pA, c1, c2]
        refine awp_loop (fun t h2 => h2 = H ∧ t 5 = ptr h.next ∧ t 7 = ptr p ∧ t 9 = .int .u64 S ∧ t 10 = .int .u64 n ∧ t 11 = .bool true ∧ ∃ m : Nat, m ≤ b ∧ t 12 = .int .u64 (S + m : Nat)) (fun t _ => S + b - ivN (t 12)) ?_ ?_
        · simp -dsimp (disch := omega)
          exact ⟨0, by omega, rfl⟩
        · rintro t h2 ⟨rfl, t5, t7, t9, t10, t11, m, hm, t12⟩
          obtain ⟨y, hy⟩ : ∃ y, y = S + m := ⟨_, rfl⟩
          rw [← hy] at t12
          refine vcF_sound mixed (tb := tb5) _ (by kernel_rfl) ?_
          by_cases d1 : y < n
          · have d1' : (y : Int) < n := by omega
            have d2' : (y : Int) < (S : Int) + 2000 := by omega
            simp -dsimp (disch := omega) [t5, t7, t9, t10, t11, t12, gb, d1, d1', d2']
            refine owner_call (step := y) q hok hl0 hl32 (by omega) hN0 (by omega) (fun k2 w2 hx2 h12 h22 => ?_)
            have hng := p3 m k2 w2 (by omega) hx2 (by rw [← hy]; exact h12) (by rw [← hy]; exact h22)
            generalize w2.g = v2 at *
            have hng' : ¬ (v2 : Int) = g := by omega
            simp -dsimp (disch := omega) [t5, t7, t9, t10, t11, t12, gb, hng, hng']
            exact ⟨⟨m + 1, by omega, by omega⟩, by simp [ivN]; omega⟩
          · have d1' : ¬ (y : Int) < n := by omega
            simp -dsimp (disch := omega) [t5, t7, t9, t10, t11, t12, gb, d1, d1']
            refine owned_call (step := S + 1) q hok hl0 hl32 (by omega) hN0 (by omega) (fun r1 hr1 => ?_)
            rw [owned_nat (by omega) hN] at hr1
            rw [hr1]
            simp -dsimp (disch := omega) [t5, t7, t9, t10, t11, gb]
            refine owned_call (step := S) q hok hl0 hl32 (by omega) hN0 (by omega) (fun r2 hr2 => ?_)
            rw [owned_nat (by omega) hN] at hr2
            rw [hr2]
            simp -dsimp (disch := omega) [t5, t7, t9, t10, t11, gb]
            refine owner_call (step := S) q hok hl0 hl32 (by omega) hN0 (by omega) (fun k0 w0 hx0 h10 h20 => ?_)
            have hst := owN_step (g := g) hN0 hx0 h10 h20
            have hol := owN_le (l := l) (g := g) (s := S)
            have wo0 := (hok w0 (List.mem_of_getElem? hx0)).1
            generalize owN l g (S + 1) = o1 at *
            generalize owN l g S = o0 at *
            generalize w0.g = v0 at *
            by_cases hc0 : v0 = g
            · rw [if_pos hc0] at hst
              have e1 : ((o1 : Nat) : Int) - o0 = 1 := by omega
              have e2 : (v0 : Int) = g := by omega
              simp -dsimp (disch := omega) [t5, t7, t9, t10, t11, gb, e1, e2, hc0]
              refine awake_call ?_
              simp -dsimp (disch := omega) [t5, t7, t9, t10, t11, gb]
              exact RetF.same hwf (by simp) (Nat.zero_le _) hsame hK
            · rw [if_neg hc0] at hst
              have e1 : ((o1 : Nat) : Int) - o0 = 0 := by omega
              have e2 : ¬ (v0 : Int) = g := by omega
              simp -dsimp (disch := omega) [t5, t7, t9, t10, t11, gb, e1, e2, hc0]
              refine awake_call ?_
              simp -dsimp (disch := omega) [t5, t7, t9, t10, t11, gb]
              exact RetF.same hwf (by simp) (Nat.zero_le _) hsame hK
      · obtain ⟨p1, p2, p3, p4⟩ := found_B hN0 hpos hnv hnx
        generalize nx - S % sumS l = b at *
        have eA : upA S b = S + b := by unfold upA; rw [if_pos (by omega)]
        have eB : upB S b = true := by unfold upB; rw [decide_eq_true (by omega)]
        rw [eA, eB]
        obtain ⟨n, hn⟩ : ∃ n, n = S + b := ⟨_, rfl⟩
        rw [← hn] at p2 ⊢
        simp -dsimp (disch := omega) [gb]
        refine budget_call q hok hl0 hl32 (by omega) ?_
        have hAle := ahead_le l g (sumS l)
        generalize aheadF l g (sumS l) = A at *
        have pA : (0 : Int) < A := by omega
        have c1 : ¬ (n : Int) < S := by omega
        have c2 : ¬ (sumS l : Int) ≤ (n : Int) - S := by omega
        simp -dsimp (disch := omega) [gb, p4, pA, c1]
        refine length_call q hl0 ?_
        simp -dsimp (disch := omega) [gb, p4, pA, c1, c2]
        refine owner_call (step := n) q hok hl0 hl32 (by omega) hN0 (by omega) (fun k1 w1 hx1 h11 h21 => ?_)
        rw [p2 k1 w1 hx1 h11 h21]
        simp -dsimp (disch := omega) [gb, p4, pA, c1, c2]
        refine awp_loop (fun t h2 => h2 = H ∧ t 5 = ptr h.next ∧ t 7 = ptr p ∧ t 9 = .int .u64 S ∧ t 10 = .int .u64 n ∧ t 11 = .bool true ∧ ∃ m : Nat, m ≤ b ∧ t 12 = .int .u64 (S + m : Nat)) (fun t _ => S + b - ivN (t 12)) ?_ ?_
        · simp -dsimp (disch := omega)
          exact ⟨0, by omega, rfl⟩
        · rintro t h2 ⟨rfl, t5, t7, t9, t10, t11, m, hm, t12⟩
          obtain ⟨y, hy⟩ : ∃ y, y = S + m := ⟨_, rfl⟩
          rw [← hy] at t12
          refine vcF_sound mixed (tb := tb5) _ (by kernel_rfl) ?_
          by_cases d1 : y < n
          · have d1' : (y : Int) < n := by omega
            have d2' : (y : Int) < (S : Int) + 2000 := by omega
            simp -dsimp (disch := omega) [t5, t7, t9, t10, t11, t12, gb, d1, d1', d2']
            refine owner_call (step := y) q hok hl0 hl32 (by omega) hN0 (by omega) (fun k2 w2 hx2 h12 h22 => ?_)
            have hng := p3 m k2 w2 (by omega) hx2 (by rw [← hy]; exact h12) (by rw [← hy]; exact h22)
            generalize w2.g = v2 at *
            have hng' : ¬ (v2 : Int) = g := by omega
            simp -dsimp (disch := omega) [t5, t7, t9, t10, t11, t12, gb, hng, hng']
            exact ⟨⟨m + 1, by omega, by omega⟩, by simp [ivN]; omega⟩
          · have d1' : ¬ (y : Int) < n := by omega
            simp -dsimp (disch := omega) [t5, t7, t9, t10, t11, t12, gb, d1, d1']
            refine owned_call (step := S + 1) q hok hl0 hl32 (by omega) hN0 (by omega) (fun r1 hr1 => ?_)
            rw [owned_nat (by omega) hN] at hr1
            rw [hr1]
            simp -dsimp (disch := omega) [t5, t7, t9, t10, t11, gb]
            refine owned_call (step := S) q hok hl0 hl32 (by omega) hN0 (by omega) (fun r2 hr2 => ?_)
            rw [owned_nat (by omega) hN] at hr2
            rw [hr2]
            simp -dsimp (disch := omega) [t5, t7, t9, t10, t11, gb]
            refine owner_call (step := S) q hok hl0 hl32 (by omega) hN0 (by omega) (fun k0 w0 hx0 h10 h20 => ?_)
            have hst := owN_step (g := g) hN0 hx0 h10 h20
            have hol := owN_le (l := l) (g := g) (s := S)
            have wo0 := (hok w0 (List.mem_of_getElem? hx0)).1
            generalize owN l g (S + 1) = o1 at *
            generalize owN l g S = o0 at *
            generalize w0.g = v0 at *
            by_cases hc0 : v0 = g
            · rw [if_pos hc0] at hst
              have e1 : ((o1 : Nat) : Int) - o0 = 1 := by omega
              have e2 : (v0 : Int) = g := by omega
              simp -dsimp (disch := omega) [t5, t7, t9, t10, t11, gb, e1, e2, hc0]
              refine awake_call ?_
              simp -dsimp (disch := omega) [t5, t7, t9, t10, t11, gb]
              exact RetF.same hwf (by simp) (Nat.zero_le _) hsame hK
            · rw [if_neg hc0] at hst
              have e1 : ((o1 : Nat) : Int) - o0 = 0 := by omega
              have e2 : ¬ (v0 : Int) = g := by omega
              simp -dsimp (disch := omega) [t5, t7, t9, t10, t11, gb, e1, e2, hc0]
              refine awake_call ?_
              simp -dsimp (disch := omega) [t5, t7, t9, t10, t11, gb]
              exact RetF.same hwf (by simp) (Nat.zero_le _) hsame hK
      · have hA0 : aheadF l g (sumS l) = 0 := by
          refine budget_zero fun i w hi => ?_
          rcases hnv.2 with ⟨_, hh⟩ | ⟨i', w', _, _, _, e, _⟩
          · exact hh i w (List.getElem?_eq_some_iff.1 hi).1 hi
          · omega
        simp -dsimp (disch := omega) [gb]
        refine budget_call q hok hl0 hl32 (by omega) ?_
        rw [hA0]
        simp -dsimp (disch := omega) [gb]
        refine awp_loop (fun t h2 => h2 = H ∧ t 5 = ptr h.next ∧ t 7 = ptr p ∧ t 9 = .int .u64 S ∧ t 10 = .int .u64 0 ∧ t 11 = .bool false) (fun t _ => 0) ?_ ?_
        · simp -dsimp (disch := omega)
        · rintro t h2 ⟨rfl, t5, t7, t9, t10, t11⟩
          refine vcF_sound mixed (tb := tb5) _ (by kernel_rfl) ?_
          simp -dsimp (disch := omega) [t5, t7, t9, t10, t11, gb]
          refine owned_call (step := S + 1) q hok hl0 hl32 (by omega) hN0 (by omega) (fun r1 hr1 => ?_)
          rw [owned_nat (by omega) hN] at hr1
          rw [hr1]
          simp -dsimp (disch := omega) [t5, t7, t9, t10, t11, gb]
          refine owned_call (step := S) q hok hl0 hl32 (by omega) hN0 (by omega) (fun r2 hr2 => ?_)
          rw [owned_nat (by omega) hN] at hr2
          rw [hr2]
          simp -dsimp (disch := omega) [t5, t7, t9, t10, t11, gb]
          refine owner_call (step := S) q hok hl0 hl32 (by omega) hN0 (by omega) (fun k0 w0 hx0 h10 h20 => ?_)
          have hst := owN_step (g := g) hN0 hx0 h10 h20
          have hol := owN_le (l := l) (g := g) (s := S)
          have wo0 := (hok w0 (List.mem_of_getElem? hx0)).1
          generalize owN l g (S + 1) = o1 at *
          generalize owN l g S = o0 at *
          generalize w0.g = v0 at *
          by_cases hc0 : v0 = g
          · rw [if_pos hc0] at hst
            have e1 : ((o1 : Nat) : Int) - o0 = 1 := by omega
            have e2 : (v0 : Int) = g := by omega
            simp -dsimp (disch := omega) [t5, t7, t9, t10, t11, gb, e1, e2, hc0]
            refine awake_call ?_
            simp -dsimp (disch := omega) [t5, t7, t9, t10, t11, gb]
            exact RetF.same hwf (by simp) (Nat.zero_le _) hsame hK
          · rw [if_neg hc0] at hst
            have e1 : ((o1 : Nat) : Int) - o0 = 0 := by omega
            have e2 : ¬ (v0 : Int) = g := by omega
            simp -dsimp (disch := omega) [t5, t7, t9, t10, t11, gb, e1, e2, hc0]
            refine awake_call ?_
            simp -dsimp (disch := omega) [t5, t7, t9, t10, t11, gb]
            exact RetF.same hwf (by simp) (Nat.zero_le _) hsame hK
end
end Go.Proofs.Ytndnpmfoegkkeaa
