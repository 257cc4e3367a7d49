/-
  The document's: bits, Bare, Allowed, canonical, page.
-/
import Derived.Test.YtkddajmfljlhiaaV2
set_option linter.unusedSimpArgs false
set_option linter.unusedVariables false
namespace Go.Proofs.Ytkddajmfljlhiaa
open Go Go.Mini Go.Proofs.Try

def bitB (n k : Nat) : Bool := n.testBit k
theorem bitB_def (n k : Nat) : bitB n k = decide (n / 2 ^ k % 2 = 1) := by
  unfold bitB
  rw [Nat.testBit_eq_decide_div_mod_eq]
theorem and2 (n k : Nat) : n &&& 2 ^ k = (n.testBit k).toNat * 2 ^ k := by
  apply Nat.eq_of_testBit_eq
  intro j
  rw [Nat.testBit_and, Nat.testBit_two_pow]
  by_cases hj : k = j
  · subst hj
    cases n.testBit k <;> simp
  · cases n.testBit k <;> simp [hj]
theorem dec_f (b : Bool) : decide (b = false) = !b := by cases b <;> rfl
theorem and_pow (e k m : Nat) (hm : m = 2 ^ k) : (e &&& m = 0) ↔ bitB e k = false := by
  unfold bitB
  rw [hm, and2]
  cases e.testBit k
  · simp
  · simp only [Bool.toNat_true, Nat.one_mul, Bool.true_eq_false, iff_false]
    exact Nat.ne_of_gt (Nat.pow_pos (by omega))
theorem and_or0 (e a b : Nat) : (e &&& (a ||| b) = 0) ↔ (e &&& a = 0) ∧ (e &&& b = 0) := by
  rw [Nat.and_or_distrib_left]
  constructor
  · intro h
    constructor
    · exact Nat.eq_zero_of_le_zero (h ▸ Nat.left_le_or)
    · exact Nat.eq_zero_of_le_zero (h ▸ Nat.right_le_or)
  · rintro ⟨h1, h2⟩
    rw [h1, h2]; rfl
theorem and10 (e : Nat) : (e &&& 10 = 0) ↔ bitB e 1 = false ∧ bitB e 3 = false := by
  rw [show (10 : Nat) = 2 ||| 8 from rfl, and_or0, and_pow e 1 2 rfl, and_pow e 3 8 rfl]
theorem and208 (e : Nat) : (e &&& 208 = 0) ↔ bitB e 4 = false ∧ bitB e 6 = false ∧ bitB e 7 = false := by
  rw [show (208 : Nat) = 16 ||| (64 ||| 128) from rfl, and_or0, and_or0, and_pow e 4 16 rfl, and_pow e 6 64 rfl, and_pow e 7 128 rfl]
theorem and6 (e : Nat) : (e &&& 6 = 4) ↔ bitB e 1 = false ∧ bitB e 2 = true := by
  have h : e &&& 6 = (bitB e 1).toNat * 2 + (bitB e 2).toNat * 4 := by
    have e1 : e &&& 2 = (bitB e 1).toNat * 2 := by rw [show (2 : Nat) = 2 ^ 1 from rfl, and2]; rfl
    have e2 : e &&& 4 = (bitB e 2).toNat * 4 := by rw [show (4 : Nat) = 2 ^ 2 from rfl, and2]; rfl
    rw [show (6 : Nat) = 2 ||| 4 from rfl, Nat.and_or_distrib_left, e1, e2]
    cases bitB e 1 <;> cases bitB e 2 <;> rfl
  rw [h]
  cases bitB e 1 <;> cases bitB e 2 <;> simp
/-- The document's Allowed. -/
def refAll (e : Nat) (x : Ask) : Bool :=
  if (decide (x.mode = 0) && !bitB e 4) || (!decide (x.mode = 0) && bitB e 4 && (!x.sum || decide (x.kind = 0))) then false
  else if x.kind = 0 then bitB e 3 else if x.kind = 1 then bitB e 1 || (x.mxr && bitB e 3) else if x.kind = 2 then bitB e 2 else false
theorem refAll_eq (e : Nat) (x : Ask) : refAll e x = allowedB e x := by
  have h16 : decide (e &&& 16 = 0) = !bitB e 4 := by rw [decide_eq_decide.2 (and_pow e 4 16 rfl), dec_f]
  have h8 : decide (e &&& 8 = 0) = !bitB e 3 := by rw [decide_eq_decide.2 (and_pow e 3 8 rfl), dec_f]
  have h4 : decide (e &&& 4 = 0) = !bitB e 2 := by rw [decide_eq_decide.2 (and_pow e 2 4 rfl), dec_f]
  have h2 : decide (e &&& 2 = 0) = !bitB e 1 := by rw [decide_eq_decide.2 (and_pow e 1 2 rfl), dec_f]
  have h10 : decide (e &&& 10 = 0) = (!bitB e 1 && !bitB e 3) := by rw [decide_eq_decide.2 (and10 e), Bool.decide_and, dec_f, dec_f]
  obtain ⟨va, sa, ki, mo, su, mx⟩ := x
  unfold refAll allowedB needN
  simp only
  generalize bitB e 1 = b1 at *
  generalize bitB e 2 = b2 at *
  generalize bitB e 3 = b3 at *
  generalize bitB e 4 = b4 at *
  rw [h16]
  rcases (by omega : ki = 0 ∨ ki = 1 ∨ ki = 2 ∨ 3 ≤ ki) with rfl | rfl | rfl | hk
  · simp only [if_true, h8]
    cases su <;> cases b4 <;> cases b3 <;> by_cases hm : mo = 0 <;> simp [hm]
  · cases mx
    · simp [h2]
      cases su <;> cases b4 <;> cases b1 <;> by_cases hm : mo = 0 <;> simp_all
    · simp [h10]
      cases su <;> cases b4 <;> cases b1 <;> cases b3 <;> by_cases hm : mo = 0 <;> simp_all
  · simp [h4]
    cases su <;> cases b4 <;> cases b2 <;> by_cases hm : mo = 0 <;> simp_all
  · rw [if_pos hk, if_neg (show ¬ ki = 0 by omega), if_neg (show ¬ ki = 1 by omega), if_neg (show ¬ ki = 2 by omega)]
    split <;> rfl
theorem can_bits {va : Nat} (hv : va < 18446744073709551616) (h : ∀ k, 39 ≤ k → k < 64 → bitB va k = bitB va 38) : canB va = true := by
  have hq : va / 274877906944 < 2 ^ 26 := by omega
  have hb : ∀ i, (va / 274877906944).testBit i = if i < 26 then bitB va 38 else false := by
    intro i
    have e : (va / 274877906944).testBit i = bitB va (i + 38) := by
      unfold bitB
      rw [show (274877906944 : Nat) = 2 ^ 38 from rfl, Nat.testBit_div_two_pow]
    split
    · rename_i hi
      rw [e]
      rcases Nat.eq_zero_or_pos i with rfl | hp
      · rfl
      · exact h (i + 38) (by omega) (by omega)
    · rename_i hi
      exact Nat.testBit_lt_two_pow (Nat.lt_of_lt_of_le hq (Nat.pow_le_pow_right (by omega) (by omega)))
  unfold canB
  cases h38 : bitB va 38
  · have : va / 274877906944 = 0 := Nat.eq_of_testBit_eq fun i => by rw [hb i, h38]; simp
    simp [this]
  · have : va / 274877906944 = 2 ^ 26 - 1 := Nat.eq_of_testBit_eq fun i => by rw [hb i, h38, Nat.testBit_two_pow_sub_one]; by_cases hi : i < 26 <;> simp [hi]
    simp [this]
theorem can_not {va k : Nat} (h1 : 39 ≤ k) (h2 : k < 64) (h : bitB va k ≠ bitB va 38) : canB va = false := by
  have e : ∀ j, (va / 274877906944).testBit j = bitB va (j + 38) := fun j => by
    unfold bitB
    rw [show (274877906944 : Nat) = 2 ^ 38 from rfl, Nat.testBit_div_two_pow]
  have ek := e (k - 38)
  have e0 := e 0
  rw [show k - 38 + 38 = k from by omega] at ek
  rw [Nat.zero_add] at e0
  unfold canB
  have c0 : va / 274877906944 ≠ 0 := fun h0 => by
    rw [h0, Nat.zero_testBit] at ek e0
    exact h (by rw [← ek, ← e0])
  have c1 : va / 274877906944 ≠ 67108863 := fun h0 => by
    rw [h0, show (67108863 : Nat) = 2 ^ 26 - 1 from rfl, Nat.testBit_two_pow_sub_one] at ek e0
    exact h (by rw [← ek, ← e0]; simp; omega)
  simp [c0, c1]

section
variable {h : Hp} {K : Value → Hp → Prop}
theorem bit_call {n k : Nat} (hn : n < 18446744073709551616) (hk : k < 64) (hK : K (.bool (bitB n k)) h) : ACall prog 33 [.int .u64 n, .int .i64 k] h K := by
  refine acallF_of tb0 func33 rfl rfl mixed (by kernel_rfl) fun hwf => ?_
  have e1 := shr_u64 n k hk
  rw [bitB_def] at hK
  obtain ⟨d, hd⟩ : ∃ d, d = n / 2 ^ k := ⟨_, rfl⟩
  have hdl : d < 18446744073709551616 := by rw [hd]; exact Nat.lt_of_le_of_lt (Nat.div_le_self _ _) hn
  rw [← hd] at e1 hK
  clear hd
  simp -dsimp (disch := omega) [e1]
  refine RetF.same (r := .bool (decide ((d : Int) % 2 = 1))) hwf (by simp) (Nat.zero_le _) (fun _ _ => rfl) ?_
  rw [show decide ((d : Int) % 2 = 1) = decide (d % 2 = 1) from by rw [decide_eq_decide]; omega]
  exact hK
theorem rbare_call {x : Ask} (ox : x.ok) (hK : K (.bool (bareB x)) h) : ACall prog 13 [askV x] h K := by
  refine acallF_of tb0 func13 rfl rfl mixed (by kernel_rfl) fun hwf => ?_
  obtain ⟨va, sa, ki, mo, su, mx⟩ := x
  obtain ⟨o1, o2, o3, o4⟩ := ox
  simp only at o1 o2 o3 o4
  unfold bareB at hK
  simp only at hK
  unfold askV at *
  by_cases hm : mo = 3
  · subst hm
    simp only [decide_true, Bool.true_or] at hK
    simp -dsimp (disch := omega)
    exact RetF.same hwf (by simp) (Nat.zero_le _) (fun i hi => by simp (disch := omega)) hK
  · have hm' : ¬ (mo : Int) = 3 := by omega
    rw [decide_eq_false hm, Bool.false_or] at hK
    obtain ⟨d, hd⟩ : ∃ d, d = sa / 1152921504606846976 := ⟨_, rfl⟩
    have e1 : (sa : Int) / 1152921504606846976 = (d : Nat) := by omega
    rw [← hd] at hK
    simp -dsimp (disch := omega) [hm, hm', e1]
    refine RetF.same (r := .bool (!decide ((d : Int) = 8))) hwf (by simp) (Nat.zero_le _) (fun i hi => by simp (disch := omega)) ?_
    rw [show decide ((d : Int) = 8) = decide (d = 8) from by rw [decide_eq_decide]; omega]
    exact hK
theorem rpage_call {e : Nat} (he : e < 18446744073709551616) (hK : K (.int .u64 (pageN e)) h) : ACall prog 39 [.int .u64 e] h K := by
  refine acallF_of tb0 func39 rfl rfl mixed (by kernel_rfl) fun hwf => ?_
  unfold pageN at hK
  obtain ⟨d, hd⟩ : ∃ d, d = e / 1024 := ⟨_, rfl⟩
  have e1 : (e : Int) / 1024 = (d : Nat) := by omega
  rw [← hd] at hK
  have hdl : d < 18446744073709551616 := by omega
  clear hd
  obtain ⟨r, hr⟩ : ∃ r, r = d % 17592186044416 := ⟨_, rfl⟩
  have e2 : (d : Int) % 17592186044416 = (r : Nat) := by omega
  rw [← hr] at hK
  simp -dsimp (disch := omega) [e1, e2]
  exact RetF.same hwf (by simp) (Nat.zero_le _) (fun _ _ => rfl) hK
theorem rcan_call {va : Nat} (hv : va < 18446744073709551616) (hK : K (.bool (canB va)) h) : ACall prog 34 [.int .u64 va] h K := by
  refine acallF_of tb0 func34 rfl rfl mixed (by kernel_rfl) fun hwf => ?_
  simp -dsimp (disch := omega)
  refine awp_loop (fun t h' => h' = h ∧ ∃ k : Nat, 39 ≤ k ∧ k ≤ 64 ∧ t 0 = .int .u64 va ∧ t 3 = .int .i64 k ∧ ∀ j, 39 ≤ j → j < k → bitB va j = bitB va 38) (fun t _ => 64 - ivN (t 3)) ?_ ?_
  · simp -dsimp (disch := omega)
    exact ⟨39, by omega, by omega, rfl, fun j h1 h2 => by omega⟩
  · rintro t h' ⟨rfl, k, hk1, hk, g0, g3, hall⟩
    refine vcF_sound mixed (tb := tb0) _ (by kernel_rfl) ?_
    by_cases hc : k < 64
    · have hcI : (k : Int) < 64 := by omega
      have bC := fun (K' : Value → Hp → Prop) (a : _) => bit_call (h := h') (K := K') (n := va) (k := 38) hv (by omega) a
      simp -dsimp (disch := omega) [g0, g3, hc, hcI]
      refine bit_call hv hc ?_
      simp -dsimp (disch := omega) [g0, g3]
      refine bC _ ?_
      by_cases hb : bitB va k = bitB va 38
      · simp -dsimp (disch := omega) [g0, g3, hb]
        refine ⟨⟨k + 1, by omega, by omega, by omega, fun j h1 h2 => ?_⟩, by simp [ivN]; omega⟩
        rcases Nat.lt_or_ge j k with h3 | h3
        · exact hall j h1 h3
        · obtain rfl : j = k := by omega
          exact hb
      · rw [can_not hk1 hc hb] at hK
        have hb' : (bitB va k == bitB va 38) = false := by simpa using hb
        simp -dsimp (disch := omega) [g0, g3, hb, hb']
        exact RetF.same (r := .bool false) hwf (by simp) (Nat.zero_le _) (fun _ _ => rfl) hK
    · have hcI : ¬ (k : Int) < 64 := by omega
      rw [can_bits hv fun j h1 h2 => hall j h1 (by omega)] at hK
      simp -dsimp (disch := omega) [g0, g3, hc, hcI]
      exact RetF.same (r := .bool true) hwf (by simp) (Nat.zero_le _) (fun _ _ => rfl) hK
set_option maxHeartbeats 4000000 in
theorem rallowed_call {e : Nat} {x : Ask} (he : e < 18446744073709551616) (ox : x.ok) (hK : K (.bool (allowedB e x)) h) : ACall prog 15 [.int .u64 e, askV x] h K := by
  refine acallF_of tb0 func15 rfl rfl mixed (by kernel_rfl) fun hwf => ?_
  rw [← refAll_eq] at hK
  obtain ⟨va, sa, ki, mo, su, mx⟩ := x
  obtain ⟨o1, o2, o3, o4⟩ := ox
  simp only at o1 o2 o3 o4
  unfold refAll at hK
  unfold askV at *
  simp only at hK
  obtain ⟨H, hH⟩ : ∃ H, H = h.alloc ⟨#[.int .u64 va, .int .u64 sa, .int .u8 ki, .int .u8 mo, .bool su, .bool mx], 1, true⟩ := ⟨_, rfl⟩
  have hA : H.blks h.next = some ⟨#[.int .u64 va, .int .u64 sa, .int .u8 ki, .int .u8 mo, .bool su, .bool mx], 1, true⟩ := by rw [hH]; exact blks_alloc_eq _ _
  have hE : ∀ i, i < h.next → H.blks i = h.blks i := by rw [hH]; exact (Ext.alloc h _).same
  have c1 := fun (K' : Value → Hp → Prop) (a : _) => bit_call (h := H) (K := K') (n := e) (k := 1) he (by omega) a
  have c2 := fun (K' : Value → Hp → Prop) (a : _) => bit_call (h := H) (K := K') (n := e) (k := 2) he (by omega) a
  have c3 := fun (K' : Value → Hp → Prop) (a : _) => bit_call (h := H) (K := K') (n := e) (k := 3) he (by omega) a
  have c4 := fun (K' : Value → Hp → Prop) (a : _) => bit_call (h := H) (K := K') (n := e) (k := 4) he (by omega) a
  obtain ⟨b1, hb1⟩ : ∃ b, b = bitB e 1 := ⟨_, rfl⟩
  obtain ⟨b2, hb2⟩ : ∃ b, b = bitB e 2 := ⟨_, rfl⟩
  obtain ⟨b3, hb3⟩ : ∃ b, b = bitB e 3 := ⟨_, rfl⟩
  obtain ⟨b4, hb4⟩ : ∃ b, b = bitB e 4 := ⟨_, rfl⟩
  rw [← hb1] at c1 hK
  rw [← hb2] at c2 hK
  rw [← hb3] at c3 hK
  rw [← hb4] at c4 hK
  simp -dsimp (disch := omega) [← hH]
  refine c1 _ ?_
  simp -dsimp (disch := omega)
  refine c2 _ ?_
  simp -dsimp (disch := omega)
  refine c3 _ ?_
  simp -dsimp (disch := omega)
  refine c4 _ ?_
  have fin : ∀ b, K (.bool b) h → K (.bool b) h := fun _ h => h
  by_cases hm : mo = 0
  · have hm' : (mo : Int) = 0 := by omega
    cases b4
    · simp [hm] at hK
      simp -dsimp (disch := omega) [hA, hm, hm']
      exact RetF.same (r := .bool false) hwf (by simp) (Nat.zero_le _) hE hK
    · simp [hm] at hK
      rcases (by omega : ki = 0 ∨ ki = 1 ∨ ki = 2 ∨ 3 ≤ ki) with rfl | rfl | rfl | hk
      · simp at hK
        simp -dsimp (disch := omega) [hA, hm, hm']
        exact RetF.same (r := .bool b3) hwf (by simp) (Nat.zero_le _) hE hK
      · simp at hK
        cases b1 <;> cases mx <;> simp at hK <;> simp -dsimp (disch := omega) [hA, hm, hm']
        · exact RetF.same (r := .bool false) hwf (by simp) (Nat.zero_le _) hE hK
        · exact RetF.same (r := .bool b3) hwf (by simp) (Nat.zero_le _) hE hK
        · exact RetF.same (r := .bool true) hwf (by simp) (Nat.zero_le _) hE hK
        · exact RetF.same (r := .bool true) hwf (by simp) (Nat.zero_le _) hE hK
      · simp at hK
        simp -dsimp (disch := omega) [hA, hm, hm']
        exact RetF.same (r := .bool b2) hwf (by simp) (Nat.zero_le _) hE hK
      · have k0 : ¬ ki = 0 := by omega
        have k1 : ¬ ki = 1 := by omega
        have k2 : ¬ ki = 2 := by omega
        have k0' : ¬ (ki : Int) = 0 := by omega
        have k1' : ¬ (ki : Int) = 1 := by omega
        have k2' : ¬ (ki : Int) = 2 := by omega
        simp [k0, k1, k2] at hK
        simp -dsimp (disch := omega) [hA, hm, hm', k0, k1, k2, k0', k1', k2']
        exact RetF.same (r := .bool false) hwf (by simp) (Nat.zero_le _) hE hK
  · have hm' : ¬ (mo : Int) = 0 := by omega
    cases b4
    · skip
      rcases (by omega : ki = 0 ∨ ki = 1 ∨ ki = 2 ∨ 3 ≤ ki) with rfl | rfl | rfl | hk
      · simp [hm] at hK
        simp -dsimp (disch := omega) [hA, hm, hm']
        exact RetF.same (r := .bool b3) hwf (by simp) (Nat.zero_le _) hE hK
      · cases b1 <;> cases mx <;> simp [hm] at hK <;> simp -dsimp (disch := omega) [hA, hm, hm']
        · exact RetF.same (r := .bool false) hwf (by simp) (Nat.zero_le _) hE hK
        · exact RetF.same (r := .bool b3) hwf (by simp) (Nat.zero_le _) hE hK
        · exact RetF.same (r := .bool true) hwf (by simp) (Nat.zero_le _) hE hK
        · exact RetF.same (r := .bool true) hwf (by simp) (Nat.zero_le _) hE hK
      · simp [hm] at hK
        simp -dsimp (disch := omega) [hA, hm, hm']
        exact RetF.same (r := .bool b2) hwf (by simp) (Nat.zero_le _) hE hK
      · have k0 : ¬ ki = 0 := by omega
        have k1 : ¬ ki = 1 := by omega
        have k2 : ¬ ki = 2 := by omega
        have k0' : ¬ (ki : Int) = 0 := by omega
        have k1' : ¬ (ki : Int) = 1 := by omega
        have k2' : ¬ (ki : Int) = 2 := by omega
        simp [hm, k0, k1, k2] at hK
        simp -dsimp (disch := omega) [hA, hm, hm', k0, k1, k2, k0', k1', k2']
        exact RetF.same (r := .bool false) hwf (by simp) (Nat.zero_le _) hE hK
    · cases su
      · simp [hm] at hK
        simp -dsimp (disch := omega) [hA, hm, hm']
        exact RetF.same (r := .bool false) hwf (by simp) (Nat.zero_le _) hE hK
      · skip
        rcases (by omega : ki = 0 ∨ ki = 1 ∨ ki = 2 ∨ 3 ≤ ki) with rfl | rfl | rfl | hk
        · simp [hm] at hK
          simp -dsimp (disch := omega) [hA, hm, hm']
          exact RetF.same (r := .bool false) hwf (by simp) (Nat.zero_le _) hE hK
        · cases b1 <;> cases mx <;> simp [hm] at hK <;> simp -dsimp (disch := omega) [hA, hm, hm']
          · exact RetF.same (r := .bool false) hwf (by simp) (Nat.zero_le _) hE hK
          · exact RetF.same (r := .bool b3) hwf (by simp) (Nat.zero_le _) hE hK
          · exact RetF.same (r := .bool true) hwf (by simp) (Nat.zero_le _) hE hK
          · exact RetF.same (r := .bool true) hwf (by simp) (Nat.zero_le _) hE hK
        · simp [hm] at hK
          simp -dsimp (disch := omega) [hA, hm, hm']
          exact RetF.same (r := .bool b2) hwf (by simp) (Nat.zero_le _) hE hK
        · have k0 : ¬ ki = 0 := by omega
          have k1 : ¬ ki = 1 := by omega
          have k2 : ¬ ki = 2 := by omega
          have k0' : ¬ (ki : Int) = 0 := by omega
          have k1' : ¬ (ki : Int) = 1 := by omega
          have k2' : ¬ (ki : Int) = 2 := by omega
          simp [hm, k0, k1, k2] at hK
          simp -dsimp (disch := omega) [hA, hm, hm', k0, k1, k2, k0', k1', k2']
          exact RetF.same (r := .bool false) hwf (by simp) (Nat.zero_le _) hE hK
end
end Go.Proofs.Ytkddajmfljlhiaa
