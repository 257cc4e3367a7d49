/-
  The document's walk: leaf, Read, Wrote, Begin.
-/
import Derived.Test.YtkddajmfljlhiaaX3
set_option linter.unusedSimpArgs false
set_option linter.unusedVariables false
namespace Go.Proofs.Ytkddajmfljlhiaa
open Go Go.Mini Go.Proofs.Try

theorem or_bit {e k : Nat} (h : bitB e k = true) : e ||| 2 ^ k = e := by
  apply Nat.eq_of_testBit_eq
  intro j
  rw [Nat.testBit_or, Nat.testBit_two_pow]
  by_cases hj : k = j
  · subst hj
    unfold bitB at h
    rw [h]; rfl
  · simp [hj]
theorem or_add {e k : Nat} (h : bitB e k = false) : e ||| 2 ^ k = e + 2 ^ k := by
  have hp : 0 < 2 ^ k := Nat.pow_pos (by omega)
  obtain ⟨q, hq⟩ : ∃ q, q = e / 2 ^ (k + 1) := ⟨_, rfl⟩
  obtain ⟨l, hl⟩ : ∃ l, l = e % 2 ^ (k + 1) := ⟨_, rfl⟩
  have he : e = 2 ^ (k + 1) * q + l := by rw [hq, hl]; exact (Nat.div_add_mod _ _).symm
  have hp2 : 2 ^ (k + 1) = 2 * 2 ^ k := by rw [Nat.pow_succ, Nat.mul_comm]
  have hll : l < 2 ^ (k + 1) := by rw [hl]; exact Nat.mod_lt _ (Nat.pow_pos (by omega))
  have hlk : l < 2 ^ k := by
    rw [bitB_def] at h
    have h' : ¬ e / 2 ^ k % 2 = 1 := by simpa using h
    have e1 : e / 2 ^ k = 2 * q + l / 2 ^ k := by
      rw [he, hp2, Nat.mul_comm 2 (2 ^ k), Nat.mul_assoc, Nat.mul_add_div hp]
    rw [e1] at h'
    have e2 : l / 2 ^ k < 2 := by rw [Nat.div_lt_iff_lt_mul hp]; omega
    have e3 : l / 2 ^ k = 0 := by
      generalize l / 2 ^ k = m at *
      omega
    exact (Nat.div_eq_zero_iff_lt hp).1 e3
  have e2 : e + 2 ^ k = 2 ^ (k + 1) * q + (l + 2 ^ k) := by omega
  apply Nat.eq_of_testBit_eq
  intro j
  rw [Nat.testBit_or, Nat.testBit_two_pow, e2, he, Nat.testBit_two_pow_mul_add _ hll, Nat.testBit_two_pow_mul_add _ (show l + 2 ^ k < 2 ^ (k + 1) by omega)]
  by_cases hj : j < k + 1
  · rw [if_pos hj, if_pos hj]
    have e3 : l + 2 ^ k = 2 ^ k * 1 + l := by omega
    rw [e3, Nat.testBit_two_pow_mul_add _ hlk]
    by_cases hjk : j < k
    · rw [if_pos hjk]
      have : ¬ k = j := by omega
      simp [this]
    · have : k = j := by omega
      subst this
      rw [if_neg hjk]
      simp
  · rw [if_neg hj, if_neg hj]
    have : ¬ k = j := by omega
    simp [this]
section
variable {h : Hp} {K : Value → Hp → Prop} {wp : Nat} {x : Ask} {r : Res} {en pu : Bool} {wa wo pe : Nat}
set_option maxRecDepth 100000 in
set_option maxHeartbeats 4000000 in
theorem rleaf_call {e : Nat} (hw : h.blks wp = some ⟨wsA x r en wa pu wo pe, 1, true⟩) (hn : 0 < r.n ∧ r.n ≤ 3) (he : e < 18446744073709551616) (ox : x.ok)
    (hK1 : leafOk x (3 - r.n) e = false → K (.tuple #[]) (h.set wp ⟨wsA x (failR 1 r.a0 r.a1 r.a2 r.n) true wa pu wo pe, 1, true⟩))
    (hK2 : leafOk x (3 - r.n) e = true → nowN x e = e → K (.tuple #[]) (h.set wp ⟨wsA x ⟨r.f, paL x (3 - r.n) e, 3 - r.n, e, r.a0, r.a1, r.a2, r.n⟩ true wa pu wo e, 1, true⟩))
    (hK3 : leafOk x (3 - r.n) e = true → nowN x e ≠ e → K (.tuple #[]) (h.set wp ⟨wsA x r en wa true (nowN x e) (nowN x e), 1, true⟩)) : ACall prog 38 [ptr wp, .int .u64 e] h K := by
  refine acallF_of tb0 func38 rfl rfl mixed (by kernel_rfl) fun hwf => ?_
  have fC := fun (K' : Value → Hp → Prop) (a : _) => rfail_call (K := K') (f := 1) hw a
  have aC := fun (K' : Value → Hp → Prop) (a : _) => rallowed_call (h := h) (K := K') he ox a
  have sC := fun (K' : Value → Hp → Prop) (a : _) => size_call (K := K') hw hn a
  have pC := fun (K' : Value → Hp → Prop) (a : _) => rpage_call (h := h) (K := K') he a
  have b6 := fun (K' : Value → Hp → Prop) (a : _) => bit_call (h := h) (K := K') (n := e) (k := 6) he (by omega) a
  unfold askV at aC
  obtain ⟨g, hg⟩ : ∃ g, g = pageN e := ⟨_, rfl⟩
  obtain ⟨z, hz⟩ : ∃ z, z = 2 ^ (9 * (3 - r.n)) := ⟨_, rfl⟩
  have hz0 : 0 < z := by rw [hz]; exact Nat.pow_pos (by omega)
  have hz1 : ¬ z = 0 := by omega
  have hz2 : ¬ (z : Int) = 0 := by omega
  have hlk : leafOk x (3 - r.n) e = (allowedB e x && decide (g % z = 0)) := by unfold leafOk; rw [← hg, ← hz]
  rw [hlk] at hK1 hK2 hK3
  rw [← hg] at pC
  rw [← hz] at sC
  have hgl : g < 17592186044416 := by rw [hg]; exact Nat.mod_lt _ (by omega)
  obtain ⟨q, hq⟩ : ∃ q, q = g % z := ⟨_, rfl⟩
  have eq : (g : Int) % (z : Int) = (q : Nat) := by rw [hq]; exact (Int.natCast_emod g z).symm
  rw [← hq] at hK1 hK2 hK3
  simp -dsimp (disch := omega) [hw]
  refine aC _ ?_
  cases hal : allowedB e x
  · rw [hal] at hK1
    simp -dsimp (disch := omega) [hw]
    refine fC _ ?_
    simp -dsimp (disch := omega)
    exact RetF.all (r := .tuple #[]) (by simp) (hK1 rfl)
  · rw [hal, Bool.true_and] at hK1 hK2 hK3
    simp -dsimp (disch := omega) [hw]
    refine pC _ ?_
    simp -dsimp (disch := omega) [hw]
    refine sC _ ?_
    by_cases hq0 : q = 0
    · have hq0' : (q : Int) = 0 := by omega
      rw [decide_eq_true hq0] at hK2 hK3
      have hK2 := hK2 rfl
      have hK3 := hK3 rfl
      obtain ⟨n1, hn1⟩ : ∃ n, n = e ||| 64 := ⟨_, rfl⟩
      have hn1l : n1 < 18446744073709551616 := by rw [hn1]; exact Nat.or_lt_two_pow (n := 64) he (by omega)
      have t7 := fun (K' : Value → Hp → Prop) (a : _) => bit_call (h := h) (K := K') (n := n1) (k := 7) hn1l (by omega) a
      obtain ⟨n2, hn2⟩ : ∃ n, n = n1 ||| 128 := ⟨_, rfl⟩
      have hn2l : n2 < 18446744073709551616 := by rw [hn2]; exact Nat.or_lt_two_pow (n := 64) hn1l (by omega)
      cases h6 : bitB e 6
      · by_cases hk2 : x.kind = 2
        · have hk2' : decide ((x.kind : Int) = 2) = true := decide_eq_true (by omega)
          have hk2n : decide (x.kind = 2) = true := decide_eq_true hk2
          cases h7 : bitB n1 7
          · skip
            have e64 : (e : Int) + 64 = n1 := by have h := or_add (k := 6) h6; rw [show (2 : Nat) ^ 6 = 64 from rfl, ← hn1] at h; omega
            have e128 : (n1 : Int) + 128 = n2 := by have h := or_add (k := 7) h7; rw [show (2 : Nat) ^ 7 = 128 from rfl, ← hn2] at h; omega
            have hnow : nowN x e = n2 := by unfold nowN; rw [if_pos hk2, ← hn1, ← hn2]
            rw [hnow] at hK2 hK3
            have hne : ¬ n2 = e := by omega
            have hne' : ¬ (n2 : Int) = e := by omega
            simp -dsimp (disch := omega) [hw, eq, hz1, hz2, hq0, hq0', e64, hk2', hk2n, e128, hne, hne']
            refine b6 _ ?_
            rw [h6]
            simp -dsimp (disch := omega) [hw, eq, hz1, hz2, hq0, hq0', e64, hk2', hk2n, e128, hne, hne']
            refine t7 _ ?_
            rw [h7]
            simp -dsimp (disch := omega) [hw, eq, hz1, hz2, hq0, hq0', e64, hk2', hk2n, e128, hne, hne']
            exact RetF.all (r := .tuple #[]) (by simp) (hK3 hne)
          · skip
            have e64 : (e : Int) + 64 = n1 := by have h := or_add (k := 6) h6; rw [show (2 : Nat) ^ 6 = 64 from rfl, ← hn1] at h; omega
            have hnow : nowN x e = n1 := by unfold nowN; rw [if_pos hk2, ← hn1]; exact or_bit (k := 7) h7
            rw [hnow] at hK2 hK3
            have hne : ¬ n1 = e := by omega
            have hne' : ¬ (n1 : Int) = e := by omega
            simp -dsimp (disch := omega) [hw, eq, hz1, hz2, hq0, hq0', e64, hk2', hk2n, hne, hne']
            refine b6 _ ?_
            rw [h6]
            simp -dsimp (disch := omega) [hw, eq, hz1, hz2, hq0, hq0', e64, hk2', hk2n, hne, hne']
            refine t7 _ ?_
            rw [h7]
            simp -dsimp (disch := omega) [hw, eq, hz1, hz2, hq0, hq0', e64, hk2', hk2n, hne, hne']
            exact RetF.all (r := .tuple #[]) (by simp) (hK3 hne)
        · have hk2' : decide ((x.kind : Int) = 2) = false := decide_eq_false (by omega)
          have hk2n : decide (x.kind = 2) = false := decide_eq_false hk2
          have e64 : (e : Int) + 64 = n1 := by have h := or_add (k := 6) h6; rw [show (2 : Nat) ^ 6 = 64 from rfl, ← hn1] at h; omega
          have hnow : nowN x e = n1 := by unfold nowN; rw [if_neg hk2, ← hn1]
          rw [hnow] at hK2 hK3
          have hne : ¬ n1 = e := by omega
          have hne' : ¬ (n1 : Int) = e := by omega
          simp -dsimp (disch := omega) [hw, eq, hz1, hz2, hq0, hq0', e64, hk2', hk2n, hne, hne']
          refine b6 _ ?_
          rw [h6]
          simp -dsimp (disch := omega) [hw, eq, hz1, hz2, hq0, hq0', e64, hk2', hk2n, hne, hne']
          exact RetF.all (r := .tuple #[]) (by simp) (hK3 hne)
      · by_cases hk2 : x.kind = 2
        · have hk2' : decide ((x.kind : Int) = 2) = true := decide_eq_true (by omega)
          have hk2n : decide (x.kind = 2) = true := decide_eq_true hk2
          cases h7 : bitB n1 7
          · skip
            have hne1 : n1 = e := by rw [hn1]; exact or_bit (k := 6) h6
            subst hne1
            have e128 : (n1 : Int) + 128 = n2 := by have h := or_add (k := 7) h7; rw [show (2 : Nat) ^ 7 = 128 from rfl, ← hn2] at h; omega
            have hnow : nowN x n1 = n2 := by unfold nowN; rw [if_pos hk2, ← hn1, ← hn2]
            rw [hnow] at hK2 hK3
            have hne : ¬ n2 = n1 := by omega
            have hne' : ¬ (n2 : Int) = n1 := by omega
            simp -dsimp (disch := omega) [hw, eq, hz1, hz2, hq0, hq0', hk2', hk2n, e128, hne, hne']
            refine b6 _ ?_
            rw [h6]
            simp -dsimp (disch := omega) [hw, eq, hz1, hz2, hq0, hq0', hk2', hk2n, e128, hne, hne']
            refine t7 _ ?_
            rw [h7]
            simp -dsimp (disch := omega) [hw, eq, hz1, hz2, hq0, hq0', hk2', hk2n, e128, hne, hne']
            exact RetF.all (r := .tuple #[]) (by simp) (hK3 hne)
          · skip
            have hne1 : n1 = e := by rw [hn1]; exact or_bit (k := 6) h6
            subst hne1
            have hnow : nowN x n1 = n1 := by unfold nowN; rw [if_pos hk2, ← hn1]; exact or_bit (k := 7) h7
            rw [hnow] at hK2 hK3
            simp -dsimp (disch := omega) [hw, eq, hz1, hz2, hq0, hq0', hk2', hk2n]
            refine b6 _ ?_
            rw [h6]
            simp -dsimp (disch := omega) [hw, eq, hz1, hz2, hq0, hq0', hk2', hk2n]
            refine t7 _ ?_
            rw [h7]
            simp -dsimp (disch := omega) [hw, eq, hz1, hz2, hq0, hq0', hk2', hk2n]
            refine rend_call (blks_set_eq _ _ _) hn (by omega) ox ?_
            simp -dsimp (disch := omega)
            exact RetF.all (r := .tuple #[]) (by simp) (by rw [Hp.set_set]; exact hK2 rfl)
        · have hk2' : decide ((x.kind : Int) = 2) = false := decide_eq_false (by omega)
          have hk2n : decide (x.kind = 2) = false := decide_eq_false hk2
          have hne1 : n1 = e := by rw [hn1]; exact or_bit (k := 6) h6
          subst hne1
          have hnow : nowN x n1 = n1 := by unfold nowN; rw [if_neg hk2, ← hn1]
          rw [hnow] at hK2 hK3
          simp -dsimp (disch := omega) [hw, eq, hz1, hz2, hq0, hq0', hk2', hk2n]
          refine b6 _ ?_
          rw [h6]
          simp -dsimp (disch := omega) [hw, eq, hz1, hz2, hq0, hq0', hk2', hk2n]
          refine rend_call (blks_set_eq _ _ _) hn (by omega) ox ?_
          simp -dsimp (disch := omega)
          exact RetF.all (r := .tuple #[]) (by simp) (by rw [Hp.set_set]; exact hK2 rfl)
    · have hq0' : ¬ (q : Int) = 0 := by omega
      simp -dsimp (disch := omega) [hw, eq, hz1, hz2, hq0, hq0']
      refine fC _ ?_
      simp -dsimp (disch := omega)
      exact RetF.all (r := .tuple #[]) (by simp) (hK1 (decide_eq_false hq0))

set_option maxRecDepth 100000 in
set_option maxHeartbeats 4000000 in
theorem rread_call {e : Nat} {b : Bool} (hw : h.blks wp = some ⟨wsA x r en wa pu wo pe, 1, true⟩) (hn : 0 < r.n ∧ r.n ≤ 3) (he : e < 18446744073709551616) (ox : x.ok)
    (hF2 : b = false → K (.tuple #[]) (h.set wp ⟨wsA x (failR 2 r.a0 r.a1 r.a2 r.n) true wa pu wo pe, 1, true⟩))
    (hF1 : b = true → (badB e = true ∨ (e &&& 10 = 0 ∧ (r.n = 3 ∨ e &&& 208 ≠ 0))) → K (.tuple #[]) (h.set wp ⟨wsA x (failR 1 r.a0 r.a1 r.a2 r.n) true wa pu wo pe, 1, true⟩))
    (hA : b = true → badB e = false → e &&& 10 = 0 → r.n < 3 → e &&& 208 = 0 → K (.tuple #[]) (h.set wp ⟨wsA x ⟨r.f, r.pa, r.lv, r.pte, nx0 r.n r.a0 (addN x (2 - r.n) (pageN e * 4096)), nx1 r.n r.a1 (addN x (2 - r.n) (pageN e * 4096)), nx2 r.n r.a2 (addN x (2 - r.n) (pageN e * 4096)), r.n + 1⟩ en (addN x (2 - r.n) (pageN e * 4096)) pu wo pe, 1, true⟩))
    (hK1 : b = true → badB e = false → e &&& 10 ≠ 0 → leafOk x (3 - r.n) e = false → K (.tuple #[]) (h.set wp ⟨wsA x (failR 1 r.a0 r.a1 r.a2 r.n) true wa pu wo pe, 1, true⟩))
    (hK2 : b = true → badB e = false → e &&& 10 ≠ 0 → leafOk x (3 - r.n) e = true → nowN x e = e → K (.tuple #[]) (h.set wp ⟨wsA x ⟨r.f, paL x (3 - r.n) e, 3 - r.n, e, r.a0, r.a1, r.a2, r.n⟩ true wa pu wo e, 1, true⟩))
    (hK3 : b = true → badB e = false → e &&& 10 ≠ 0 → leafOk x (3 - r.n) e = true → nowN x e ≠ e → K (.tuple #[]) (h.set wp ⟨wsA x r en wa true (nowN x e) (nowN x e), 1, true⟩)) : ACall prog 32 [ptr wp, .int .u64 e, .bool b] h K := by
  refine acallF_of tb0 func32 rfl rfl mixed (by kernel_rfl) fun hwf => ?_
  have fC := fun (f : Nat) (K' : Value → Hp → Prop) (a : _) => rfail_call (K := K') (f := f) hw a
  have c0 := fun (K' : Value → Hp → Prop) (a : _) => bit_call (h := h) (K := K') (n := e) (k := 0) he (by omega) a
  have c1 := fun (K' : Value → Hp → Prop) (a : _) => bit_call (h := h) (K := K') (n := e) (k := 1) he (by omega) a
  have c2 := fun (K' : Value → Hp → Prop) (a : _) => bit_call (h := h) (K := K') (n := e) (k := 2) he (by omega) a
  have c3 := fun (K' : Value → Hp → Prop) (a : _) => bit_call (h := h) (K := K') (n := e) (k := 3) he (by omega) a
  have c4 := fun (K' : Value → Hp → Prop) (a : _) => bit_call (h := h) (K := K') (n := e) (k := 4) he (by omega) a
  have c6 := fun (K' : Value → Hp → Prop) (a : _) => bit_call (h := h) (K := K') (n := e) (k := 6) he (by omega) a
  have c7 := fun (K' : Value → Hp → Prop) (a : _) => bit_call (h := h) (K := K') (n := e) (k := 7) he (by omega) a
  have pC := fun (K' : Value → Hp → Prop) (a : _) => rpage_call (h := h) (K := K') he a
  cases b
  · simp -dsimp (disch := omega)
    refine fC 2 _ ?_
    simp -dsimp (disch := omega)
    exact RetF.all (r := .tuple #[]) (by simp) (hF2 rfl)
  · have hbad : badB e = (!bitB e 0 || (!bitB e 1 && bitB e 2) || !decide (e / 18014398509481984 = 0)) := by
      unfold badB
      rw [decide_eq_decide.2 (and_pow e 0 1 rfl), dec_f, decide_eq_decide.2 (and6 e), Bool.decide_and, dec_f, show decide (bitB e 2 = true) = bitB e 2 from by cases bitB e 2 <;> rfl]
    obtain ⟨d, hd⟩ : ∃ d, d = e / 18014398509481984 := ⟨_, rfl⟩
    have ed : (e : Int) / 18014398509481984 = (d : Nat) := by omega
    rw [← hd] at hbad
    clear hd
    have h10 := and10 e
    have h208 := and208 e
    cases b0 : bitB e 0
    · rw [b0] at hbad
      simp -dsimp (disch := omega)
      refine c0 _ ?_
      rw [b0]
      simp -dsimp (disch := omega)
      refine fC 1 _ ?_
      simp -dsimp (disch := omega)
      exact RetF.all (r := .tuple #[]) (by simp) (hF1 rfl (.inl (by simp [hbad])))
    · cases b1 : bitB e 1
      · cases b2 : bitB e 2
        · by_cases hd0 : d = 0
          · have hd0' : (d : Int) = 0 := by omega
            have hbad : badB e = false := by rw [hbad, b0, b1, b2, hd0]; rfl
            cases b3 : bitB e 3
            · have z10 : e &&& 10 = 0 := h10.2 ⟨b1, b3⟩
              by_cases hn3 : r.n = 3
              · have hn3' : (r.n : Int) = 3 := by omega
                simp -dsimp (disch := omega)
                refine c0 _ ?_
                rw [b0]
                simp -dsimp (disch := omega) []
                refine c1 _ ?_
                rw [b1]
                simp -dsimp (disch := omega) []
                refine c2 _ ?_
                rw [b2]
                simp -dsimp (disch := omega) [ed, hd0, hd0']
                refine c1 _ ?_
                rw [b1]
                simp -dsimp (disch := omega) []
                refine c3 _ ?_
                rw [b3]
                simp -dsimp (disch := omega) [hw, hn3, hn3']
                refine fC 1 _ ?_
                simp -dsimp (disch := omega)
                exact RetF.all (r := .tuple #[]) (by simp) (hF1 rfl (.inr ⟨z10, .inl hn3⟩))
              · have hn3' : ¬ (r.n : Int) = 3 := by omega
                cases b4 : bitB e 4
                · cases b6 : bitB e 6
                  · cases b7 : bitB e 7
                    · have z208 : e &&& 208 = 0 := h208.2 ⟨b4, b6, b7⟩
                      have hgl : pageN e < 17592186044416 := Nat.mod_lt _ (by omega)
                      obtain ⟨g, hg⟩ : ∃ g, g = pageN e := ⟨_, rfl⟩
                      rw [← hg] at hgl pC hA
                      obtain ⟨tn, htn⟩ : ∃ t, t = g * 4096 := ⟨_, rfl⟩
                      have htI : (g : Int) * 4096 = tn := by omega
                      rw [← htn] at hA
                      simp -dsimp (disch := omega)
                      refine c0 _ ?_
                      rw [b0]
                      simp -dsimp (disch := omega) []
                      refine c1 _ ?_
                      rw [b1]
                      simp -dsimp (disch := omega) []
                      refine c2 _ ?_
                      rw [b2]
                      simp -dsimp (disch := omega) [ed, hd0, hd0']
                      refine c1 _ ?_
                      rw [b1]
                      simp -dsimp (disch := omega) []
                      refine c3 _ ?_
                      rw [b3]
                      simp -dsimp (disch := omega) [hw, hn3, hn3']
                      refine c4 _ ?_
                      rw [b4]
                      simp -dsimp (disch := omega) []
                      refine c6 _ ?_
                      rw [b6]
                      simp -dsimp (disch := omega) []
                      refine c7 _ ?_
                      rw [b7]
                      simp -dsimp (disch := omega) []
                      refine pC _ ?_
                      simp -dsimp (disch := omega) [htI]
                      refine rask_call hw (by omega) (by omega) ox ?_
                      simp -dsimp (disch := omega)
                      exact RetF.all (r := .tuple #[]) (by simp) (hA rfl hbad z10 (by omega) z208)
                    · skip
                      simp -dsimp (disch := omega)
                      refine c0 _ ?_
                      rw [b0]
                      simp -dsimp (disch := omega) []
                      refine c1 _ ?_
                      rw [b1]
                      simp -dsimp (disch := omega) []
                      refine c2 _ ?_
                      rw [b2]
                      simp -dsimp (disch := omega) [ed, hd0, hd0']
                      refine c1 _ ?_
                      rw [b1]
                      simp -dsimp (disch := omega) []
                      refine c3 _ ?_
                      rw [b3]
                      simp -dsimp (disch := omega) [hw, hn3, hn3']
                      refine c4 _ ?_
                      rw [b4]
                      simp -dsimp (disch := omega) []
                      refine c6 _ ?_
                      rw [b6]
                      simp -dsimp (disch := omega) []
                      refine c7 _ ?_
                      rw [b7]
                      simp -dsimp (disch := omega) []
                      refine fC 1 _ ?_
                      simp -dsimp (disch := omega)
                      exact RetF.all (r := .tuple #[]) (by simp) (hF1 rfl (.inr ⟨z10, .inr fun q => by have := (h208.1 q).2.2; rw [b7] at this; cases this⟩))
                  · skip
                    simp -dsimp (disch := omega)
                    refine c0 _ ?_
                    rw [b0]
                    simp -dsimp (disch := omega) []
                    refine c1 _ ?_
                    rw [b1]
                    simp -dsimp (disch := omega) []
                    refine c2 _ ?_
                    rw [b2]
                    simp -dsimp (disch := omega) [ed, hd0, hd0']
                    refine c1 _ ?_
                    rw [b1]
                    simp -dsimp (disch := omega) []
                    refine c3 _ ?_
                    rw [b3]
                    simp -dsimp (disch := omega) [hw, hn3, hn3']
                    refine c4 _ ?_
                    rw [b4]
                    simp -dsimp (disch := omega) []
                    refine c6 _ ?_
                    rw [b6]
                    simp -dsimp (disch := omega) []
                    refine fC 1 _ ?_
                    simp -dsimp (disch := omega)
                    exact RetF.all (r := .tuple #[]) (by simp) (hF1 rfl (.inr ⟨z10, .inr fun q => by have := (h208.1 q).2.1; rw [b6] at this; cases this⟩))
                · skip
                  simp -dsimp (disch := omega)
                  refine c0 _ ?_
                  rw [b0]
                  simp -dsimp (disch := omega) []
                  refine c1 _ ?_
                  rw [b1]
                  simp -dsimp (disch := omega) []
                  refine c2 _ ?_
                  rw [b2]
                  simp -dsimp (disch := omega) [ed, hd0, hd0']
                  refine c1 _ ?_
                  rw [b1]
                  simp -dsimp (disch := omega) []
                  refine c3 _ ?_
                  rw [b3]
                  simp -dsimp (disch := omega) [hw, hn3, hn3']
                  refine c4 _ ?_
                  rw [b4]
                  simp -dsimp (disch := omega) []
                  refine fC 1 _ ?_
                  simp -dsimp (disch := omega)
                  exact RetF.all (r := .tuple #[]) (by simp) (hF1 rfl (.inr ⟨z10, .inr fun q => by have := (h208.1 q).1; rw [b4] at this; cases this⟩))
            · have n10 : e &&& 10 ≠ 0 := fun q => by have := (h10.1 q).2; rw [b3] at this; cases this
              simp -dsimp (disch := omega)
              refine c0 _ ?_
              rw [b0]
              simp -dsimp (disch := omega) []
              refine c1 _ ?_
              rw [b1]
              simp -dsimp (disch := omega) []
              refine c2 _ ?_
              rw [b2]
              simp -dsimp (disch := omega) [ed, hd0, hd0']
              refine c1 _ ?_
              rw [b1]
              simp -dsimp (disch := omega) []
              refine c3 _ ?_
              rw [b3]
              simp -dsimp (disch := omega) []
              refine rleaf_call hw hn he ox (fun q => ?_) (fun q1 q2 => ?_) (fun q1 q2 => ?_)
              · simp -dsimp (disch := omega)
                exact RetF.all (r := .tuple #[]) (by simp) (hK1 rfl hbad n10 q)
              · simp -dsimp (disch := omega)
                exact RetF.all (r := .tuple #[]) (by simp) (hK2 rfl hbad n10 q1 q2)
              · simp -dsimp (disch := omega)
                exact RetF.all (r := .tuple #[]) (by simp) (hK3 rfl hbad n10 q1 q2)
          · have hd0' : ¬ (d : Int) = 0 := by omega
            simp -dsimp (disch := omega)
            refine c0 _ ?_
            rw [b0]
            simp -dsimp (disch := omega) []
            refine c1 _ ?_
            rw [b1]
            simp -dsimp (disch := omega) []
            refine c2 _ ?_
            rw [b2]
            simp -dsimp (disch := omega) [ed, hd0, hd0']
            refine fC 1 _ ?_
            simp -dsimp (disch := omega)
            exact RetF.all (r := .tuple #[]) (by simp) (hF1 rfl (.inl (by rw [hbad, b0, b1, b2, decide_eq_false hd0]; rfl)))
        · skip
          simp -dsimp (disch := omega)
          refine c0 _ ?_
          rw [b0]
          simp -dsimp (disch := omega) []
          refine c1 _ ?_
          rw [b1]
          simp -dsimp (disch := omega) []
          refine c2 _ ?_
          rw [b2]
          simp -dsimp (disch := omega) []
          refine fC 1 _ ?_
          simp -dsimp (disch := omega)
          exact RetF.all (r := .tuple #[]) (by simp) (hF1 rfl (.inl (by rw [hbad, b0, b1, b2]; rfl)))
      · by_cases hd0 : d = 0
        · have hd0' : (d : Int) = 0 := by omega
          have hbad : badB e = false := by rw [hbad, b0, b1, hd0]; rfl
          have n10 : e &&& 10 ≠ 0 := fun q => by have := (h10.1 q).1; rw [b1] at this; cases this
          simp -dsimp (disch := omega)
          refine c0 _ ?_
          rw [b0]
          simp -dsimp (disch := omega) []
          refine c1 _ ?_
          rw [b1]
          simp -dsimp (disch := omega) [ed, hd0, hd0']
          refine c1 _ ?_
          rw [b1]
          simp -dsimp (disch := omega) []
          refine rleaf_call hw hn he ox (fun q => ?_) (fun q1 q2 => ?_) (fun q1 q2 => ?_)
          · simp -dsimp (disch := omega)
            exact RetF.all (r := .tuple #[]) (by simp) (hK1 rfl hbad n10 q)
          · simp -dsimp (disch := omega)
            exact RetF.all (r := .tuple #[]) (by simp) (hK2 rfl hbad n10 q1 q2)
          · simp -dsimp (disch := omega)
            exact RetF.all (r := .tuple #[]) (by simp) (hK3 rfl hbad n10 q1 q2)
        · have hd0' : ¬ (d : Int) = 0 := by omega
          simp -dsimp (disch := omega)
          refine c0 _ ?_
          rw [b0]
          simp -dsimp (disch := omega) []
          refine c1 _ ?_
          rw [b1]
          simp -dsimp (disch := omega) [ed, hd0, hd0']
          refine fC 1 _ ?_
          simp -dsimp (disch := omega)
          exact RetF.all (r := .tuple #[]) (by simp) (hF1 rfl (.inl (by rw [hbad, b0, b1, decide_eq_false hd0]; rfl)))
end
end Go.Proofs.Ytkddajmfljlhiaa
