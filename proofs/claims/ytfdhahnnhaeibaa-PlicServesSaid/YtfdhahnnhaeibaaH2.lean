/-
  A round of the law behind the act.
-/
import Derived.Test.YtfdhahnnhaeibaaH1
set_option linter.unusedSimpArgs false
set_option linter.unusedVariables false
set_option linter.unusedSectionVars false
namespace Go.Proofs.Ytfdhahnnhaeibaa
open Go Go.Mini Go.Proofs.Try

/-- What stands there: the PLIC, and the law's three rows of marks. -/
structure Stand (h h' : Hp) (s : St) (sv fr hg : Nat → Bool) : Prop where
  le : h.next + 4 ≤ h'.next
  old : ∀ i, i < h.next → h'.blks i = h.blks i
  bp : h'.blks h.next = some ⟨stC s, 1, true⟩
  b1 : h'.blks (h.next + 1) = some ⟨boolC sv, 1, true⟩
  b2 : h'.blks (h.next + 2) = some ⟨boolC fr, 1, true⟩
  b3 : h'.blks (h.next + 3) = some ⟨boolC hg, 1, true⟩
theorem Stand.call {h h' h'' : Hp} {s s' : St} {sv fr hg : Nat → Bool} (q : Stand h h' s sv fr hg) (h1 : ∀ i, i < h'.next → i ≠ h.next → h''.blks i = h'.blks i) (h2 : h'.next ≤ h''.next) (h3 : h''.blks h.next = some ⟨stC s', 1, true⟩) : Stand h h'' s' sv fr hg := by
  have := q.le
  exact ⟨by omega, fun i hi => by rw [h1 i (by omega) (by omega)]; exact q.old i hi, h3, by rw [h1 _ (by omega) (by omega)]; exact q.b1, by rw [h1 _ (by omega) (by omega)]; exact q.b2, by rw [h1 _ (by omega) (by omega)]; exact q.b3⟩
theorem Stand.set1 {h h' : Hp} {s : St} {sv sv' fr hg : Nat → Bool} (q : Stand h h' s sv fr hg) : Stand h (h'.set (h.next + 1) ⟨boolC sv', 1, true⟩) s sv' fr hg := by
  have := q.le
  exact ⟨by simpa using q.le, fun i hi => by rw [blks_set_ne _ _ _ _ (by omega)]; exact q.old i hi, by rw [blks_set_ne _ _ _ _ (by omega)]; exact q.bp, blks_set_eq _ _ _, by rw [blks_set_ne _ _ _ _ (by omega)]; exact q.b2, by rw [blks_set_ne _ _ _ _ (by omega)]; exact q.b3⟩
theorem Stand.set2 {h h' : Hp} {s : St} {sv fr fr' hg : Nat → Bool} (q : Stand h h' s sv fr hg) : Stand h (h'.set (h.next + 2) ⟨boolC fr', 1, true⟩) s sv fr' hg := by
  have := q.le
  exact ⟨by simpa using q.le, fun i hi => by rw [blks_set_ne _ _ _ _ (by omega)]; exact q.old i hi, by rw [blks_set_ne _ _ _ _ (by omega)]; exact q.bp, by rw [blks_set_ne _ _ _ _ (by omega)]; exact q.b1, blks_set_eq _ _ _, by rw [blks_set_ne _ _ _ _ (by omega)]; exact q.b3⟩
theorem Stand.set3 {h h' : Hp} {s : St} {sv fr hg hg' : Nat → Bool} (q : Stand h h' s sv fr hg) : Stand h (h'.set (h.next + 3) ⟨boolC hg', 1, true⟩) s sv fr hg' := by
  have := q.le
  exact ⟨by simpa using q.le, fun i hi => by rw [blks_set_ne _ _ _ _ (by omega)]; exact q.old i hi, by rw [blks_set_ne _ _ _ _ (by omega)]; exact q.bp, by rw [blks_set_ne _ _ _ _ (by omega)]; exact q.b1, by rw [blks_set_ne _ _ _ _ (by omega)]; exact q.b2, blks_set_eq _ _ _⟩
theorem Stand.alloc {h h' : Hp} {s : St} {sv fr hg : Nat → Bool} (q : Stand h h' s sv fr hg) (b : Blk) : Stand h (h'.alloc b) s sv fr hg := by
  have := q.le
  exact ⟨by simp; omega, fun i hi => by rw [blks_alloc_ne _ _ _ (by omega)]; exact q.old i hi, by rw [blks_alloc_ne _ _ _ (by omega)]; exact q.bp, by rw [blks_alloc_ne _ _ _ (by omega)]; exact q.b1, by rw [blks_alloc_ne _ _ _ (by omega)]; exact q.b2, by rw [blks_alloc_ne _ _ _ (by omega)]; exact q.b3⟩
theorem mayN_t {off : Nat} (h1 : off % 4 = 0) (h2 : off < 2105344) : mayN off 4 = true := by simp [mayN, h1, h2]
theorem and1_u64 (y : Nat) (hy : y < 18446744073709551616) (ty : TypeId) (xo yo : Operand) : abin prog .and ty xo yo (.int .u64 (y : Nat)) (.int .u64 1) = some (.int .u64 ((y % 2 : Nat) : Int)) := abin_low y 1 1 (y % 2) (by omega) hy (by rfl) rfl ty xo yo

theorem read_at {h : Hp} {K : Value → Hp → Prop} {s : St} {p off v : Nat} {s' : St} (hb : h.blks p = some ⟨stC s, 1, true⟩) (hs : s.ok) (hp : p < h.next) (h4 : off % 4 = 0) (hl : off < 2105344) (he : readS s off = (v, s'))
    (k1 : ∀ h', (∀ i, i < h.next → i ≠ p → h'.blks i = h.blks i) → h.next ≤ h'.next → h'.blks p = some ⟨stC s', 1, true⟩ → K (.tuple #[.int .u64 v, .bool true]) h') : ACall prog 9 [ptr p, .int .u64 off, .int .i64 4] h K := by
  refine read_call hb hs hp (by omega) (fun e => by rw [mayN_t h4 hl] at e; cases e) (fun _ h' u1 u2 u3 => ?_)
  rw [he] at u3 ⊢
  exact k1 h' u1 u2 u3

set_option maxRecDepth 100000 in
set_option maxHeartbeats 2000000 in
theorem serves_tail {Q : APost} {h h2 : Hp} {t : Tm} {s : St} {sv fr hg : Nat → Bool} {k a8 : Nat} {v0 : Value} {a : Act} (hi : Inv s sv fr hg) (ha : a.ok) (q : Stand h h2 s sv fr hg) (h8 : h.next + 4 ≤ a8) (h82 : a8 < h2.next) (hb8 : h2.blks a8 = some ⟨(actC a).toArray, 1, true⟩)
    (t0 : t 0 = v0) (t3 : t 3 = ptr h.next) (t4 : t 4 = ptr (h.next + 1)) (t5 : t 5 = ptr (h.next + 2)) (t6 : t 6 = ptr (h.next + 3)) (t7 : t 7 = .int .i64 k) (t8 : t 8 = ptr a8)
    (hQ : ∀ t' h' s' sv' fr' hg', Inv s' sv' fr' hg' → Stand h h' s' sv' fr' hg' → t' 0 = v0 → t' 3 = ptr h.next → t' 4 = ptr (h.next + 1) → t' 5 = ptr (h.next + 2) → t' 6 = ptr (h.next + 3) → t' 7 = .int .i64 k → apQ Q .normal t' h' (.mk _) ∧ apQ Q (.exit 1) t' h' (.mk _)) :
    vcF prog f3.ntmps tb0 (sndC (sndC (blkC (fstC (sndC (loopC (blkC (sndC (fstC (sndC (sndC (sndC (sndC (bodyC f3)))))))))))))) Q t h2 (.mk _) := by
  have e : (sndC (sndC (blkC (fstC (sndC (loopC (blkC (sndC (fstC (sndC (sndC (sndC (sndC (bodyC f3)))))))))))))) = (sndC (sndC (blkC (fstC (sndC (loopC (blkC (sndC (fstC (sndC (sndC (sndC (sndC (bodyC f3)))))))))))))) := rfl
  conv at e => rhs; whnf
  rw [e]
  clear e
  obtain ⟨w, n0, x, off, v, wd⟩ := a
  obtain ⟨o1, o2, o3, o4, o5⟩ := ha
  simp only at o1 o2 o3 o4 o5
  have hb8' : h2.blks a8 = some ⟨#[.int .u8 w, .int .i64 n0, .bool x, .int .u64 off, .int .u64 v, .int .i64 wd], 1, true⟩ := hb8
  clear hb8
  have hle := q.le
  obtain ⟨c, hc⟩ : ∃ c, c = w % 2 := ⟨_, rfl⟩
  have hci : (w : Int) % 2 = c := by omega
  have hc2 : c < 2 := by omega
  obtain ⟨r1, hr1⟩ : ∃ r, r = 8192 + 128 * c := ⟨_, rfl⟩
  have er1 : 8192 + 128 * (c : Int) = (r1 : Nat) := by omega
  obtain ⟨r2, hr2⟩ : ∃ r, r = 2097156 + 4096 * c := ⟨_, rfl⟩
  have er2 : 2097156 + 4096 * (c : Int) = (r2 : Nat) := by omega
  have hpl := pendK_lt s 8
  have hen := hi.ok.en c
  obtain ⟨P, hP⟩ : ∃ P, P = pendK s 8 := ⟨_, rfl⟩
  obtain ⟨N, hN⟩ : ∃ N, N = s.en c := ⟨_, rfl⟩
  rw [← hP] at hpl
  rw [← hN] at hen
  obtain ⟨b, hb⟩ : ∃ b, b = callsS s c := ⟨_, rfl⟩
  have hbl := bestS_lt s c
  have hcall : b = true → 0 < bestS s c := by
    rw [hb]; unfold callsS; simp only [Bool.and_eq_true, decide_eq_true_eq]; exact fun h => h.1
  have hcz := claim_zero (s := s) (c := c)
  have hcl := fun n (h : bestS s c = n) => hi.claim h
  have hcp := fun n (h : bestS s c = n) => claim_pe (s := s) (c := c) h
  obtain ⟨_, hbest⟩ := best_spec hi.p0 c
  have hprs := claim_pr (s := s) c
  have hok5 := hi.ok.claim c
  have hz5 : (claimS s c).pr 0 = 0 := by rw [hprs]; exact hi.p0
  obtain ⟨s5, hs5⟩ : ∃ x, x = claimS s c := ⟨_, rfl⟩
  rw [← hs5] at hcz hcl hcp hprs hok5 hz5
  obtain ⟨n, hn⟩ : ∃ n, n = bestS s c := ⟨_, rfl⟩
  rw [← hn] at hbl hcall hcz hcl hcp hbest
  have hcl := hcl n rfl
  have hcp := hcp n rfl
  have hn8 : ¬ (7 : Int) < n := by omega
  have hn8' : ¬ 7 < n := by omega
  obtain ⟨o4, ho4⟩ : ∃ r, r = 4 * n := ⟨_, rfl⟩
  have en4 : 4 * (n : Int) = (o4 : Nat) := by omega
  have hbn : b = true → ¬ (n : Int) = 0 := fun h => by have := hcall h; omega
  have hbn' : b = true → ¬ n = 0 := fun h => by have := hcall h; omega
  simp -dsimp (disch := omega) [t3, t8, hb8', hci]
  refine calls_call q.bp hi.ok hc2 (by omega) ?_
  rw [← hb]
  simp -dsimp (disch := omega) [t3, t8, hb8', hci]
  refine read_at (off := 4096) q.bp hi.ok (by omega) (by omega) (by omega) (v := P) (by rw [hP]; exact readS_pend) (fun h3 u1 u2 u3 => ?_)
  have q3 := q.call u1 u2 u3
  have hb3 := (u1 a8 h82 (by omega)).trans hb8'
  clear u1 u3
  simp -dsimp (disch := omega) [t3, t8, hb3, hci, er1]
  refine read_at (off := r1) q3.bp hi.ok (by omega) (by omega) (by omega) (v := N) (by rw [hr1, hN]; exact readS_en hc2) (fun h4 u1 u4 u3 => ?_)
  have q4 := q3.call u1 u4 u3
  have hb4 := (u1 a8 (by omega) (by omega)).trans hb3
  clear u1 u3 q3 hb3 q hb8' hle
  have hle := q4.le
  simp -dsimp (disch := omega) [t3, t8, hb4]
  refine CondF_not (fun hc1 => ?_) (fun hc1 => ?_)
  · simp -dsimp (disch := omega)
    exact (hQ _ _ s sv fr hg hi q4 (by simp [t0]) (by simp [t3]) (by simp [t4]) (by simp [t5]) (by simp [t6]) (by simp [t7])).2
  · simp -dsimp (disch := omega) [t3, t8, er2]
    refine read_at (off := r2) q4.bp hi.ok (by omega) (by omega) (by omega) (v := n) (s' := s5) (by rw [hr2, hn, hs5]; exact readS_claim hc2) (fun h5 u1 u5 u3 => ?_)
    have q5 := q4.call u1 u5 u3
    have hb5 := (u1 a8 (by omega) (by omega)).trans hb4
    clear u1 u3 q4 hb4
    have q5b := q5.bp
    simp -dsimp (disch := omega) [t3, hn8, hn8']
    have hmine := hi.ok.pr n
    obtain ⟨M, hM⟩ : ∃ M, M = s.pr n := ⟨_, rfl⟩
    rw [← hM] at hmine hcl hbest
    have hbb : b = true ∧ ¬ n = 0 ∨ b = false := by cases b with
      | true => exact .inl ⟨rfl, hbn' rfl⟩
      | false => exact .inr rfl
    clear hbn hbn'
    rcases hbb with ⟨rfl, e2⟩ | rfl
    all_goals
      first
        | (have e2i : ¬ (n : Int) = 0 := by omega
           simp -dsimp (disch := omega) [t3, hn8, hn8', e2, e2i, en4])
        | simp -dsimp (disch := omega) [t3, hn8, hn8', en4]
    all_goals
      refine read_at (off := o4) (v := M) (s' := s5) q5.bp hok5 (by omega) (by omega) (by omega) (by rw [ho4, hM, ← hprs]; exact readS_pr hbl hz5) (fun h6 u1 u6 u3 => ?_)
      have q6 := q5.call u1 u6 u3
      have hb6 := (u1 a8 (by omega) (by omega)).trans hb5
      clear u1 u3 
    all_goals
      simp -dsimp (disch := omega)
      refine awp_loop (fun t' h' => Stand h h' s5 sv fr hg ∧ a8 < h'.next ∧ h'.blks a8 = some ⟨#[.int .u8 w, .int .i64 n0, .bool x, .int .u64 off, .int .u64 v, .int .i64 wd], 1, true⟩ ∧ t' 0 = v0 ∧ t' 3 = ptr h.next ∧ t' 4 = ptr (h.next + 1) ∧ t' 5 = ptr (h.next + 2) ∧ t' 6 = ptr (h.next + 3) ∧ t' 7 = .int .i64 k ∧ t' 8 = ptr a8 ∧ t' 9 = .int .u64 c ∧ t' 11 = .int .u64 P ∧ t' 13 = .int .u64 N ∧ t' 15 = .int .u64 n ∧ t' 17 = .int .u64 M ∧ ∃ j : Nat, j ≤ 8 ∧ t' 19 = .int .u64 j) (fun t' _ => 8 - ivN (t' 19)) ?_ ?_
    rotate_left
    rotate_left
    all_goals first
      | (simp -dsimp (disch := omega) [t0, t3, t4, t5, t6, t7, t8, q6, hb6]
         exact ⟨by omega, 1, by omega, rfl⟩)
      | skip
    all_goals
      rintro t' h' ⟨q7, l7, hb7, t0, t3, t4, t5, t6, t7, t8, t9, t11, t13, t15, t17, j, hj, t19⟩
      clear hb5 hb6 q5 q6 q5b
      have hle7 := q7.le
      refine vcF_sound mixed (tb := tb0) _ (by kernel_rfl) ?_
      by_cases hj8 : j < 8
      · have hj8' : (j : Int) < 8 := by omega
        obtain ⟨oj, hoj⟩ : ∃ r, r = 4 * j := ⟨_, rfl⟩
        have enj : 4 * (j : Int) = (oj : Nat) := by omega
        simp -dsimp (disch := omega) [t19, hj8, hj8', t3, enj]
        have hpj := hi.ok.pr j
        obtain ⟨O, hO⟩ : ∃ M, M = s.pr j := ⟨_, rfl⟩
        refine read_at (off := oj) (v := O) (s' := s5) q7.bp hok5 (by omega) (by omega) (by omega) (by rw [hoj, hO, ← hprs]; exact readS_pr hj8 hz5) (fun H8 u1 u8 u3 => ?_)
        have q8 := q7.call u1 u8 u3
        have hb8 := (u1 a8 (by omega) (by omega)).trans hb7
        clear u1 u3
        rw [← hO] at hpj
        have bP : P / 2 ^ j % 2 = if s.pe j = true then 1 else 0 := by rw [hP]; exact pend_bit s hj8
        have bN : N / 2 ^ j % 2 < 2 := Nat.mod_lt _ (by omega)
        have hcj : s.pe j = true → N / 2 ^ j % 2 = 1 → O ≤ M ∧ (O = M → 0 < O → n ≤ j) := fun x1 x2 => by
          rw [hO]; exact hbest j hj8 (counts_iff.2 ⟨x1, by rw [← hN]; exact x2⟩)
        have shP := shr_u64 P j (by omega)
        have shN := shr_u64 N j (by omega)
        have lP : P / 2 ^ j < 256 := Nat.lt_of_le_of_lt (Nat.div_le_self _ _) hpl
        have lN : N / 2 ^ j < 256 := Nat.lt_of_le_of_lt (Nat.div_le_self _ _) hen
        have aP := and1_u64 (P / 2 ^ j) (by omega)
        have aN := and1_u64 (N / 2 ^ j) (by omega)
        generalize P / 2 ^ j = y1 at *
        generalize N / 2 ^ j = y2 at *
        generalize hz1 : y1 % 2 = z1 at *
        generalize hz2 : y2 % 2 = z2 at *
        have z0 : ¬ (0 : Int) = 1 := by omega
        cases hpe : s.pe j with
        | false =>
          rw [hpe, if_neg (by simp)] at bP
          subst bP
          simp -dsimp (disch := omega) [t0, t3, t4, t5, t6, t7, t8, t9, t11, t13, t15, t17, t19, shP, shN, aP, aN, hb8, -abin_and]
          exact ⟨⟨q8, by omega, j + 1, by omega, by simp⟩, by simp [ivN]; omega⟩
        | true =>
          rw [hpe, if_pos rfl] at bP
          subst bP
          have z1 : ((1 : Nat) : Int) = 1 := rfl
          rcases (by omega : z2 = 0 ∨ z2 = 1) with rfl | rfl
          · simp -dsimp (disch := omega) [t0, t3, t4, t5, t6, t7, t8, t9, t11, t13, t15, t17, t19, shP, shN, aP, aN, hb8, -abin_and]
            exact ⟨⟨q8, by omega, j + 1, by omega, by simp⟩, by simp [ivN]; omega⟩
          · obtain ⟨g1, g2⟩ := hcj hpe rfl
            rcases Nat.eq_zero_or_pos O with h0 | h0
            · subst h0
              simp -dsimp (disch := omega) [t0, t3, t4, t5, t6, t7, t8, t9, t11, t13, t15, t17, t19, shP, shN, aP, aN, hb8, -abin_and]
              exact ⟨⟨q8, by omega, j + 1, by omega, by simp⟩, by simp [ivN]; omega⟩
            · have h0i : (0 : Int) < O := by omega
              have hn0 : ¬ n = 0 := fun e => by
                rw [hM, e, hi.p0] at g1; omega
              have hn0i : ¬ (n : Int) = 0 := by omega
              have g3 : ¬ M < O := by omega
              have g3i : ¬ (M : Int) < O := by omega
              by_cases h1 : O = M
              · have g4 := g2 h1 h0
                have g5 : ¬ j < n := by omega
                have g5i : ¬ (j : Int) < n := by omega
                have h1i : (O : Int) = M := by omega
                subst h1
                simp -dsimp (disch := omega) [t0, t3, t4, t5, t6, t7, t8, t9, t11, t13, t15, t17, t19, shP, shN, aP, aN, hb8, h0, h0i, hn0, hn0i, g3, g3i, g5, g5i, h1i, -abin_and]
                exact ⟨⟨q8, by omega, j + 1, by omega, by simp⟩, by simp [ivN]; omega⟩
              · have h1i : ¬ (O : Int) = M := by omega
                simp -dsimp (disch := omega) [t0, t3, t4, t5, t6, t7, t8, t9, t11, t13, t15, t17, t19, shP, shN, aP, aN, hb8, h0, h0i, hn0, hn0i, g3, g3i, h1, h1i, -abin_and]
                exact ⟨⟨q8, by omega, j + 1, by omega, by simp⟩, by simp [ivN]; omega⟩
      · obtain rfl : j = 8 := by omega
        have t19' : t' 19 = .int .u64 8 := t19
        simp -dsimp (disch := omega) [t0, t3, t4, t5, t6, t7, t8, t9, t11, t13, t15, t17, t19']
        refine CondF_dec (fun hnz => ?_) (fun hnz => ?_)
        · have hnz' : n = 0 := by omega
          have e5 := hcz hnz'
          simp -dsimp (disch := omega)
          exact (hQ _ _ s5 sv fr hg (by rw [e5]; exact hi) q7 (by simp [t0]) (by simp [t3]) (by simp [t4]) (by simp [t5]) (by simp [t6]) (by simp [t7])).2
        · have hnz' : n ≠ 0 := by omega
          obtain ⟨k1, k2, k3, k4, k5, hi5⟩ := hcl hnz'
          obtain ⟨k6, k7, k8⟩ := hcp hnz'
          have b1 := boolC_at sv hbl
          have b2 := boolC_at fr hbl
          rw [k1] at b1
          rw [k2] at b2
          have q71 := q7.b1
          have q72 := q7.b2
          have q73 := q7.b3
          have dlt : P &&& N < 256 := Nat.lt_of_le_of_lt Nat.and_le_right hen
          have a1 := and_n P N (P &&& N) (by omega) (by omega) rfl
          have sh := shr_u64 (P &&& N) n (by omega)
          have bit : (P &&& N) / 2 ^ n % 2 = 1 := by
            have e1 : P / 2 ^ n % 2 = 1 := by rw [hP, pend_bit s hbl, if_pos k4]
            have e2 : N / 2 ^ n % 2 = 1 := by rw [hN]; exact k5
            have e3 : P.testBit n = true := by rw [Nat.testBit_eq_decide_div_mod_eq, e1]; rfl
            have e4 : N.testBit n = true := by rw [Nat.testBit_eq_decide_div_mod_eq, e2]; rfl
            have e5 : (P &&& N).testBit n = true := by rw [Nat.testBit_and, e3, e4]; rfl
            rw [Nat.testBit_eq_decide_div_mod_eq] at e5
            exact of_decide_eq_true e5
          generalize P &&& N = D at *
          have lD : D / 2 ^ n < 256 := Nat.lt_of_le_of_lt (Nat.div_le_self _ _) dlt
          have a2 := and1_u64 (D / 2 ^ n) (by omega)
          rw [bit] at a2
          generalize D / 2 ^ n = D2 at *
          have k3i : ¬ (M : Int) = 0 := by omega
          have k3n : ¬ M = 0 := by omega
          have st1 := boolC_set sv hbl true
          have st2 := boolC_set fr hbl (hg n)
          have b3 := boolC_at hg hbl
          simp -dsimp (disch := omega) [t0, t3, t4, t5, t6, t7, t8, t9, t11, t13, t15, t17, q71, q72, q73, b1, b2, b3, st1, st2, hb7, a1, sh, a2, k3i, k3n, er2, -abin_and]
          have q9 := (q7.set1 (sv' := upd1 sv n true)).set2 (fr' := upd1 fr n (hg n))
          cases x with
          | false =>
            simp -dsimp (disch := omega)
            exact (hQ _ _ s5 _ _ hg hi5 q9 (by simp [t0]) (by simp [t3]) (by simp [t4]) (by simp [t5]) (by simp [t6]) (by simp [t7])).1
          | true =>
            simp -dsimp (disch := omega) [t3, t9, t15, er2]
            refine write_call (off := r2) (v := n) q9.bp hok5 (by simp; omega) (by omega) (by omega) (fun e => by rw [mayN_t (by omega) (by omega)] at e; cases e) (fun _ h10 u1 u10 u3 => ?_)
            have ew : writeS s5 r2 n = completeS s5 c n := by rw [hr2, writeS_claim hc2, Nat.mod_eq_of_lt (by omega)]
            rw [ew] at u3
            have q10 := q9.call u1 u10 u3
            simp only [Hp.next_set] at u10
            clear u1 u3 q9
            obtain ⟨c1, c2⟩ := hi5.complete (c := c) hbl k6 (by rw [k7]; exact k5) (upd1_same _ _ _)
            have q10b := q10.b1
            have st3 := boolC_set (upd1 sv n true) hbl false
            have q11 := q10.set1 (sv' := upd1 (upd1 sv n true) n false)
            simp -dsimp (disch := omega) [t3, t4, t15, q10b, st3]
            have bP := pend_bit (completeS s5 c n) hbl
            rw [c1] at bP
            have lP := pendK_lt (completeS s5 c n) 8
            obtain ⟨P2, hP2⟩ : ∃ P, P = pendK (completeS s5 c n) 8 := ⟨_, rfl⟩
            rw [← hP2] at bP lP
            refine read_at (off := 4096) (v := P2) (s' := completeS s5 c n) q11.bp c2.ok (by simp; omega) (by omega) (by omega) (by rw [hP2]; exact readS_pend) (fun h12 v1 v12 v3 => ?_)
            have q12 := q11.call v1 v12 v3
            simp only [Hp.next_set] at v12
            clear v1 v3 q11 q10
            have q12b := q12.b3
            have shP := shr_u64 P2 n (by omega)
            have lP2 : P2 / 2 ^ n < 256 := Nat.lt_of_le_of_lt (Nat.div_le_self _ _) lP
            have aP := and1_u64 (P2 / 2 ^ n) (by omega)
            generalize P2 / 2 ^ n = y1 at *
            generalize hz1 : y1 % 2 = z1 at *
            cases hgn : hg n with
            | false =>
              rw [hgn] at b3 bP
              rw [if_neg (by simp)] at bP
              subst bP
              simp -dsimp (disch := omega) [t3, t6, t15, shP, aP, q12b, b3, -abin_and]
              exact (hQ _ _ _ _ _ hg c2 q12 (by simp [t0]) (by simp [t3]) (by simp [t4]) (by simp [t5]) (by simp [t6]) (by simp [t7])).1
            | true =>
              rw [hgn] at b3 bP
              rw [if_pos rfl] at bP
              subst bP
              simp -dsimp (disch := omega) [t3, t6, t15, shP, aP, q12b, b3, -abin_and]
              exact (hQ _ _ _ _ _ hg c2 q12 (by simp [t0]) (by simp [t3]) (by simp [t4]) (by simp [t5]) (by simp [t6]) (by simp [t7])).1
end Go.Proofs.Ytfdhahnnhaeibaa
