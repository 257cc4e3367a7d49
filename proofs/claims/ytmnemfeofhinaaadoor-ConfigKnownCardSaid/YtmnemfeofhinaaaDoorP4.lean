/-
  What Build gives, Parse takes, and the other way about; texts that are cut, or spoilt: lists, the whole.
-/
import Derived.Test.YtmnemfeofhinaaaDoorP3
set_option linter.unusedSimpArgs false
set_option linter.unusedVariables false
set_option linter.unusedSectionVars false
namespace Go.Proofs.YtmnemfeofhinaaaDoor
set_option maxRecDepth 100000
open Go Go.Mini

section
variable {α : Type} {enc : α → List UInt8} {ok : α → Prop} {one : List UInt8 → Nat → Option (α × Nat)} {each all : ByteArray}
theorem dL_dec (E : EncOk enc ok one) {S : List UInt8} : ∀ {l : List α} {i a : Nat} {Q : List UInt8}, (∀ x ∈ l, ok x) → S.drop a = l.flatMap enc ++ Q → dL (one S) each l.length i a = .inr (l, a + (l.flatMap enc).length)
  | [], i, a, Q, _, _ => by simp [dL]
  | x :: l, i, a, Q, hok, h => by
    rw [List.flatMap_cons, List.append_assoc] at h
    rw [List.length_cons, dL_succ, E.dec S a x _ (hok x (by simp)) h]
    dsimp only
    rw [dL_dec E (fun y hy => hok y (by simp [hy])) (drop_on h rfl)]
    simp only [List.flatMap_cons, List.length_append, Nat.add_assoc]
theorem dLn_dec (E : EncOk enc ok one) {S : List UInt8} {l : List α} {a : Nat} {Q : List UInt8} (hok : ∀ x ∈ l, ok x) (hl : l.length < 256) (h : S.drop a = lEn enc l ++ Q) : dLn S (one S) all each a = .inr (l, a + (lEn enc l).length) := by
  unfold lEn at h
  have hS := len_on h (by rw [List.length_append, digs_length]; omega)
  rw [List.length_append, digs_length] at hS
  unfold dLn
  rw [if_neg (by omega)]
  rw [List.append_assoc] at h
  rw [nAt_hd h (by rw [digs_length]), numN_digs (by rw [pow1]; exact hl), dL_dec E hok (drop_on h (by rw [digs_length]))]
  unfold lEn
  rw [List.length_append, digs_length, Nat.add_assoc]
theorem dL_inv (E : EncOk enc ok one) {S : List UInt8} : ∀ {n i a : Nat} {l : List α} {e : Nat}, a ≤ S.length → dL (one S) each n i a = .inr (l, e) → l.length = n ∧ e = a + (l.flatMap enc).length ∧ e ≤ S.length ∧ S.drop a = l.flatMap enc ++ S.drop e ∧ ∀ x ∈ l, ok x
  | 0, i, a, l, e, ha, h => by
    cases h
    exact ⟨rfl, rfl, ha, rfl, fun x hx => by cases hx⟩
  | n + 1, i, a, l, e, ha, h => by
    rw [dL_succ] at h
    cases h1 : one S a with
    | none => rw [h1] at h; cases h
    | some p =>
      obtain ⟨x, b⟩ := p
      rw [h1] at h
      dsimp only at h
      obtain ⟨q1, q2, q3, q4⟩ := E.inv _ _ _ _ h1
      cases h2 : dL (one S) each n (i + 1) b with
      | inl z => rw [h2] at h; cases h
      | inr q =>
        obtain ⟨l', e'⟩ := q
        rw [h2] at h
        cases h
        obtain ⟨w1, w2, w3, w4, w5⟩ := dL_inv E q2 h2
        refine ⟨by rw [List.length_cons, w1], ?_, w3, ?_, fun y hy => ?_⟩
        · rw [List.flatMap_cons, List.length_append, w2, q1, Nat.add_assoc]
        · rw [List.flatMap_cons, List.append_assoc, ← w4, q3]
        · rcases List.mem_cons.1 hy with rfl | hy
          · exact q4
          · exact w5 y hy
theorem dLn_inv (E : EncOk enc ok one) {S : List UInt8} {a : Nat} {l : List α} {e : Nat} (h : dLn S (one S) all each a = .inr (l, e)) : l.length < 256 ∧ e = a + (lEn enc l).length ∧ e ≤ S.length ∧ S.drop a = lEn enc l ++ S.drop e ∧ ∀ x ∈ l, ok x := by
  unfold dLn at h
  split at h
  · cases h
  · rename_i hn
    obtain ⟨w1, w2, w3, w4, w5⟩ := dL_inv E (by omega) h
    have e1 : (S.drop a).take 1 = digs (nAt S a 1) 1 := (nAt_digs (by omega)).symm
    have e2 := split_on e1
    refine ⟨by rw [w1]; exact nAt1_lt _ _, ?_, w3, ?_, w5⟩
    · unfold lEn
      rw [List.length_append, digs_length, w2]
      omega
    · unfold lEn
      rw [e2, w4, w1, List.append_assoc]
theorem take_on {S A Q : List UInt8} {a k : Nat} (h : S.drop a = A ++ Q) (hk : a + A.length ≤ k) : ∃ Q', (S.take k).drop a = A ++ Q' := by
  rw [List.drop_take, h, List.take_append, List.take_of_length_le (by omega)]
  exact ⟨_, rfl⟩
theorem one_keep (E : EncOk enc ok one) {S : List UInt8} {a b k : Nat} {x : α} (h : one S a = some (x, b)) (hk : b ≤ k) : one (S.take k) a = some (x, b) := by
  obtain ⟨q1, _, q3, q4⟩ := E.inv _ _ _ _ h
  obtain ⟨Q', hQ⟩ := take_on q3 (k := k) (by omega)
  rw [E.dec _ _ _ _ q4 hQ, q1]
theorem dL_cut (E : EncOk enc ok one) {S : List UInt8} {k : Nat} : ∀ {n i a : Nat} {l : List α} {e : Nat}, dL (one S) each n i a = .inr (l, e) → a ≤ k → k < e → ∃ z, dL (one (S.take k)) each n i a = .inl z ∧ z.2.2 = 4
  | 0, i, a, l, e, h, ha, hk => by
    cases h
    omega
  | n + 1, i, a, l, e, h, ha, hk => by
    rw [dL_succ] at h ⊢
    cases h1 : one S a with
    | none => rw [h1] at h; cases h
    | some p =>
      obtain ⟨x, b⟩ := p
      rw [h1] at h
      dsimp only at h
      by_cases hb : k < b
      · rw [E.cut _ _ _ _ _ h1 hb]
        exact ⟨_, rfl, rfl⟩
      · rw [one_keep E h1 (by omega)]
        dsimp only
        cases h2 : dL (one S) each n (i + 1) b with
        | inl z => rw [h2] at h; cases h
        | inr q =>
          obtain ⟨l', e'⟩ := q
          rw [h2] at h
          cases h
          obtain ⟨z, w1, w2⟩ := dL_cut E h2 (by omega) hk
          rw [w1]
          exact ⟨z, rfl, w2⟩
theorem dLn_cut (E : EncOk enc ok one) {S : List UInt8} {k a : Nat} {l : List α} {e : Nat} (h : dLn S (one S) all each a = .inr (l, e)) (hk : k < e) : ∃ z, dLn (S.take k) (one (S.take k)) all each a = .inl z ∧ z.2.2 = 4 := by
  unfold dLn at h ⊢
  split at h
  · cases h
  · by_cases c : k < a + 1
    · rw [if_pos (by rw [List.length_take]; omega)]
      exact ⟨_, rfl, rfl⟩
    · rw [if_neg (by rw [List.length_take]; omega), nAt_take (by omega)]
      exact dL_cut E h (by omega) hk
theorem dLn_keep (E : EncOk enc ok one) {S : List UInt8} {k a : Nat} {l : List α} {e : Nat} (h : dLn S (one S) all each a = .inr (l, e)) (hk : e ≤ k) : dLn (S.take k) (one (S.take k)) all each a = .inr (l, e) := by
  obtain ⟨w1, w2, w3, w4, w5⟩ := dLn_inv E h
  obtain ⟨Q', hQ⟩ := take_on w4 (k := k) (by omega)
  rw [dLn_dec E w5 w1 hQ, w2]
end

/-! ### The whole -/
theorem sumL_lt (l : List UInt8) : 0 ≤ sumL l ∧ sumL l < 4294967296 := sumL_range l 1 (by omega)
theorem bldB_sum (gs : List Gu) (ws : List Win) (cs : List Ch) : bldB gs ws cs = bodyB gs ws cs ++ digs ((sumL (bodyB gs ws cs)).toNat : Nat) 4 := by
  unfold bldB
  have := (sumL_lt (bodyB gs ws cs)).1
  rw [show (((sumL (bodyB gs ws cs)).toNat : Nat) : Int) = sumL (bodyB gs ws cs) from Int.toNat_of_nonneg this]
theorem docP_dec {gs : List Gu} {ws : List Win} {cs : List Ch} (hg : ∀ g ∈ gs, g.ok) (hw : ∀ w ∈ ws, w.ok) (hc : ∀ c ∈ cs, c.ok ∧ c.to.length < 256) (lg : gs.length < 256) (lw : ws.length < 256) (lc : cs.length < 256) (hk : chkC gs ws cs = none) : docP (bldB gs ws cs) = .inr (gs, ws, cs) := by
  obtain ⟨D, hD⟩ : ∃ D, D = digs ((sumL (bodyB gs ws cs)).toNat : Nat) 4 := ⟨_, rfl⟩
  have hDl : D.length = 4 := by rw [hD, digs_length]
  have hS : bldB gs ws cs = bodyB gs ws cs ++ D := by rw [hD, bldB_sum]
  obtain ⟨S, hSe⟩ : ∃ S, S = bldB gs ws cs := ⟨_, rfl⟩
  rw [← hSe] at hS ⊢
  have hS2 : S = magicL ++ (lEn gEn gs ++ (lEn wEn ws ++ (lEn cEn cs ++ D))) := by rw [hS, bodyB_eq]; simp only [List.append_assoc]
  have m4 : magicL.length = 4 := rfl
  have d4 : S.drop 4 = lEn gEn gs ++ (lEn wEn ws ++ (lEn cEn cs ++ D)) := by rw [hS2, ← m4, List.drop_left]
  have d1 := drop_on d4 rfl
  have d2 := drop_on d1 rfl
  have d3 := drop_on d2 rfl
  obtain ⟨e, he⟩ : ∃ e, e = 4 + (lEn gEn gs).length + (lEn wEn ws).length + (lEn cEn cs).length := ⟨_, rfl⟩
  rw [← he] at d3
  have hSl : S.length = e + 4 := by rw [hS2, he]; simp only [List.length_append, hDl, m4]; omega
  have hbl : (bodyB gs ws cs).length = e := by rw [hS, List.length_append, hDl] at hSl; omega
  have ht : S.take e = bodyB gs ws cs := by rw [hS, ← hbl, List.take_left]
  have hm : S.take 4 = magicL := by rw [hS2, ← m4, List.take_left]
  unfold docP
  rw [if_neg (by omega), if_neg (by simp [hm]), dLn_dec encG hg lg d4]
  dsimp only
  rw [dLn_dec encW hw lw d1]
  dsimp only
  rw [dLn_dec encC hc lc d2, ← he]
  dsimp only
  unfold docE
  rw [if_neg (by omega), ht]
  have hn : nAt S e 4 = (sumL (bodyB gs ws cs)).toNat := by
    rw [show D = D ++ [] by simp] at d3
    rw [nAt_hd d3 hDl.symm, hD]
    exact numN_digs (by rw [pow4]; have := sumL_lt (bodyB gs ws cs); omega)
  rw [if_neg (by simp [hn]), if_neg (by omega), hk]
theorem docP_inv {S : List UInt8} {gs : List Gu} {ws : List Win} {cs : List Ch} (h : docP S = .inr (gs, ws, cs)) : S = bldB gs ws cs ∧ chkC gs ws cs = none ∧ (∀ g ∈ gs, g.ok) ∧ (∀ w ∈ ws, w.ok) ∧ (∀ c ∈ cs, c.ok ∧ c.to.length < 256) ∧ gs.length < 256 ∧ ws.length < 256 ∧ cs.length < 256 := by
  unfold docP at h
  split at h
  · cases h
  · rename_i h4
    split at h
    · cases h
    · rename_i hm
      split at h
      · cases h
      · rename_i gs' a ha
        split at h
        · cases h
        · rename_i ws' b hb
          split at h
          · cases h
          · rename_i cs' e he
            unfold docE at h
            split at h
            · cases h
            · rename_i c1
              split at h
              · cases h
              · rename_i c2
                split at h
                · cases h
                · rename_i c3
                  split at h
                  · cases h
                  · rename_i hk
                    cases h
                    obtain ⟨g1, g2, g3, g4, g5⟩ := dLn_inv encG ha
                    obtain ⟨w1, w2, w3, w4, w5⟩ := dLn_inv encW hb
                    obtain ⟨k1, k2, k3, k4, k5⟩ := dLn_inv encC he
                    refine ⟨?_, hk, g5, w5, k5, g1, w1, k1⟩
                    have hm' : S.take 4 = magicL := by simpa using hm
                    have hS : S = magicL ++ (lEn gEn gs ++ (lEn wEn ws ++ (lEn cEn cs ++ S.drop e))) := by
                      rw [← k4, ← w4, ← g4, ← hm', List.take_append_drop]
                    have hS2 : S = bodyB gs ws cs ++ S.drop e := by
                      rw [bodyB_eq]
                      simp only [List.append_assoc]
                      exact hS
                    have ht : S.take e = bodyB gs ws cs := by
                      have h1 : S.take e ++ S.drop e = bodyB gs ws cs ++ S.drop e := by rw [List.take_append_drop]; exact hS2
                      exact List.append_cancel_right h1
                    have hd : S.drop e = digs (nAt S e 4) 4 := by
                      rw [nAt_digs (by omega), List.take_of_length_le (by rw [List.length_drop]; omega)]
                    rw [bldB_sum, ← ht, ← Classical.not_not.1 c2, ← hd, List.take_append_drop]
theorem docP_cut {S : List UInt8} {gs : List Gu} {ws : List Win} {cs : List Ch} {k : Nat} (h : docP S = .inr (gs, ws, cs)) (hk : k < S.length) : ∃ z, docP (S.take k) = .inl z ∧ z.2.2 = 4 := by
  unfold docP at h ⊢
  split at h
  · cases h
  · rename_i h4
    split at h
    · cases h
    · rename_i hm
      by_cases c4 : k < 4
      · rw [if_pos (by rw [List.length_take]; omega)]
        exact ⟨_, rfl, rfl⟩
      rw [if_neg (by rw [List.length_take]; omega), List.take_take, Nat.min_eq_left (by omega), if_neg hm]
      split at h
      · cases h
      · rename_i gs' a ha
        by_cases ca : k < a
        · obtain ⟨z, w1, w2⟩ := dLn_cut encG ha ca
          rw [w1]
          exact ⟨z, rfl, w2⟩
        rw [dLn_keep encG ha (by omega)]
        dsimp only
        split at h
        · cases h
        · rename_i ws' b hb
          by_cases cb : k < b
          · obtain ⟨z, w1, w2⟩ := dLn_cut encW hb cb
            rw [w1]
            exact ⟨z, rfl, w2⟩
          rw [dLn_keep encW hb (by omega)]
          dsimp only
          split at h
          · cases h
          · rename_i cs' e he
            by_cases ce : k < e
            · obtain ⟨z, w1, w2⟩ := dLn_cut encC he ce
              rw [w1]
              exact ⟨z, rfl, w2⟩
            rw [dLn_keep encC he (by omega)]
            dsimp only
            unfold docE at h ⊢
            split at h
            · cases h
            · rename_i c1
              split at h
              · cases h
              · split at h
                · cases h
                · rename_i c3
                  rw [if_pos (by rw [List.length_take]; omega)]
                  exact ⟨_, rfl, rfl⟩
theorem spoilt {gs gs' : List Gu} {ws ws' : List Win} {cs cs' : List Ch} {A B : List UInt8} {c c' : UInt8} (h : bldB gs ws cs = A ++ c :: B) (h' : bldB gs' ws' cs' = A ++ c' :: B) : c = c' := by
  have n1 := congrArg List.length h
  have n2 := congrArg List.length h'
  rw [bldB_sum] at h h' n1 n2
  obtain ⟨X, hX⟩ : ∃ X, X = bodyB gs ws cs := ⟨_, rfl⟩
  obtain ⟨Y, hY⟩ : ∃ Y, Y = bodyB gs' ws' cs' := ⟨_, rfl⟩
  rw [← hX] at h n1
  rw [← hY] at h' n2
  simp only [List.length_append, digs_length, List.length_cons] at n1 n2
  by_cases d : A.length < X.length
  · have e : A ++ c :: B = (A ++ [c] ++ B.take (B.length - 4)) ++ B.drop (B.length - 4) := by simp
    have e' : A ++ c' :: B = (A ++ [c'] ++ B.take (B.length - 4)) ++ B.drop (B.length - 4) := by simp
    rw [e] at h
    rw [e'] at h'
    have l1 : (B.take (B.length - 4)).length = B.length - 4 := by rw [List.length_take]; omega
    obtain ⟨p1, p2⟩ := List.append_inj h (by simp only [List.length_append, List.length_cons, List.length_nil, l1]; omega)
    obtain ⟨q1, q2⟩ := List.append_inj h' (by simp only [List.length_append, List.length_cons, List.length_nil, l1]; omega)
    have hs := sumL_lt X
    have hs' := sumL_lt Y
    have e4 := congrArg numL (p2.trans q2.symm)
    rw [numL_digs, numL_digs, Nat.mod_eq_of_lt (by rw [pow4]; omega), Nat.mod_eq_of_lt (by rw [pow4]; omega)] at e4
    have e5 : sumL X = sumL Y := by omega
    rw [p1, q1] at e5
    refine Classical.byContradiction fun hc => sum_apart A (B.take (B.length - 4)) c c' hc e5
  · have e : A = X ++ A.drop X.length := by
      have := congrArg (List.take X.length) h
      rw [List.take_left, List.take_append_of_le_length (by omega)] at this
      exact (List.take_append_drop _ A).symm.trans (congrArg (· ++ A.drop _) this.symm)
    have e' : A = Y ++ A.drop Y.length := by
      have := congrArg (List.take Y.length) h'
      rw [List.take_left, List.take_append_of_le_length (by omega)] at this
      exact (List.take_append_drop _ A).symm.trans (congrArg (· ++ A.drop _) this.symm)
    have hxy : X = Y := by
      have h1 : X ++ A.drop X.length = Y ++ A.drop Y.length := e.symm.trans e'
      exact (List.append_inj h1 (by omega)).1
    rw [hxy] at h
    have h2 := h.symm.trans h'
    simpa using List.append_cancel_left h2
end Go.Proofs.YtmnemfeofhinaaaDoor
