/-
  The first entry that is met.
-/
import Derived.Test.YtdnjooallhdjdaaDoorA5
set_option linter.unusedSimpArgs false
set_option linter.unusedVariables false
namespace Go.Proofs.YtdnjooallhdjdaaDoor
open Go Go.Mini Go.Proofs.Tryd

/-- The first of so many. -/
def fF (p : Nat → Bool) : Nat → Nat → Int
  | 0, _ => -1
  | m + 1, k => if p k = true then k else fF p m (k + 1)
theorem fF_hit (p : Nat → Bool) (i : Nat) (hp : p i = true) : ∀ m k, k ≤ i → i < k + m → (∀ j, k ≤ j → j < i → p j = false) → fF p m k = i := by
  intro m
  induction m with
  | zero => intro k h1 h2; omega
  | succ m ih =>
    intro k h1 h2 h3
    unfold fF
    by_cases hk : k = i
    · subst hk; rw [if_pos hp]
    · rw [if_neg (by rw [h3 k (Nat.le_refl _) (by omega)]; simp)]
      exact ih (k + 1) (by omega) (by omega) fun j hj => h3 j (by omega)
theorem fF_none (p : Nat → Bool) : ∀ m k, (∀ j, k ≤ j → j < k + m → p j = false) → fF p m k = -1 := by
  intro m
  induction m with
  | zero => intro k _; rfl
  | succ m ih =>
    intro k h3
    unfold fF
    rw [if_neg (by rw [h3 k (Nat.le_refl _) (by omega)]; simp)]
    exact ih (k + 1) fun j hj hj2 => h3 j (by omega) (by omega)
theorem fF_cases (p : Nat → Bool) : ∀ m k, (fF p m k = -1 ∧ ∀ j, k ≤ j → j < k + m → p j = false) ∨ ∃ i, k ≤ i ∧ i < k + m ∧ fF p m k = (i : Nat) ∧ p i = true ∧ ∀ j, k ≤ j → j < i → p j = false := by
  intro m
  induction m with
  | zero => intro k; exact .inl ⟨rfl, fun j h1 h2 => by omega⟩
  | succ m ih =>
    intro k
    unfold fF
    by_cases hk : p k = true
    · rw [if_pos hk]; exact .inr ⟨k, Nat.le_refl _, by omega, rfl, hk, fun j h1 h2 => by omega⟩
    · rw [if_neg hk]
      have hk' : p k = false := by simpa using hk
      rcases ih (k + 1) with ⟨h1, h2⟩ | ⟨i, h1, h2, h3, h4, h5⟩
      · refine .inl ⟨h1, fun j q1 q2 => ?_⟩
        by_cases hj : j = k
        · subst hj; exact hk'
        · exact h2 j (by omega) (by omega)
      · refine .inr ⟨i, by omega, by omega, h3, h4, fun j q1 q2 => ?_⟩
        by_cases hj : j = k
        · subst hj; exact hk'
        · exact h5 j (by omega) q2

def hit (c : Nat) (A : Nat → Nat) (a b : Nat) (i : Nat) : Bool := eB c A i && (decide (a ≤ eL c A i) && decide (eF c A i ≤ b))
def fI (c : Nat) (A : Nat → Nat) (a b : Nat) : Int := fF (hit c A a b) 8 0
theorem fI_cases (c : Nat) (A : Nat → Nat) (a b : Nat) : (fI c A a b = -1 ∧ ∀ j, j < 8 → hit c A a b j = false) ∨ ∃ i : Nat, i < 8 ∧ fI c A a b = i ∧ hit c A a b i = true ∧ ∀ j, j < i → hit c A a b j = false := by
  rcases fF_cases (hit c A a b) 8 0 with ⟨h1, h2⟩ | ⟨i, _, h2, h3, h4, h5⟩
  · exact .inl ⟨h1, fun j hj => h2 j (by omega) (by omega)⟩
  · exact .inr ⟨i, by omega, h3, h4, fun j hj => h5 j (by omega) hj⟩
theorem fI_hit {c : Nat} {A : Nat → Nat} {a b i : Nat} (hi : i < 8) (hp : hit c A a b i = true) (hn : ∀ j, j < i → hit c A a b j = false) : fI c A a b = i := fF_hit _ i hp 8 0 (by omega) (by omega) fun j _ hj => hn j hj
theorem fI_none {c : Nat} {A : Nat → Nat} {a b : Nat} (hn : ∀ j, j < 8 → hit c A a b j = false) : fI c A a b = -1 := fF_none _ 8 0 fun j _ hj => hn j (by omega)
def entA (c : Nat) (A : Nat → Nat) (i : Int) : Array Value := #[.int .u64 (eF c A i), .int .u64 (eL c A i), .int .u8 (eG c i), .bool (eB c A i)]
theorem entA_out (c : Nat) (A : Nat → Nat) : entA c A (-1) = #[.int .u64 0, .int .u64 0, .int .u8 0, .bool false] := by
  simp [entA, eF, eL, eG, eB, entI]

theorem find_call {c : Nat} {A : Nat → Nat} {a b : Nat} {h : Hp} {K : Value → Hp → Prop} (hr : Regs h c A)
    (hK : K (.tuple #[.int .i64 (fI c A a b), .agg (entA c A (fI c A a b)), .bool (decide (0 ≤ fI c A a b))]) h) : ACall prog 19 [.int .u64 c, .agg (adr A), .agg #[.int .u64 a, .int .u64 b]] h K := by
  refine acallF_of tb0 func19 rfl rfl mixed (by kernel_rfl) fun hwf => ?_
  have a1 := adr_size A
  have a2 := adr_one A
  have a3 := adr_row A
  have hn : 100 < h.next := hwf.lt _ _ hr.tab
  simp -dsimp (disch := omega) [a2, a3]
  refine awp_loop (fun t h' => (∀ i, i < h.next → h'.blks i = h.blks i) ∧ h.next + 4 ≤ h'.next ∧ h'.blks h.next = some ⟨adr A, 1, true⟩ ∧ h'.blks (h.next + 1) = some ⟨#[.int .u64 a, .int .u64 b], 1, true⟩ ∧ h'.blks (h.next + 2) = some ⟨entA c A (-1), 1, true⟩ ∧ h'.blks (h.next + 3) = some ⟨entA c A (-1), 1, true⟩ ∧ ∃ k : Nat, k ≤ 8 ∧ (∀ j, j < k → hit c A a b j = false) ∧ t 0 = .int .u64 c ∧ t 4 = .pointer (some ⟨h.next, 0, none⟩) ∧ t 5 = .pointer (some ⟨h.next + 1, 0, none⟩) ∧ t 7 = .pointer (some ⟨h.next + 2, 0, none⟩) ∧ t 9 = .pointer (some ⟨h.next + 3, 0, none⟩) ∧ t 10 = .int .i64 (-1) ∧ t 13 = .int .i64 k) (fun t _ => 8 - ivN (t 13)) ?_ ?_
  · simp -dsimp (disch := omega)
    exact ⟨fun i hi => by simp (disch := omega), (entA_out c A).symm, 0, by omega, fun j hj => by omega, rfl⟩
  · rintro t h' ⟨hs, hn', hb0, hb1, hb2, hb3, k, hk, hno, g0, g4, g5, g7, g9, g10, g13⟩
    refine vcF_sound mixed (tb := tb0) _ (by kernel_rfl) ?_
    simp -dsimp (disch := omega) [g0, g4, g5, g7, g9, g10, g13]
    refine CondF_dec (fun hcc => ?_) (fun hcc => ?_)
    · have hk8 : k < 8 := by omega
      simp -dsimp (disch := omega) [g0, g4, g5, g7, g9, g10, g13, hb0, hb1, a2, a3]
      refine of_call ⟨by rw [hs _ hn]; exact hr.tab, hr.cfg, hr.adr⟩ ?_
      by_cases hB : eB c A k = true
      · simp -dsimp (disch := omega) [g0, g4, g5, g7, g9, g10, g13, hb0, hb1, a2, a3, hB]
        refine meets_call ?_
        by_cases hm : (decide (a ≤ eL c A k) && decide (eF c A k ≤ b)) = true
        · rw [hm]
          have hh : hit c A a b k = true := by unfold hit; rw [hB, hm]; rfl
          have hf := fI_hit hk8 hh hno
          rw [hf] at hK
          simp -dsimp (disch := omega) [g0, g4, g5, g7, g9, g10, g13, hb0, hb1, hb2, hb3, a2, a3, entA_out]
          exact RetF.same hwf (by simp (disch := omega) [entA, hB, g7]) (Nat.zero_le _) (fun i hi => by simp (disch := omega) [hs i hi]) hK
        · have hm' : (decide (a ≤ eL c A k) && decide (eF c A k ≤ b)) = false := by simpa using hm
          rw [hm']
          have hh : hit c A a b k = false := by unfold hit; rw [hm']; simp
          simp -dsimp (disch := omega) [g0, g4, g5, g7, g9, g10, g13, hb0, hb1, hb2, hb3, a2, a3]
          refine ⟨⟨fun i hi => by simp (disch := omega) [hs i hi], by omega, k + 1, by omega, fun j hj => ?_, by simp⟩, by simp [ivN]; omega⟩
          by_cases hjk : j = k
          · subst hjk; exact hh
          · exact hno j (by omega)
      · have hB' : eB c A k = false := by simpa using hB
        have hh : hit c A a b k = false := by unfold hit; rw [hB']; simp
        simp -dsimp (disch := omega) [g0, g4, g5, g7, g9, g10, g13, hb0, hb1, hb2, hb3, a2, a3, hB']
        refine ⟨⟨fun i hi => by simp (disch := omega) [hs i hi], by omega, k + 1, by omega, fun j hj => ?_, by simp⟩, by simp [ivN]; omega⟩
        by_cases hjk : j = k
        · subst hjk; exact hh
        · exact hno j (by omega)
    · have : k = 8 := by omega
      subst this
      rw [fI_none hno] at hK
      simp -dsimp (disch := omega) [g0, g4, g5, g7, g9, g10, g13, hb0, hb1, hb2, hb3, a2, a3, entA_out]
      exact RetF.same hwf (by simp (disch := omega) [entA_out, g7]) (Nat.zero_le _) (fun i hi => by simp (disch := omega) [hs i hi]) hK

end Go.Proofs.YtdnjooallhdjdaaDoor
