/-
  best: the source that counts most.
-/
import Derived.Test.YtfdhahnnhaeibaaDoorG1
set_option linter.unusedSimpArgs false
set_option linter.unusedVariables false
set_option linter.unusedSectionVars false
namespace Go.Proofs.YtfdhahnnhaeibaaDoor
open Go Go.Mini Go.Proofs.Tryd
set_option maxRecDepth 100000

theorem bv8_of (n : Nat) (hn : n < 256) : (BitVec.ofInt 8 (n : Int)).toNat = n := by
  rw [BitVec.toNat_ofInt]; omega
theorem and1_u8 (y : Nat) (hy : y < 256) (ty : TypeId) (xo yo : Operand) : abin prog .and ty xo yo (.int .u8 (y : Nat)) (.int .u8 1) = some (.int .u8 ((y % 2 : Nat) : Int)) := by
  rw [abin_and]
  have e : (BitVec.ofInt IntKind.u8.bits (y : Int) &&& BitVec.ofInt IntKind.u8.bits 1).toNat = y % 2 := by
    rw [BitVec.toNat_and, show IntKind.u8.bits = 8 from rfl, bv8_of y hy, show (BitVec.ofInt 8 1).toNat = 1 from rfl, Nat.and_one_is_mod]
  rw [e, IntWalk.u8_in _ (by omega)]
theorem shr_u8 (y k : Nat) (hk : k < 8) (ty : TypeId) (xo yo : Operand) : abin prog .shr ty xo yo (.int .u8 (y : Nat)) (.int .i64 (k : Nat)) = some (.int .u8 ((y / 2 ^ k : Nat) : Int)) := by
  have e : ((y : Int).fdiv (2 ^ (min ((k : Nat) : Int).toNat IntKind.u8.bits))) = ((y / 2 ^ k : Nat) : Int) := by
    rw [show min ((k : Nat) : Int).toNat IntKind.u8.bits = k from by show min ((k : Nat) : Int).toNat 8 = k; omega, Int.fdiv_eq_ediv_of_nonneg _ (Int.le_of_lt (Int.pow_pos (by omega))), Int.natCast_ediv, Int.natCast_pow]
    rfl
  have h1 := abin_shr (P := prog) (ty := ty) (xo := xo) (yo := yo) (k := .u8) (k' := .i64) (a := (y : Int)) (b := (k : Int)) (by omega)
  rw [e] at h1
  exact h1

/-- Does a source count for a context? -/
def counts (s : St) (c k : Nat) : Bool := s.pe k && decide (s.en c / 2 ^ k % 2 ≠ 0)
def bestK (s : St) (c : Nat) : Nat → Nat
  | 0 => 0
  | k + 1 => if counts s c k = true ∧ s.pr (bestK s c k) < s.pr k then k else bestK s c k
def bestS (s : St) (c : Nat) : Nat := bestK s c 8
theorem bestK_lt (s : St) (c : Nat) : ∀ k, bestK s c k = 0 ∨ bestK s c k < k := by
  intro k
  induction k with
  | zero => exact .inl rfl
  | succ k ih =>
    simp only [bestK]
    split
    · exact .inr (by omega)
    · rcases ih with h | h
      · exact .inl h
      · exact .inr (by omega)
/-- Numbers of a PLIC are bytes. -/
structure St.ok (s : St) : Prop where
  pr : ∀ n, s.pr n < 256
  en : ∀ c, s.en c < 256
  th : ∀ c, s.th c < 256
section
variable {h : Hp} {K : Value → Hp → Prop} {p : Nat} {s : St}
theorem src_cells (s : St) {k : Nat} (hk : k < 8) : ((stC s).extract 1 33).extract (k * 4) (k * 4 + 4) = #[.int .u8 (s.pr k), .bool (s.hi k), .bool (s.pe k), .bool (s.se k)] := by
  apply Array.ext_getElem?
  intro i
  rw [Array.getElem?_extract, Array.getElem?_extract]
  by_cases hi : i < 4
  · rw [if_pos (by simp; omega), if_pos (by simp; omega)]
    have e : i = 0 ∨ i = 1 ∨ i = 2 ∨ i = 3 := by omega
    rcases e with rfl | rfl | rfl | rfl
    · rw [show 1 + (k * 4 + 0) = 1 + k * 4 by omega, stC_pr s hk]; rfl
    · rw [show 1 + (k * 4 + 1) = 1 + k * 4 + 1 by omega, stC_hi s hk]; rfl
    · rw [show 1 + (k * 4 + 2) = 1 + k * 4 + 2 by omega, stC_pe s hk]; rfl
    · rw [show 1 + (k * 4 + 3) = 1 + k * 4 + 3 by omega, stC_se s hk]; rfl
  · rw [if_neg (by simp; omega)]
    symm
    simp
    omega
set_option maxHeartbeats 1000000 in
theorem best_call {c : Nat} (hb : h.blks p = some ⟨stC s, 1, true⟩) (hs : s.ok) (hc : c < 2) (hp : p < h.next) (hK : K (.int .i64 (bestS s c)) h) : ACall prog 27 [ptr p, .int .i64 c] h K := by
  refine acallF_of tb0 func27 rfl rfl mixed (by kernel_rfl) fun hwf => ?_
  obtain ⟨R, hR⟩ : ∃ R, R = (stC s).extract 1 33 := ⟨_, rfl⟩
  have hRs : R.size = 32 := by rw [hR]; simp
  simp -dsimp (disch := omega) [hb, ← hR]
  refine awp_loop (fun t h' => h.next ≤ h'.next ∧ (∀ i, i < h.next → h'.blks i = h.blks i) ∧ ∃ k : Nat, k ≤ 8 ∧ t 0 = ptr p ∧ t 1 = .int .i64 c ∧ t 4 = .int .i64 (bestK s c k) ∧ t 10 = .agg R ∧ t 11 = .int .i64 k) (fun t _ => 8 - ivN (t 11)) ?_ ?_
  · simp -dsimp (disch := omega)
    exact ⟨0, by omega, rfl, rfl⟩
  · rintro t h' ⟨hn, hsm, k, hk, t0, t1, t4, t10, t11⟩
    have hb' : h'.blks p = some ⟨stC s, 1, true⟩ := by rw [hsm _ hp]; exact hb
    refine vcF_sound mixed (tb := tb0) _ (by kernel_rfl) ?_
    simp -dsimp (disch := omega) [t11]
    refine CondF_dec (fun hc3 => ?_) (fun hc3 => ?_)
    · have hk8 : k < 8 := by omega
      have hsc := src_cells s hk8
      rw [← hR] at hsc
      have hbl := bestK_lt s c k
      have hb8 : bestK s c k < 8 := by omega
      have p1 := hs.pr k
      have p2 := hs.pr (bestK s c k)
      have p3 := hs.en c
      have en_ := stC_en s hc
      have pr_ := stC_pr s hb8
      have hbs : bestK s c (k + 1) = if counts s c k = true ∧ s.pr (bestK s c k) < s.pr k then k else bestK s c k := rfl
      generalize bestK s c k = n at *
      have a1 := shr_u8 (s.en c) k hk8
      have p4 : s.en c / 2 ^ k < 256 := Nat.lt_of_le_of_lt (Nat.div_le_self _ _) p3
      have a2 := and1_u8 (s.en c / 2 ^ k) p4
      unfold counts at hbs
      generalize s.en c / 2 ^ k = y at *
      have hkz : k * 4 + 4 ≤ 32 := by omega
      cases e1 : s.pe k with
      | false =>
        rw [e1, Bool.false_and, if_neg (by simp)] at hbs
        simp -dsimp (disch := omega) [t0, t1, t4, t10, t11, hsc, hRs, hkz, e1]
        exact ⟨⟨by omega, fun i hi => by rw [if_neg (by omega)]; exact hsm i hi, k + 1, by omega, by rw [hbs], by simp⟩, by simp [ivN]; omega⟩
      | true =>
        rw [e1, Bool.true_and] at hbs
        by_cases e2 : y % 2 = 0
        · rw [if_neg (by simp [e2])] at hbs
          have e2' : ((y % 2 : Nat) : Int) = 0 := by omega
          rw [e2'] at a2
          simp -dsimp (disch := omega) [t0, t1, t4, t10, t11, hsc, hRs, hkz, e1, hb', en_, a1, a2, -abin_shr, -abin_and]
          exact ⟨⟨by omega, fun i hi => by rw [if_neg (by omega)]; exact hsm i hi, k + 1, by omega, by rw [hbs], by simp⟩, by simp [ivN]; omega⟩
        · have e2' : ((y % 2 : Nat) : Int) = 1 := by omega
          rw [e2'] at a2
          by_cases e3 : s.pr n < s.pr k
          · have e3' : (s.pr n : Int) < s.pr k := by omega
            rw [if_pos ⟨by simp [e2], e3⟩] at hbs
            simp -dsimp (disch := omega) [t0, t1, t4, t10, t11, hsc, hRs, hkz, e1, hb', en_, pr_, a1, a2, e3, e3', -abin_shr, -abin_and]
            exact ⟨⟨by omega, fun i hi => by rw [if_neg (by omega)]; exact hsm i hi, k + 1, by omega, by rw [hbs], by simp⟩, by simp [ivN]; omega⟩
          · have e3' : ¬ (s.pr n : Int) < s.pr k := by omega
            rw [if_neg (fun hh => e3 hh.2)] at hbs
            simp -dsimp (disch := omega) [t0, t1, t4, t10, t11, hsc, hRs, hkz, e1, hb', en_, pr_, a1, a2, e3, e3', -abin_shr, -abin_and]
            exact ⟨⟨by omega, fun i hi => by rw [if_neg (by omega)]; exact hsm i hi, k + 1, by omega, by rw [hbs], by simp⟩, by simp [ivN]; omega⟩
    · have : k = 8 := by omega
      subst this
      simp -dsimp (disch := omega) [t4, t11]
      exact RetF.same hwf (by simp [t4]; rfl) (Nat.zero_le _) hsm hK
end
end Go.Proofs.YtfdhahnnhaeibaaDoor
