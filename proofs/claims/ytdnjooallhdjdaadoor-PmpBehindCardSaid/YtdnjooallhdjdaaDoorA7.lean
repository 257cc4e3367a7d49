/-
  First and Check.
-/
import Derived.Test.YtdnjooallhdjdaaDoorA6
set_option linter.unusedSimpArgs false
set_option linter.unusedVariables false
namespace Go.Proofs.YtdnjooallhdjdaaDoor
open Go Go.Mini Go.Proofs.Tryd

def fits (at_ : Nat) (w : Int) : Bool := decide (at_ + (wid w - 1) < 18446744073709551616)
def lastOf (at_ : Nat) (w : Int) : Nat := if fits at_ w = true then at_ + (wid w - 1) else 18446744073709551615
def accV (m k at_ : Nat) (w : Int) : Value := .agg #[.int .u8 m, .int .u8 k, .int .u64 at_, .int .i64 w]
def wholeF (c : Nat) (A : Nat → Nat) (at_ : Nat) (w : Int) : Bool :=
  decide (0 ≤ fI c A at_ (lastOf at_ w)) && (fits at_ w && (decide (eF c A (fI c A at_ (lastOf at_ w)) ≤ at_) && decide (lastOf at_ w ≤ eL c A (fI c A at_ (lastOf at_ w)))))

theorem first_call {c : Nat} {A : Nat → Nat} {m k at_ : Nat} {w : Int} {h : Hp} {K : Value → Hp → Prop} (hr : Regs h c A) (ha : at_ < 18446744073709551616) (hw : w ≤ 9223372036854775807)
    (hK : K (.tuple #[.int .i64 (fI c A at_ (lastOf at_ w)), .bool (wholeF c A at_ w)]) h) : ACall prog 14 [.int .u64 c, .agg (adr A), accV m k at_ w] h K := by
  unfold accV
  refine acallF_of tb0 func14 rfl rfl mixed (by kernel_rfl) fun hwf => ?_
  have a1 := adr_size A
  have a2 := adr_one A
  have a3 := adr_row A
  have hn : 100 < h.next := hwf.lt _ _ hr.tab
  unfold wholeF at hK
  simp -dsimp (disch := omega) [a2, a3]
  refine span_call ha hw ?_
  by_cases hf : at_ + (wid w - 1) < 18446744073709551616
  · have hfd : fits at_ w = true := by unfold fits; simpa using hf
    have hl : lastOf at_ w = at_ + (wid w - 1) := by unfold lastOf; rw [if_pos hfd]
    rw [decide_eq_true hf, Nat.mod_eq_of_lt hf, ← hl]
    rw [hfd] at hK
    simp -dsimp (disch := omega) [a2, a3]
    refine find_call ⟨by simp (disch := omega) [hr.tab], hr.cfg, hr.adr⟩ ?_
    generalize hI : fI c A at_ (lastOf at_ w) = I at *
    generalize lastOf at_ w = L at *
    by_cases h0 : 0 ≤ I
    · rw [decide_eq_true h0] at hK ⊢
      simp -dsimp (disch := omega) [a2, a3, entA]
      refine within_call ?_
      simp -dsimp (disch := omega) [a2, a3, entA]
      exact RetF.same hwf (by simp) (Nat.zero_le _) (fun i hi => by simp (disch := omega)) hK
    · rw [decide_eq_false h0] at hK ⊢
      simp -dsimp (disch := omega) [a2, a3, entA]
      exact RetF.same hwf (by simp) (Nat.zero_le _) (fun i hi => by simp (disch := omega)) hK
  · have hfd : fits at_ w = false := by unfold fits; simpa using hf
    have hl : lastOf at_ w = 18446744073709551615 := by unfold lastOf; rw [if_neg (by rw [hfd]; simp)]
    rw [decide_eq_false hf]
    rw [hfd] at hK
    simp -dsimp (disch := omega) [a2, a3]
    refine find_call (b := 18446744073709551615) ⟨by simp (disch := omega) [hr.tab], hr.cfg, hr.adr⟩ ?_
    rw [hl] at hK
    generalize hI : fI c A at_ 18446744073709551615 = I at *
    by_cases h0 : 0 ≤ I
    · rw [decide_eq_true h0] at hK ⊢
      simp -dsimp (disch := omega) [a2, a3, entA]
      exact RetF.same hwf (by simp) (Nat.zero_le _) (fun i hi => by simp (disch := omega)) hK
    · rw [decide_eq_false h0] at hK ⊢
      simp -dsimp (disch := omega) [a2, a3, entA]
      exact RetF.same hwf (by simp) (Nat.zero_le _) (fun i hi => by simp (disch := omega)) hK

/-- What a kind needs. -/
def need (k : Nat) : Nat := if k = 0 then 4 else if k = 1 then 1 else 2
def chk (c : Nat) (A : Nat → Nat) (m k at_ : Nat) (w : Int) : Bool :=
  if fits at_ w = true then
    (if fI c A at_ (lastOf at_ w) < 0 then decide (m = 3)
     else if wholeF c A at_ w = true then
       (if m = 3 ∧ eG c (fI c A at_ (lastOf at_ w)) &&& 128 = 0 then true else decide (k < 3) && decide (eG c (fI c A at_ (lastOf at_ w)) &&& need k ≠ 0))
     else false)
  else false

theorem and8 (x y : Nat) (hx : x < 256) (hy : y < 256) : IntKind.u8.wrap ↑(x % 2 ^ IntKind.u8.bits &&& y % 2 ^ IntKind.u8.bits) = (x &&& y : Nat) := by
  have h1 : x &&& y < 2 ^ 8 := Nat.and_lt_two_pow _ hy
  rw [bits8, Nat.mod_eq_of_lt (show x < 2 ^ 8 from hx), Nat.mod_eq_of_lt (show y < 2 ^ 8 from hy), wrap8]
  omega
theorem check_call {c : Nat} {A : Nat → Nat} {m k at_ : Nat} {w : Int} {h : Hp} {K : Value → Hp → Prop} (hr : Regs h c A) (ha : at_ < 18446744073709551616) (hw : w ≤ 9223372036854775807) (hk : k < 256)
    (hK : K (.bool (chk c A m k at_ w)) h) : ACall prog 16 [.int .u64 c, .agg (adr A), accV m k at_ w] h K := by
  have hfirst : ∀ {h : Hp} {K : Value → Hp → Prop}, Regs h c A → K (.tuple #[.int .i64 (fI c A at_ (lastOf at_ w)), .bool (wholeF c A at_ w)]) h → ACall prog 14 [.int .u64 c, .agg (adr A), .agg #[.int .u8 m, .int .u8 k, .int .u64 at_, .int .i64 w]] h K := fun hr hK => first_call hr ha hw hK
  unfold accV
  refine acallF_of tb0 func16 rfl rfl mixed (by kernel_rfl) fun hwf => ?_
  have a1 := adr_size A
  have a2 := adr_one A
  have a3 := adr_row A
  have hn : 100 < h.next := hwf.lt _ _ hr.tab
  unfold chk at hK
  simp -dsimp (disch := omega) [a2, a3]
  refine span_call ha hw ?_
  by_cases hf : at_ + (wid w - 1) < 18446744073709551616
  · have hfd : fits at_ w = true := by unfold fits; simpa using hf
    rw [decide_eq_true hf, Nat.mod_eq_of_lt hf]
    rw [if_pos hfd] at hK
    simp -dsimp (disch := omega) [a2, a3]
    refine hfirst ⟨by simp (disch := omega) [hr.tab], hr.cfg, hr.adr⟩ ?_
    generalize hI : fI c A at_ (lastOf at_ w) = I at *
    by_cases h0 : I < 0
    · rw [if_pos h0] at hK
      simp -dsimp (disch := omega) [a2, a3, h0]
      exact RetF.same hwf (by simp; try omega) (Nat.zero_le _) (fun i hi => by simp (disch := omega)) hK
    rw [if_neg h0] at hK
    simp -dsimp (disch := omega) [a2, a3, h0]
    refine of_call ⟨by simp (disch := omega) [hr.tab], hr.cfg, hr.adr⟩ ?_
    have hg := eG_lt c I
    cases hW : wholeF c A at_ w with
    | false =>
      rw [hW] at hK
      simp only [Bool.false_eq_true, if_false] at hK
      simp -dsimp (disch := omega) [a2, a3]
      exact RetF.same hwf (by simp; try omega) (Nat.zero_le _) (fun i hi => by simp (disch := omega)) hK
    | true =>
      rw [hW] at hK
      simp only [if_true] at hK
      by_cases hm : m = 3
      · by_cases hb : eG c I &&& 128 = 0
        · rw [if_pos ⟨hm, hb⟩] at hK
          have e1 := and8 (eG c I) 128 hg (by omega)
          rw [hb] at e1
          have hm' : ((m : Nat) : Int) = 3 := by omega
          simp -dsimp (disch := omega) [a2, a3, e1, hm', hm]
          exact RetF.same hwf (by simp; try omega) (Nat.zero_le _) (fun i hi => by simp (disch := omega)) hK
        · have e1 := and8 (eG c I) 128 hg (by omega)
          have hm' : ((m : Nat) : Int) = 3 := by omega
          have hb1 : ¬ ((eG c I &&& 128 : Nat) : Int) = 0 := by omega
          rw [if_neg (fun q => hb q.2)] at hK
          rcases (show k = 0 ∨ k = 1 ∨ k = 2 ∨ 3 ≤ k by omega) with rfl | rfl | rfl | hk3
          · have e2 := and8 (eG c I) 4 hg (by omega)
            rw [show need 0 = 4 from rfl] at hK
            simp -dsimp (disch := omega) [a2, a3, e1, hm', hm, hb1, hb, e2]
            exact RetF.same hwf (by simp; try omega) (Nat.zero_le _) (fun i hi => by simp (disch := omega)) hK
          · have e2 := and8 (eG c I) 1 hg (by omega)
            rw [show need 1 = 1 from rfl] at hK
            simp -dsimp (disch := omega) [a2, a3, e1, hm', hm, hb1, hb, e2]
            exact RetF.same hwf (by simp; rw [← decide_not]; exact decide_eq_decide.2 (by omega)) (Nat.zero_le _) (fun i hi => by simp (disch := omega)) hK
          · have e2 := and8 (eG c I) 2 hg (by omega)
            rw [show need 2 = 2 from rfl] at hK
            simp -dsimp (disch := omega) [a2, a3, e1, hm', hm, hb1, hb, e2]
            exact RetF.same hwf (by simp; try omega) (Nat.zero_le _) (fun i hi => by simp (disch := omega)) hK
          · have hk4 : ¬ ((k : Nat) : Int) < 3 := by omega
            rw [decide_eq_false (show ¬ k < 3 by omega)] at hK
            simp -dsimp (disch := omega) [a2, a3, e1, hm', hm, hb1, hb, hk4]
            exact RetF.same hwf (by simp; try omega) (Nat.zero_le _) (fun i hi => by simp (disch := omega)) hK
      · have hm' : ¬ ((m : Nat) : Int) = 3 := by omega
        rw [if_neg (fun q => hm q.1)] at hK
        rcases (show k = 0 ∨ k = 1 ∨ k = 2 ∨ 3 ≤ k by omega) with rfl | rfl | rfl | hk3
        · have e2 := and8 (eG c I) 4 hg (by omega)
          rw [show need 0 = 4 from rfl] at hK
          simp -dsimp (disch := omega) [a2, a3, hm', hm, e2]
          exact RetF.same hwf (by simp; try omega) (Nat.zero_le _) (fun i hi => by simp (disch := omega)) hK
        · have e2 := and8 (eG c I) 1 hg (by omega)
          rw [show need 1 = 1 from rfl] at hK
          simp -dsimp (disch := omega) [a2, a3, hm', hm, e2]
          exact RetF.same hwf (by simp; rw [← decide_not]; exact decide_eq_decide.2 (by omega)) (Nat.zero_le _) (fun i hi => by simp (disch := omega)) hK
        · have e2 := and8 (eG c I) 2 hg (by omega)
          rw [show need 2 = 2 from rfl] at hK
          simp -dsimp (disch := omega) [a2, a3, hm', hm, e2]
          exact RetF.same hwf (by simp; try omega) (Nat.zero_le _) (fun i hi => by simp (disch := omega)) hK
        · have hk4 : ¬ ((k : Nat) : Int) < 3 := by omega
          rw [decide_eq_false (show ¬ k < 3 by omega)] at hK
          simp -dsimp (disch := omega) [a2, a3, hm', hm, hk4]
          exact RetF.same hwf (by simp; try omega) (Nat.zero_le _) (fun i hi => by simp (disch := omega)) hK
  · have hfd : fits at_ w = false := by unfold fits; simpa using hf
    rw [decide_eq_false hf]
    rw [if_neg (by rw [hfd]; simp)] at hK
    simp -dsimp (disch := omega) [a2, a3]
    exact RetF.same hwf (by simp) (Nat.zero_le _) (fun i hi => by simp (disch := omega)) hK

end Go.Proofs.YtdnjooallhdjdaaDoor
