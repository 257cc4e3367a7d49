/-
  What is allowed is allowed byte by byte: the plain law.
-/
import Derived.Test.YtdnjooallhdjdaaDoorA8
set_option linter.unusedSimpArgs false
set_option linter.unusedVariables false
namespace Go.Proofs.YtdnjooallhdjdaaDoor
open Go Go.Mini Go.Proofs.Tryd

theorem eB_le {c : Nat} {A : Nat → Nat} {i : Int} (h : eB c A i = true) : eF c A i ≤ eL c A i := by
  unfold eB at h
  unfold eF eL
  cases he : entI c A i with
  | none => rw [he] at h; cases h
  | some p =>
    obtain ⟨f, l⟩ := p
    unfold entI at he
    split at he
    · have := ent_lt he; simp; omega
    · cases he
theorem hit_iff {c : Nat} {A : Nat → Nat} {a b i : Nat} : hit c A a b i = true ↔ eB c A i = true ∧ a ≤ eL c A i ∧ eF c A i ≤ b := by
  unfold hit
  simp
theorem hit_mono {c : Nat} {A : Nat → Nat} {a b p i : Nat} (h1 : a ≤ p) (h2 : p ≤ b) (h : hit c A p p i = true) : hit c A a b i = true := by
  rw [hit_iff] at *; exact ⟨h.1, by omega, by omega⟩
theorem hit_point {c : Nat} {A : Nat → Nat} {a b i : Nat} (hab : a ≤ b) (h : hit c A a b i = true) : ∃ p, a ≤ p ∧ p ≤ b ∧ hit c A p p i = true := by
  rw [hit_iff] at h
  have := eB_le h.1
  by_cases hp : a ≤ eF c A i
  · exact ⟨eF c A i, hp, h.2.2, by rw [hit_iff]; exact ⟨h.1, this, Nat.le_refl _⟩⟩
  · exact ⟨a, Nat.le_refl _, hab, by rw [hit_iff]; exact ⟨h.1, h.2.1, by omega⟩⟩
theorem not_hit {c : Nat} {A : Nat → Nat} {a b i : Nat} : hit c A a b i = false ↔ ¬ hit c A a b i = true := by simp

/-- What the entry's byte allows. -/
def allow (c m k : Nat) (I : Int) : Bool := if m = 3 ∧ eG c I &&& 128 = 0 then true else decide (k < 3) && decide (eG c I &&& need k ≠ 0)
theorem chk_none {c : Nat} {A : Nat → Nat} {m k at_ : Nat} {w : Int} (hf : at_ + (wid w - 1) < 18446744073709551616) (hI : fI c A at_ (at_ + (wid w - 1)) = -1) : chk c A m k at_ w = decide (m = 3) := by
  have hfd : fits at_ w = true := by unfold fits; simpa using hf
  have hl : lastOf at_ w = at_ + (wid w - 1) := by unfold lastOf; rw [if_pos hfd]
  unfold chk
  rw [if_pos hfd, hl, hI, if_pos (by omega)]
theorem chk_some {c : Nat} {A : Nat → Nat} {m k at_ i : Nat} {w : Int} (hf : at_ + (wid w - 1) < 18446744073709551616) (hI : fI c A at_ (at_ + (wid w - 1)) = i) :
    chk c A m k at_ w = ((decide (eF c A i ≤ at_) && decide (at_ + (wid w - 1) ≤ eL c A i)) && allow c m k i) := by
  have hfd : fits at_ w = true := by unfold fits; simpa using hf
  have hl : lastOf at_ w = at_ + (wid w - 1) := by unfold lastOf; rw [if_pos hfd]
  have hw : wholeF c A at_ w = (decide (eF c A i ≤ at_) && decide (at_ + (wid w - 1) ≤ eL c A i)) := by
    unfold wholeF
    rw [hl, hI, hfd, decide_eq_true (show (0 : Int) ≤ (i : Nat) by omega)]
    simp
  unfold chk
  rw [if_pos hfd, hl, hI, if_neg (by omega), hw]
  unfold allow
  cases (decide (eF c A i ≤ at_) && decide (at_ + (wid w - 1) ≤ eL c A i)) <;> simp
theorem wid_one : wid 1 = 1 := rfl
theorem wid_nat {N : Nat} (hN : 1 ≤ N) : wid N = N := by unfold wid; rw [if_neg (by omega)]; omega
theorem byte_none {c : Nat} {A : Nat → Nat} {m k p : Nat} (hp : p < 18446744073709551616) (hI : fI c A p p = -1) : chk c A m k p 1 = decide (m = 3) :=
  chk_none (by rw [wid_one]; omega) (by rw [wid_one]; exact hI)
theorem byte_some {c : Nat} {A : Nat → Nat} {m k p i : Nat} (hp : p < 18446744073709551616) (hI : fI c A p p = i) : chk c A m k p 1 = allow c m k i := by
  rw [chk_some (i := i) (by rw [wid_one]; omega) (by rw [wid_one]; exact hI), wid_one]
  rcases fI_cases c A p p with ⟨h1, _⟩ | ⟨i', _, h2, h3, _⟩
  · rw [hI] at h1; omega
  · rw [hI] at h2
    have : i' = i := by omega
    subst this
    rw [hit_iff] at h3
    rw [decide_eq_true h3.2.2, decide_eq_true (show p + (1 - 1) ≤ eL c A i' from h3.2.1)]
    rfl
theorem byte_whole {c : Nat} {A : Nat → Nat} {p : Nat} (hp : p < 18446744073709551616) (hI : 0 ≤ fI c A p p) : wholeF c A p 1 = true := by
  have hfd : fits p 1 = true := by unfold fits; rw [wid_one]; simpa using hp
  have hl : lastOf p 1 = p := by unfold lastOf; rw [if_pos hfd, wid_one]; omega
  rcases fI_cases c A p p with ⟨h1, _⟩ | ⟨i, _, h2, h3, _⟩
  · omega
  · rw [hit_iff] at h3
    unfold wholeF
    rw [hl, h2, hfd, decide_eq_true h3.2.2, decide_eq_true h3.2.1]
    simp

/-- What is allowed is allowed byte by byte. -/
theorem all_bytes {c : Nat} {A : Nat → Nat} {m k at_ N : Nat} (ha : at_ < 18446744073709551616) (hN : 1 ≤ N) (h : chk c A m k at_ N = true) : at_ + N ≤ 18446744073709551616 ∧ ∀ j, j < N → chk c A m k (at_ + j) 1 = true := by
  by_cases hf : at_ + (wid N - 1) < 18446744073709551616
  · have hf' := hf
    rw [wid_nat hN] at hf'
    refine ⟨by omega, fun j hj => ?_⟩
    have hl : at_ + j ≤ at_ + (wid N - 1) := by rw [wid_nat hN]; omega
    rcases fI_cases c A at_ (at_ + (wid N - 1)) with ⟨h1, h2⟩ | ⟨i, hi, h2, h3, h4⟩
    · rw [chk_none hf h1] at h
      rw [byte_none (by omega) (fI_none fun i hi => not_hit.2 fun hh => absurd (h2 i hi) (by rw [hit_mono (Nat.le_add_right _ _) hl hh]; simp))]
      exact h
    · rw [chk_some hf h2] at h
      simp only [Bool.and_eq_true, decide_eq_true_eq] at h
      rw [byte_some (i := i) (by omega) (fI_hit hi (hit_iff.2 ⟨(hit_iff.1 h3).1, by omega, by omega⟩) fun j' hj' => not_hit.2 fun hh => absurd (h4 j' hj') (by rw [hit_mono (Nat.le_add_right _ _) hl hh]; simp))]
      exact h.2
  · exfalso
    have hfd : fits at_ N = false := by unfold fits; simpa using hf
    unfold chk at h
    rw [hfd] at h
    simp at h
/-- And what is allowed byte by byte, of one entry, is allowed. -/
theorem of_bytes {c : Nat} {A : Nat → Nat} {m k at_ N : Nat} (hN : 1 ≤ N) (hf : at_ + N ≤ 18446744073709551616) (hb : ∀ j, j < N → chk c A m k (at_ + j) 1 = true) (hs : ∀ j, j < N → fI c A (at_ + j) (at_ + j) = fI c A at_ at_) : chk c A m k at_ N = true := by
  have hw := wid_nat hN
  have hf' : at_ + (wid N - 1) < 18446744073709551616 := by rw [hw]; omega
  have h0 := hb 0 (by omega)
  rw [Nat.add_zero] at h0
  have hpt : ∀ p, at_ ≤ p → p ≤ at_ + (wid N - 1) → fI c A p p = fI c A at_ at_ := fun p h1 h2 => by
    have := hs (p - at_) (by omega)
    rwa [show at_ + (p - at_) = p from by omega] at this
  rcases fI_cases c A at_ at_ with ⟨h1, h2⟩ | ⟨i, hi, h2, h3, h4⟩
  · rw [byte_none (by omega) h1] at h0
    rw [chk_none hf' (fI_none fun i hi => not_hit.2 fun hh => ?_)]
    · exact h0
    · obtain ⟨p, p1, p2, p3⟩ := hit_point (by omega) hh
      rcases fI_cases c A p p with ⟨_, q2⟩ | ⟨i', _, q2, _, _⟩
      · rw [q2 i hi] at p3; cases p3
      · rw [hpt p p1 p2, h1] at q2; omega
  · rw [byte_some (by omega) h2] at h0
    have hend : hit c A (at_ + (wid N - 1)) (at_ + (wid N - 1)) i = true := by
      rcases fI_cases c A (at_ + (wid N - 1)) (at_ + (wid N - 1)) with ⟨q1, _⟩ | ⟨i', _, q2, q3, _⟩
      · rw [hpt _ (by omega) (Nat.le_refl _), h2] at q1; omega
      · rw [hpt _ (by omega) (Nat.le_refl _), h2] at q2
        have : i' = i := by omega
        subst this; exact q3
    rw [hit_iff] at h3 hend
    have hI : fI c A at_ (at_ + (wid N - 1)) = i := fI_hit hi (hit_iff.2 ⟨h3.1, by omega, by omega⟩) fun j hj => not_hit.2 fun hh => by
      obtain ⟨p, p1, p2, p3⟩ := hit_point (by omega) hh
      have hp := hpt p p1 p2
      rw [h2] at hp
      rcases fI_cases c A p p with ⟨q1, _⟩ | ⟨i', _, q2, _, q4⟩
      · omega
      · have : i' = i := by omega
        subst this
        rw [q4 j hj] at p3; cases p3
    rw [chk_some hf' hI, decide_eq_true (show eF c A i ≤ at_ from h3.2.2), decide_eq_true (show at_ + (wid N - 1) ≤ eL c A i from hend.2.1), h0]
    rfl

end Go.Proofs.YtdnjooallhdjdaaDoor
