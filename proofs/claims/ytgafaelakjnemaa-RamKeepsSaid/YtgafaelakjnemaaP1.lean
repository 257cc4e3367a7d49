/-
  The plain law: a memory as a list of bytes that were written. No program.
-/
import Derived.Test.YtgafaelakjnemaaB4
set_option linter.unusedSimpArgs false
set_option linter.unusedVariables false
namespace Go.Proofs.Ytgafaelakjnemaa
open Go Go.Mini

abbrev By := List (Nat × Nat)
def look : By → Nat → Nat
  | [], _ => 0
  | (k, v) :: l, x => if k = x then v else look l x
def setL : By → Nat → Nat → By
  | [], x, v => [(x, v)]
  | (k, u) :: l, x, v => if k = x then (k, v) :: l else (k, u) :: setL l x v
theorem look_setL (l : By) (x v y : Nat) : look (setL l x v) y = if y = x then v else look l y := by
  induction l with
  | nil => simp only [setL, look]; by_cases h : y = x
           · rw [if_pos h, if_pos h.symm]
           · rw [if_neg h, if_neg (Ne.symm h)]
  | cons e l ih =>
    obtain ⟨k, u⟩ := e
    simp only [setL, look]
    by_cases h : k = x
    · rw [if_pos h]
      simp only [look]
      by_cases hy : y = x
      · rw [if_pos hy, if_pos (by omega)]
      · rw [if_neg hy, if_neg (by omega), if_neg (by omega)]
    · rw [if_neg h]
      simp only [look]
      rw [ih]
      by_cases hk : k = y
      · rw [if_pos hk, if_pos hk, if_neg (by omega)]
      · rw [if_neg hk, if_neg hk]
theorem mem_setL {l : By} {x v : Nat} {e : Nat × Nat} (h : e ∈ setL l x v) : e = (x, v) ∨ e ∈ l := by
  induction l with
  | nil => simp only [setL, List.mem_singleton] at h; exact .inl h
  | cons d l ih =>
    obtain ⟨k, u⟩ := d
    simp only [setL] at h
    by_cases hk : k = x
    · rw [if_pos hk] at h
      rcases List.mem_cons.1 h with h | h
      · exact .inl (by rw [h, hk])
      · exact .inr (by simp [h])
    · rw [if_neg hk] at h
      rcases List.mem_cons.1 h with h | h
      · exact .inr (by simp [h])
      · rcases ih h with h | h
        · exact .inl h
        · exact .inr (by simp [h])
theorem setL_length (l : By) (x v : Nat) : (setL l x v).length ≤ l.length + 1 := by
  induction l with
  | nil => simp [setL]
  | cons d l ih =>
    obtain ⟨k, u⟩ := d
    simp only [setL]
    split <;> simp <;> omega
/-- Each place stands in it once. -/
def Uniq : By → Prop
  | [] => True
  | (k, _) :: l => (∀ e ∈ l, e.1 ≠ k) ∧ Uniq l
theorem Uniq.set {l : By} (h : Uniq l) (x v : Nat) : Uniq (setL l x v) := by
  induction l with
  | nil => simp [setL, Uniq]
  | cons d l ih =>
    obtain ⟨k, u⟩ := d
    simp only [setL]
    by_cases hk : k = x
    · rw [if_pos hk]; exact ⟨h.1, h.2⟩
    · rw [if_neg hk]
      refine ⟨fun e he => ?_, ih h.2⟩
      rcases mem_setL he with rfl | he
      · exact fun e => hk e.symm
      · exact h.1 e he
theorem Uniq.look {l : By} (h : Uniq l) {e : Nat × Nat} (he : e ∈ l) : look l e.1 = e.2 := by
  induction l with
  | nil => cases he
  | cons d l ih =>
    obtain ⟨k, u⟩ := d
    simp only [Ytgafaelakjnemaa.look]
    rcases List.mem_cons.1 he with rfl | he
    · rw [if_pos rfl]
    · rw [if_neg (Ne.symm (h.1 e he))]; exact ih h.2 he
theorem look_lt {l : By} (h : ∀ e ∈ l, e.2 < 256) (x : Nat) : look l x < 256 := by
  induction l with
  | nil => simp [look]
  | cons d l ih =>
    obtain ⟨k, u⟩ := d
    simp only [look]
    split
    · exact h (k, u) (by simp)
    · exact ih fun e he => h e (by simp [he])
theorem look_none {l : By} {x : Nat} (h : ∀ e ∈ l, e.1 ≠ x) : look l x = 0 := by
  induction l with
  | nil => rfl
  | cons d l ih =>
    obtain ⟨k, u⟩ := d
    simp only [look]
    rw [if_neg (h (k, u) (by simp))]
    exact ih fun e he => h e (by simp [he])
/-- The first place of it. -/
theorem look_first {l : By} {i : Nat} {e : Nat × Nat} (hi : l[i]? = some e) (h : ∀ d ∈ l.take i, d.1 ≠ e.1) : look l e.1 = e.2 := by
  induction l generalizing i with
  | nil => simp at hi
  | cons d l ih =>
    obtain ⟨k, u⟩ := d
    simp only [look]
    cases i with
    | zero => simp only [List.getElem?_cons_zero, Option.some.injEq] at hi; subst hi; rw [if_pos rfl]
    | succ i =>
      rw [if_neg (h (k, u) (by simp))]
      exact ih (by simpa using hi) fun d hd => h d (by simp [hd])
theorem setL_first {l : By} {i : Nat} {x u v : Nat} (hi : l[i]? = some (x, u)) (h : ∀ d ∈ l.take i, d.1 ≠ x) : setL l x v = l.set i (x, v) := by
  induction l generalizing i with
  | nil => simp at hi
  | cons d l ih =>
    obtain ⟨k, w⟩ := d
    simp only [setL]
    cases i with
    | zero =>
      simp only [List.getElem?_cons_zero, Option.some.injEq, Prod.mk.injEq] at hi
      rw [if_pos hi.1, List.set_cons_zero, hi.1]
    | succ i =>
      rw [if_neg (h (k, w) (by simp)), List.set_cons_succ, ih (by simpa using hi) fun d hd => h d (by simp [hd])]
theorem setL_new {l : By} {x v : Nat} (h : ∀ e ∈ l, e.1 ≠ x) : setL l x v = l ++ [(x, v)] := by
  induction l with
  | nil => rfl
  | cons d l ih =>
    obtain ⟨k, u⟩ := d
    simp only [setL]
    rw [if_neg (h (k, u) (by simp)), ih fun e he => h e (by simp [he])]
    rfl
/-- Bytes one behind the other. -/
def setN (l : By) (x : Nat) (f : Nat → Nat) : Nat → By
  | 0 => l
  | k + 1 => setL (setN l x f k) (x + k) (f k)
theorem look_setN (l : By) (x : Nat) (f : Nat → Nat) (k y : Nat) : look (setN l x f k) y = if x ≤ y ∧ y < x + k then f (y - x) else look l y := by
  induction k with
  | zero => rw [if_neg (by omega)]; rfl
  | succ k ih =>
    rw [setN, look_setL, ih]
    by_cases h : y = x + k
    · subst h; rw [if_pos rfl, if_pos (by omega), Nat.add_sub_cancel_left]
    · rw [if_neg h]
      by_cases h' : x ≤ y ∧ y < x + k
      · rw [if_pos h', if_pos (by omega)]
      · rw [if_neg h', if_neg (by omega)]
theorem setN_length (l : By) (x : Nat) (f : Nat → Nat) (k : Nat) : (setN l x f k).length ≤ l.length + k := by
  induction k with
  | zero => exact Nat.le_refl _
  | succ k ih => have := setL_length (setN l x f k) (x + k) (f k); rw [setN]; omega
theorem Uniq.setN {l : By} (h : Uniq l) (x : Nat) (f : Nat → Nat) (k : Nat) : Uniq (Ytgafaelakjnemaa.setN l x f k) := by
  induction k with
  | zero => exact h
  | succ k ih => exact ih.set _ _
theorem mem_setN {l : By} {x : Nat} {f : Nat → Nat} {k : Nat} {e : Nat × Nat} (h : e ∈ setN l x f k) : e ∈ l ∨ ∃ j, j < k ∧ e = (x + j, f j) := by
  induction k with
  | zero => exact .inl h
  | succ k ih =>
    rcases mem_setL h with h | h
    · exact .inr ⟨k, by omega, h⟩
    · rcases ih h with h | ⟨j, hj, h⟩
      · exact .inl h
      · exact .inr ⟨j, by omega, h⟩

theorem leN_succ (M : Nat → Nat) (n : Nat) : ∀ x, leN M x (n + 1) = leN M x n + M (x + n) * 256 ^ n := by
  induction n with
  | zero => intro x; simp [leN]
  | succ n ih =>
    intro x
    rw [show leN M x (n + 1 + 1) = leN M (x + 1) (n + 1) * 256 + M x from rfl, ih, show leN M x (n + 1) = leN M (x + 1) n * 256 + M x from rfl, Nat.add_mul, Nat.pow_succ, Nat.mul_assoc, show x + 1 + n = x + (n + 1) from by omega]
    omega
theorem leN_congr {M M' : Nat → Nat} (n : Nat) : ∀ x, (∀ i, x ≤ i → i < x + n → M i = M' i) → leN M x n = leN M' x n := by
  induction n with
  | zero => intro x _; rfl
  | succ n ih =>
    intro x h
    rw [leN, leN, ih (x + 1) fun i h1 h2 => h i (by omega) (by omega), h x (by omega) (by omega)]
theorem toW_zero (a : Nat) (w : Int) (x : Nat) : toW a w x 0 = w := by unfold toW; rw [if_neg (by omega)]
theorem toW_succ (a : Nat) (w : Int) (x k : Nat) : toW a (toW a w x k) (x + k) 1 = toW a w x (k + 1) := by
  unfold toW
  by_cases h1 : 0 < k ∧ x < a / 8 * 8 + 8 ∧ a / 8 * 8 < x + k
  · rw [if_pos h1, if_pos (by omega : 0 < k + 1 ∧ x < a / 8 * 8 + 8 ∧ a / 8 * 8 < x + (k + 1))]; split <;> rfl
  · rw [if_neg h1]
    by_cases h2 : 0 < k + 1 ∧ x < a / 8 * 8 + 8 ∧ a / 8 * 8 < x + (k + 1)
    · rw [if_pos h2, if_pos (by omega)]
    · rw [if_neg h2, if_neg (by omega)]
theorem toW_one (a : Nat) (w : Int) (x : Nat) (hw : 0 ≤ w) : toW a w x 1 = if 0 < w ∧ x / 8 = a / 8 then 0 else w := by
  unfold toW
  by_cases h : x / 8 = a / 8
  · rw [if_pos (by omega)]
    split
    · rfl
    · omega
  · rw [if_neg (by omega), if_neg (fun hh => h hh.2)]

/-- Two memories that are alike, by what was written. -/
theorem look_all {l l' : By} (hl : Uniq l) (hl' : Uniq l') : (∀ x, look l x = look l' x) ↔ (∀ e ∈ l, look l' e.1 = e.2) ∧ (∀ e ∈ l', look l e.1 = e.2) := by
  constructor
  · exact fun h => ⟨fun e he => by rw [← h]; exact hl.look he, fun e he => by rw [h]; exact hl'.look he⟩
  · rintro ⟨h1, h2⟩ x
    by_cases hx : ∃ e ∈ l, e.1 = x
    · obtain ⟨e, he, rfl⟩ := hx
      rw [hl.look he, h1 e he]
    · by_cases hx' : ∃ e ∈ l', e.1 = x
      · obtain ⟨e, he, rfl⟩ := hx'
        rw [hl'.look he, h2 e he]
      · rw [look_none fun e he h => hx ⟨e, he, h⟩, look_none fun e he h => hx' ⟨e, he, h⟩]

end Go.Proofs.Ytgafaelakjnemaa
