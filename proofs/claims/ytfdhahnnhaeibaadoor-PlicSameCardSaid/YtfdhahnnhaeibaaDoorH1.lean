/-
  The plain law of what a PLIC serves.
-/
import Derived.Test.YtfdhahnnhaeibaaDoorG11
set_option linter.unusedSimpArgs false
set_option linter.unusedVariables false
set_option linter.unusedSectionVars false
namespace Go.Proofs.YtfdhahnnhaeibaaDoor
open Go Go.Mini Go.Proofs.Tryd

section
variable {s : St}
theorem readS_pend : readS s 4096 = (pendK s 8, s) := by simp [readS]
theorem readS_en {c : Nat} (hc : c < 2) : readS s (8192 + 128 * c) = (s.en c, s) := by
  obtain rfl | rfl : c = 0 ∨ c = 1 := by omega
  · simp [readS]
  · simp [readS]
theorem readS_claim {c : Nat} (hc : c < 2) : readS s (2097156 + 4096 * c) = (bestS s c, claimS s c) := by
  obtain rfl | rfl : c = 0 ∨ c = 1 := by omega
  · simp [readS]
  · simp [readS]
theorem readS_pr {n : Nat} (hn : n < 8) (h0 : s.pr 0 = 0) : readS s (4 * n) = (s.pr n, s) := by
  by_cases h : n = 0
  · subst h; simp [readS, h0]
  · unfold readS
    rw [if_pos (by omega), show 4 * n / 4 = n by omega]
theorem writeS_claim {c v : Nat} (hc : c < 2) : writeS s (2097156 + 4096 * c) v = completeS s c (v % 4294967296) := by
  obtain rfl | rfl : c = 0 ∨ c = 1 := by omega
  · simp [writeS]
  · simp [writeS]
theorem pendK_bit (s : St) (k : Nat) : ∀ m, pendK s m / 2 ^ k % 2 = if k < m ∧ s.pe k = true then 1 else 0 := by
  intro m
  induction m with
  | zero => simp [pendK]
  | succ m ih =>
    have hl := pendK_lt s m
    simp only [pendK]
    by_cases h1 : k < m
    · have e : (if s.pe m = true then 2 ^ m else 0) = 2 ^ k * (2 * if s.pe m = true then 2 ^ (m - k - 1) else 0) := by
        split
        · rw [← Nat.pow_succ', ← Nat.pow_add]; congr 1; omega
        · simp
      rw [e, Nat.add_mul_div_left _ _ (Nat.pow_pos (by omega)), Nat.add_mul_mod_self_left, ih]
      cases hp : s.pe k with
      | true => rw [if_pos ⟨h1, rfl⟩, if_pos ⟨by omega, rfl⟩]
      | false => rw [if_neg (by simp), if_neg (by simp)]
    · by_cases h2 : k = m
      · subst h2
        cases hp : s.pe k with
        | true =>
          rw [if_pos rfl, if_pos ⟨by omega, rfl⟩, Nat.add_div_right _ (Nat.pow_pos (by omega)), Nat.div_eq_of_lt hl]
        | false => rw [if_neg (by simp), if_neg (by simp), Nat.add_zero, Nat.div_eq_of_lt hl]
      · have h3 : pendK s (m + 1) < 2 ^ k := Nat.lt_of_lt_of_le (pendK_lt s (m + 1)) (Nat.pow_le_pow_right (by omega) (by omega))
        simp only [pendK] at h3
        rw [Nat.div_eq_of_lt h3, if_neg (by omega)]
theorem pend_bit (s : St) {k : Nat} (hk : k < 8) : pendK s 8 / 2 ^ k % 2 = if s.pe k = true then 1 else 0 := by
  rw [pendK_bit]
  cases hp : s.pe k with
  | true => rw [if_pos ⟨hk, rfl⟩, if_pos rfl]
  | false => rw [if_neg (by simp), if_neg (by simp)]
theorem counts_iff {c k : Nat} : counts s c k = true ↔ s.pe k = true ∧ s.en c / 2 ^ k % 2 = 1 := by
  unfold counts
  rw [Bool.and_eq_true, decide_eq_true_iff]
  have : s.en c / 2 ^ k % 2 < 2 := Nat.mod_lt _ (by omega)
  constructor
  · rintro ⟨h1, h2⟩; exact ⟨h1, by omega⟩
  · rintro ⟨h1, h2⟩; exact ⟨h1, by omega⟩
theorem bestK_spec (h0 : s.pr 0 = 0) (c : Nat) : ∀ m, (bestK s c m ≠ 0 → counts s c (bestK s c m) = true ∧ 0 < s.pr (bestK s c m)) ∧ ∀ k, k < m → counts s c k = true → s.pr k ≤ s.pr (bestK s c m) ∧ (s.pr k = s.pr (bestK s c m) → 0 < s.pr k → bestK s c m ≤ k) := by
  intro m
  induction m with
  | zero => exact ⟨fun h => absurd rfl h, fun k hk => by omega⟩
  | succ m ih =>
    obtain ⟨i1, i2⟩ := ih
    simp only [bestK]
    split
    · rename_i hc
      refine ⟨fun _ => ⟨hc.1, by omega⟩, fun k hk hck => ?_⟩
      rcases Nat.lt_or_ge k m with h | h
      · have := i2 k h hck
        exact ⟨by omega, fun e => by omega⟩
      · have : k = m := by omega
        subst this
        exact ⟨Nat.le_refl _, fun _ _ => Nat.le_refl _⟩
    · rename_i hc
      refine ⟨i1, fun k hk hck => ?_⟩
      rcases Nat.lt_or_ge k m with h | h
      · exact i2 k h hck
      · have : k = m := by omega
        subst this
        have hle : ¬ s.pr (bestK s c k) < s.pr k := fun h => hc ⟨hck, h⟩
        refine ⟨by omega, fun _ hp => ?_⟩
        have := bestK_lt s c k
        omega
theorem best_spec (h0 : s.pr 0 = 0) (c : Nat) : (bestS s c ≠ 0 → counts s c (bestS s c) = true ∧ 0 < s.pr (bestS s c)) ∧ ∀ k, k < 8 → counts s c k = true → s.pr k ≤ s.pr (bestS s c) ∧ (s.pr k = s.pr (bestS s c) → 0 < s.pr k → bestS s c ≤ k) := bestK_spec h0 c 8
theorem upd1_same {α : Type} (f : Nat → α) (n : Nat) (x : α) : upd1 f n x n = x := by simp [upd1]
theorem upd1_ne {α : Type} (f : Nat → α) {n i : Nat} (x : α) (h : i ≠ n) : upd1 f n x i = f i := by simp [upd1, h]

/-- What the law knows of a PLIC. -/
structure Inv (s : St) (sv fr hg : Nat → Bool) : Prop where
  ok : s.ok
  p0 : s.pr 0 = 0
  pf : ∀ n, s.pe n = true → fr n = true
  ex : ∀ n, s.pe n = true → s.se n = false
  sv : ∀ n, sv n = true → s.se n = true
  hi : ∀ n, hg n = s.hi n
variable {sv fr hg : Nat → Bool}
theorem inv0 : Inv st0 (fun _ => false) (fun _ => false) (fun _ => false) := ⟨st0_ok, rfl, fun _ h => absurd h (by simp [st0]), fun _ _ => rfl, fun _ h => absurd h (by simp), fun _ => rfl⟩
theorem gate_hi (n : Nat) : (gateS s n).hi = s.hi := by unfold gateS; split <;> rfl
theorem gate_se (n : Nat) : (gateS s n).se = s.se := by unfold gateS; split <;> rfl
theorem gate_pr (n : Nat) : (gateS s n).pr = s.pr := by unfold gateS; split <;> rfl
theorem gate_pe (n : Nat) : (gateS s n).pe = if (s.hi n && !s.pe n && !s.se n) = true then upd1 s.pe n true else s.pe := by unfold gateS; split <;> rfl
theorem Inv.raise (q : Inv s sv fr hg) (n : Nat) (x : Bool) : Inv (raiseS s n x) sv (upd1 fr n (fr n || x)) (upd1 hg n x) := by
  have hpe : ∀ m, (raiseS s n x).pe m = true → s.pe m = true ∨ (m = n ∧ x = true ∧ s.se n = false) := by
    intro m
    unfold raiseS
    rw [gate_pe]
    split
    · rename_i h
      simp only [upd1_same, Bool.and_eq_true, Bool.not_eq_true'] at h
      by_cases hm : m = n
      · subst hm; exact fun _ => .inr ⟨rfl, h.1.1, h.2⟩
      · rw [upd1_ne _ _ hm]; exact .inl
    · exact .inl
  refine ⟨q.ok.raise n x, ?_, fun m hm => ?_, fun m hm => ?_, fun m hm => ?_, fun m => ?_⟩
  · unfold raiseS; rw [gate_pr]; exact q.p0
  · rcases hpe m hm with h | ⟨rfl, h, _⟩
    · by_cases e : m = n
      · subst e; rw [upd1_same, q.pf m h]; rfl
      · rw [upd1_ne _ _ e]; exact q.pf m h
    · rw [upd1_same, h, Bool.or_true]
  · unfold raiseS; rw [gate_se]
    rcases hpe m hm with h | ⟨rfl, _, h⟩
    · exact q.ex m h
    · exact h
  · unfold raiseS; rw [gate_se]; exact q.sv m hm
  · unfold raiseS; rw [gate_hi]
    by_cases e : m = n
    · subst e; simp [upd1]
    · rw [upd1_ne _ _ e]; simp only; rw [upd1_ne _ _ e]; exact q.hi m
theorem Inv.write (q : Inv s sv fr hg) {off : Nat} (v : Nat) {w : Int} (hm : mayN off w = true) (h1 : off ≠ 2097156) (h2 : off ≠ 2101252) : Inv (writeS s off v) sv fr hg := by
  have h4 : off % 4 = 0 := by
    unfold mayN at hm
    simp only [Bool.and_eq_true, decide_eq_true_eq] at hm
    exact hm.1.2
  refine ⟨q.ok.write off v, ?_, ?_, ?_, ?_, ?_⟩
  all_goals unfold writeS
  · split
    · show upd1 s.pr (off / 4) (v % 8) 0 = 0
      rw [upd1_ne _ _ (by omega)]; exact q.p0
    · repeat' split
      all_goals first | exact q.p0 | omega
  · repeat' split
    all_goals first | exact q.pf | omega
  · repeat' split
    all_goals first | exact q.ex | omega
  · repeat' split
    all_goals first | exact q.sv | omega
  · repeat' split
    all_goals first | exact q.hi | omega
theorem claim_zero {c : Nat} (h : bestS s c = 0) : claimS s c = s := by unfold claimS; rw [if_neg (by omega)]
theorem Inv.claim (q : Inv s sv fr hg) {c n : Nat} (hn : bestS s c = n) (h0 : n ≠ 0) : sv n = false ∧ fr n = true ∧ 0 < s.pr n ∧ s.pe n = true ∧ s.en c / 2 ^ n % 2 = 1 ∧ Inv (claimS s c) (upd1 sv n true) (upd1 fr n (hg n)) hg := by
  obtain ⟨b1, _⟩ := best_spec q.p0 c
  rw [hn] at b1
  obtain ⟨b2, b3⟩ := b1 h0
  obtain ⟨b4, b5⟩ := counts_iff.1 b2
  refine ⟨?_, q.pf n b4, b3, b4, b5, ?_⟩
  · cases e : sv n with
    | false => rfl
    | true => have e1 := q.sv n e; rw [q.ex n b4] at e1; cases e1
  · have e : claimS s c = { s with pe := upd1 s.pe n false, se := upd1 s.se n true } := by unfold claimS; rw [hn, if_pos (by omega)]
    refine ⟨q.ok.claim c, ?_, ?_, ?_, ?_, ?_⟩
    all_goals rw [e]
    · exact q.p0
    · intro m hm
      by_cases hmn : m = n
      · subst hmn; simp [upd1] at hm
      · rw [upd1_ne _ _ hmn]; exact q.pf m (by simpa [upd1, hmn] using hm)
    · intro m hm
      by_cases hmn : m = n
      · subst hmn; simp [upd1] at hm
      · have := q.ex m (by simpa [upd1, hmn] using hm); simpa [upd1, hmn] using this
    · intro m hm
      by_cases hmn : m = n
      · subst hmn; simp [upd1]
      · have := q.sv m (by simpa [upd1, hmn] using hm); simpa [upd1, hmn] using this
    · exact q.hi
theorem claim_pe {c n : Nat} (hn : bestS s c = n) (h0 : n ≠ 0) : (claimS s c).pe n = false ∧ (claimS s c).en = s.en ∧ (claimS s c).pr = s.pr := by
  unfold claimS; rw [hn, if_pos (by omega)]; exact ⟨upd1_same _ _ _, rfl, rfl⟩
theorem claim_pr (c : Nat) : (claimS s c).pr = s.pr := by unfold claimS; split <;> rfl
theorem Inv.complete (q : Inv s sv fr hg) {c n : Nat} (hn : n < 8) (h0 : s.pe n = false) (he : s.en c / 2 ^ n % 2 = 1) (hf : fr n = hg n) : (completeS s c n).pe n = hg n ∧ Inv (completeS s c n) (upd1 sv n false) fr hg := by
  have e : completeS s c n = gateS { s with se := upd1 s.se n false } n := by unfold completeS; rw [if_neg (by omega)]
  have hpe : (completeS s c n).pe = if s.hi n = true then upd1 s.pe n true else s.pe := by
    rw [e, gate_pe]
    simp [upd1_same, h0]
  have hse : (completeS s c n).se = upd1 s.se n false := by rw [e, gate_se]
  have hpn : (completeS s c n).pe n = hg n := by
    rw [hpe, q.hi n]
    split
    · rename_i h; rw [upd1_same, h]
    · rename_i h; rw [h0]; simpa using h
  refine ⟨hpn, q.ok.complete c n, ?_, ?_, ?_, ?_, ?_⟩
  · rw [e, gate_pr]; exact q.p0
  · intro m hm
    by_cases hmn : m = n
    · subst hmn; rw [hpn] at hm; rw [hf]; exact hm
    · refine q.pf m ?_
      rw [hpe] at hm
      split at hm
      · rwa [upd1_ne _ _ hmn] at hm
      · exact hm
  · intro m hm
    rw [hse]
    by_cases hmn : m = n
    · subst hmn; rw [upd1_same]
    · rw [upd1_ne _ _ hmn]
      refine q.ex m ?_
      rw [hpe] at hm
      split at hm
      · rwa [upd1_ne _ _ hmn] at hm
      · exact hm
  · intro m hm
    rw [hse]
    by_cases hmn : m = n
    · subst hmn; rw [upd1_same] at hm; cases hm
    · rw [upd1_ne _ _ hmn] at hm ⊢; exact q.sv m hm
  · rw [e, gate_hi]; exact q.hi
end

/-- Eight marks. -/
def boolC (m : Nat → Bool) : Array Value := ((List.range 8).map fun i => Value.bool (m i)).toArray
@[simp] theorem boolC_size (m : Nat → Bool) : (boolC m).size = 8 := by simp [boolC]
theorem boolC_at (m : Nat → Bool) {k : Nat} (hk : k < 8) : (boolC m)[k]? = some (.bool (m k)) := by
  unfold boolC
  rw [List.getElem?_toArray, List.getElem?_map, List.getElem?_range hk]
  rfl
theorem boolC_set (m : Nat → Bool) {k : Nat} (hk : k < 8) (x : Bool) : (boolC m).setIfInBounds k (.bool x) = boolC (upd1 m k x) := by
  apply Array.ext_getElem?
  intro i
  rw [Array.getElem?_setIfInBounds]
  by_cases hi : i < 8
  · rw [boolC_at (upd1 m k x) hi]
    split
    · rename_i e
      subst e
      rw [if_pos (by simpa using hk), upd1_same]
    · rename_i e
      rw [boolC_at m hi, upd1_ne _ _ (fun e' => e e'.symm)]
  · rw [Array.getElem?_eq_none (by simp; omega), if_neg (by omega), Array.getElem?_eq_none (by simp; omega)]
theorem boolC_zero : (#[.bool false, .bool false, .bool false, .bool false, .bool false, .bool false, .bool false, .bool false] : Array Value) = boolC (fun _ => false) := by kernel_rfl

/-- An act. -/
structure Act where
  what : Nat
  n : Int
  high : Bool
  off : Nat
  v : Nat
  w : Int
structure Act.ok (a : Act) : Prop where
  what : a.what < 256
  n : -9223372036854775808 ≤ a.n ∧ a.n ≤ 9223372036854775807
  off : a.off < 18446744073709551616
  v : a.v < 18446744073709551616
  w : -9223372036854775808 ≤ a.w ∧ a.w ≤ 9223372036854775807
def actC (a : Act) : List Value := [.int .u8 a.what, .int .i64 a.n, .bool a.high, .int .u64 a.off, .int .u64 a.v, .int .i64 a.w]
def actsC (l : List Act) : List Value := (l.map actC).flatten
theorem actsC_at {l : List Act} {k : Nat} {a : Act} (h : l[k]? = some a) {j : Nat} (hj : j < 6) : (actsC l)[k * 6 + j]? = (actC a)[j]? := by
  unfold actsC
  rw [flatten_at 6 _ k j (fun r hr => by obtain ⟨x, _, rfl⟩ := List.mem_map.1 hr; rfl) hj, List.getElem?_map, h]
  rfl
end Go.Proofs.YtfdhahnnhaeibaaDoor
