/-
  The document's PLIC: its block; gates, Raise, Best, Calls.
-/
import Derived.Test.YtfdhahnnhaeibaaDoorGA
set_option linter.unusedSimpArgs false
set_option linter.unusedVariables false
set_option linter.unusedSectionVars false
namespace Go.Proofs.YtfdhahnnhaeibaaDoor
open Go Go.Mini Go.Proofs.Tryd
set_option maxRecDepth 100000

/-- What is enabled, bit by bit. -/
def enB (s : St) (c k : Nat) : Bool := decide (s.en c / 2 ^ k % 2 = 1)
def rcell (s : St) (E : Nat → Nat → Bool) (i : Nat) : Value :=
  if i < 8 then .int .i64 (s.pr i) else if i < 16 then .bool (s.hi (i - 8)) else if i < 24 then .bool (s.pe (i - 16)) else if i < 32 then .bool (s.se (i - 24)) else if i < 48 then .bool (E ((i - 32) / 8) ((i - 32) % 8)) else .int .i64 (s.th (i - 48))
def rA (s : St) (E : Nat → Nat → Bool) : Array Value := ((List.range 50).map (rcell s E)).toArray
@[simp] theorem rA_size (s : St) (E : Nat → Nat → Bool) : (rA s E).size = 50 := by simp [rA]
theorem rA_at (s : St) (E : Nat → Nat → Bool) {i : Nat} (h : i < 50) : (rA s E)[i]? = some (rcell s E i) := by
  unfold rA
  rw [List.getElem?_toArray, List.getElem?_map, List.getElem?_range h]
  rfl
section
variable (s : St) (E : Nat → Nat → Bool)
theorem rA_pr {n : Nat} (h : n < 8) : (rA s E)[n]? = some (.int .i64 (s.pr n)) := by
  rw [rA_at s E (by omega)]; unfold rcell; rw [if_pos h]
theorem rA_hi {n : Nat} (h : n < 8) : (rA s E)[8 + n]? = some (.bool (s.hi n)) := by
  rw [rA_at s E (by omega)]; unfold rcell; rw [if_neg (by omega), if_pos (by omega), show 8 + n - 8 = n by omega]
theorem rA_pe {n : Nat} (h : n < 8) : (rA s E)[16 + n]? = some (.bool (s.pe n)) := by
  rw [rA_at s E (by omega)]; unfold rcell; rw [if_neg (by omega), if_neg (by omega), if_pos (by omega), show 16 + n - 16 = n by omega]
theorem rA_se {n : Nat} (h : n < 8) : (rA s E)[24 + n]? = some (.bool (s.se n)) := by
  rw [rA_at s E (by omega)]; unfold rcell; rw [if_neg (by omega), if_neg (by omega), if_neg (by omega), if_pos (by omega), show 24 + n - 24 = n by omega]
theorem rA_en {c n : Nat} (hc : c < 2) (h : n < 8) : (rA s E)[32 + c * 8 + n]? = some (.bool (E c n)) := by
  rw [rA_at s E (by omega)]; unfold rcell; rw [if_neg (by omega), if_neg (by omega), if_neg (by omega), if_neg (by omega), if_pos (by omega), show (32 + c * 8 + n - 32) / 8 = c by omega, show (32 + c * 8 + n - 32) % 8 = n by omega]
theorem rA_th {c : Nat} (hc : c < 2) : (rA s E)[48 + c]? = some (.int .i64 (s.th c)) := by
  rw [rA_at s E (by omega)]; unfold rcell; rw [if_neg (by omega), if_neg (by omega), if_neg (by omega), if_neg (by omega), if_neg (by omega), show 48 + c - 48 = c by omega]
theorem rA_set {s s' : St} {E E' : Nat → Nat → Bool} {k : Nat} {v : Value} (hk : k < 50) (hv : rcell s' E' k = v) (h : ∀ i, i < 50 → i ≠ k → rcell s' E' i = rcell s E i) : (rA s E).setIfInBounds k v = rA s' E' := by
  apply Array.ext_getElem?
  intro i
  rw [Array.getElem?_setIfInBounds]
  by_cases hi : i < 50
  · rw [rA_at s' E' hi]
    split
    · rename_i e
      subst e
      rw [if_pos (by simpa using hk), hv]
    · rename_i e
      rw [rA_at s E hi, h i hi (fun e' => e e'.symm)]
  · rw [Array.getElem?_eq_none (by simp; omega), if_neg (by omega), Array.getElem?_eq_none (by simp; omega)]
theorem rA_setpr {n : Nat} (h : n < 8) (x : Nat) : (rA s E).setIfInBounds n (.int .i64 x) = rA { s with pr := upd1 s.pr n x } E := by
  refine rA_set (by omega) ?_ fun i hi hne => ?_
  · unfold rcell; rw [if_pos h]; simp [upd1]
  · simp only [rcell, upd1]
    repeat' split
    all_goals first | rfl | (exfalso; omega)
theorem rA_sethi {n : Nat} (h : n < 8) (x : Bool) : (rA s E).setIfInBounds (8 + n) (.bool x) = rA { s with hi := upd1 s.hi n x } E := by
  refine rA_set (by omega) ?_ fun i hi hne => ?_
  · unfold rcell; rw [if_neg (by omega), if_pos (by omega)]; simp [upd1]
  · simp only [rcell, upd1]
    repeat' split
    all_goals first | rfl | (exfalso; omega)
theorem rA_setpe {n : Nat} (h : n < 8) (x : Bool) : (rA s E).setIfInBounds (16 + n) (.bool x) = rA { s with pe := upd1 s.pe n x } E := by
  refine rA_set (by omega) ?_ fun i hi hne => ?_
  · unfold rcell; rw [if_neg (by omega), if_neg (by omega), if_pos (by omega)]; simp [upd1]
  · simp only [rcell, upd1]
    repeat' split
    all_goals first | rfl | (exfalso; omega)
theorem rA_setse {n : Nat} (h : n < 8) (x : Bool) : (rA s E).setIfInBounds (24 + n) (.bool x) = rA { s with se := upd1 s.se n x } E := by
  refine rA_set (by omega) ?_ fun i hi hne => ?_
  · unfold rcell; rw [if_neg (by omega), if_neg (by omega), if_neg (by omega), if_pos (by omega)]; simp [upd1]
  · simp only [rcell, upd1]
    repeat' split
    all_goals first | rfl | (exfalso; omega)
def upd2 (E : Nat → Nat → Bool) (c n : Nat) (x : Bool) : Nat → Nat → Bool := fun i k => if i = c ∧ k = n then x else E i k
theorem rA_seten {c n : Nat} (hc : c < 2) (h : n < 8) (x : Bool) : (rA s E).setIfInBounds (32 + c * 8 + n) (.bool x) = rA s (upd2 E c n x) := by
  refine rA_set (by omega) ?_ fun i hi hne => ?_
  · unfold rcell; rw [if_neg (by omega), if_neg (by omega), if_neg (by omega), if_neg (by omega), if_pos (by omega)]
    unfold upd2
    rw [if_pos (by omega)]
  · simp only [rcell, upd2]
    repeat' split
    all_goals first | rfl | (exfalso; omega)
theorem rA_setth {c : Nat} (hc : c < 2) (x : Nat) : (rA s E).setIfInBounds (48 + c) (.int .i64 x) = rA { s with th := upd1 s.th c x } E := by
  refine rA_set (by omega) ?_ fun i hi hne => ?_
  · unfold rcell; rw [if_neg (by omega), if_neg (by omega), if_neg (by omega), if_neg (by omega), if_neg (by omega)]; simp [upd1]
  · simp only [rcell, upd1]
    repeat' split
    all_goals first | rfl | (exfalso; omega)
theorem rA_ext {s s' : St} {E E' : Nat → Nat → Bool} (h : ∀ i, i < 50 → rcell s E i = rcell s' E' i) : rA s E = rA s' E' := by
  unfold rA
  congr 1
  exact List.map_congr_left fun i hi => h i (List.mem_range.1 hi)
theorem rA_E {E E' : Nat → Nat → Bool} (h : ∀ c k, c < 2 → k < 8 → E c k = E' c k) : rA s E = rA s E' := by
  refine rA_ext fun i hi => ?_
  simp only [rcell]
  repeat' split
  all_goals first | rfl | rw [h _ _ (by omega) (by omega)]
theorem ext8 {cs : Array Value} {o : Nat} {m : Nat → Bool} (h : ∀ k, k < 8 → cs[o + k]? = some (.bool (m k))) : cs.extract o (o + 8) = boolC m := by
  have hs : o + 8 ≤ cs.size := by
    have := (Array.getElem?_eq_some_iff.1 (h 7 (by omega))).1
    omega
  apply Array.ext_getElem?
  intro i
  rw [Array.getElem?_extract]
  by_cases hi : i < 8
  · rw [if_pos (by omega), h i hi, boolC_at m hi]
  · rw [if_neg (by omega)]
    symm
    simp
    omega
end
def rC (s : St) : Array Value := rA s (enB s)
@[simp] theorem rC_size (s : St) : (rC s).size = 50 := rA_size _ _

/-- What holds of any PLIC. -/
structure Inv2 (s : St) : Prop where
  pr : ∀ n, s.pr n < 8
  p0 : s.pr 0 = 0
  en : ∀ c, s.en c < 256
  e0 : ∀ c, s.en c % 2 = 0
  th : ∀ c, s.th c < 8
  gt : ∀ n, s.hi n = true → s.se n = false → s.pe n = true
  h0 : s.hi 0 = false
theorem Inv2.ok {s : St} (q : Inv2 s) : s.ok := ⟨fun n => by have := q.pr n; omega, q.en, fun n => by have := q.th n; omega⟩
def gatesK (s : St) (k : Nat) : St := { s with pe := fun i => s.pe i || (decide (1 ≤ i ∧ i < k) && s.hi i && !s.se i) }
theorem gatesK_one (s : St) : gatesK s 1 = s := by
  unfold gatesK
  have : (fun i => s.pe i || (decide (1 ≤ i ∧ i < 1) && s.hi i && !s.se i)) = s.pe := by
    funext i
    rw [decide_eq_false (by omega)]; simp
  rw [this]
theorem gatesK_no {s : St} {k : Nat} (h : (s.hi k && !s.se k) = false) : gatesK s (k + 1) = gatesK s k := by
  unfold gatesK
  congr 1
  funext i
  by_cases hi : i = k
  · subst hi
    rw [Bool.and_assoc, h, Bool.and_assoc, h]; simp
  · rw [show decide (1 ≤ i ∧ i < k + 1) = decide (1 ≤ i ∧ i < k) from by rw [decide_eq_decide]; omega]
theorem gatesK_yes {s : St} {k : Nat} (hk : 1 ≤ k) (h : (s.hi k && !s.se k) = true) : gatesK s (k + 1) = { gatesK s k with pe := upd1 (gatesK s k).pe k true } := by
  unfold gatesK
  congr 1
  funext i
  by_cases hi : i = k
  · subst hi
    rw [upd1_same, Bool.and_assoc, h, decide_eq_true ⟨hk, by omega⟩]; simp
  · rw [upd1_ne _ _ hi, show decide (1 ≤ i ∧ i < k + 1) = decide (1 ≤ i ∧ i < k) from by rw [decide_eq_decide]; omega]
theorem gatesS_eq {s : St} {n : Nat} (hn : 1 ≤ n) (hn8 : n < 8) (h : ∀ i, i ≠ n → s.hi i = true → s.se i = false → s.pe i = true) : gatesK s 8 = gateS s n := by
  have e : (gatesK s 8).pe = (gateS s n).pe := by
    rw [gate_pe]
    funext i
    show (s.pe i || (decide (1 ≤ i ∧ i < 8) && s.hi i && !s.se i)) = _
    by_cases hi : i = n
    · subst hi
      rw [decide_eq_true ⟨hn, hn8⟩]
      cases h1 : s.hi i <;> cases h2 : s.pe i <;> cases h3 : s.se i <;> simp [upd1_same, h2]
    · have e2 : (if (s.hi n && !s.pe n && !s.se n) = true then upd1 s.pe n true else s.pe) i = s.pe i := by
        split
        · rw [upd1_ne _ _ hi]
        · rfl
      rw [e2]
      cases h1 : s.hi i <;> cases h2 : s.pe i <;> cases h3 : s.se i <;> first | (simp; done) | (exfalso; rw [h i hi h1 h3] at h2; cases h2)
  have e2 : gateS s n = { s with pe := (gateS s n).pe } := by unfold gateS; split <;> rfl
  rw [e2, ← e]
  rfl
section
variable {h : Hp} {K : Value → Hp → Prop} {p : Nat} {s : St} {E : Nat → Nat → Bool}
theorem gates_call (hb : h.blks p = some ⟨rA s E, 1, true⟩) (hp : p < h.next) (hK : K (.tuple #[]) (h.set p ⟨rA (gatesK s 8) E, 1, true⟩)) : ACall prog 35 [ptr p] h K := by
  refine acallF_of tb0 func35 rfl rfl mixed (by kernel_rfl) fun hwf => ?_
  simp -dsimp (disch := omega)
  refine awp_loop (fun t h' => ∃ k : Nat, 1 ≤ k ∧ k ≤ 8 ∧ h' = h.set p ⟨rA (gatesK s k) E, 1, true⟩ ∧ t 0 = ptr p ∧ t 2 = .int .i64 k) (fun t _ => 8 - ivN (t 2)) ?_ ?_
  · simp -dsimp (disch := omega)
    exact ⟨1, by omega, by omega, by rw [gatesK_one, set_same hb], rfl⟩
  · rintro t h' ⟨k, hk1, hk, rfl, t0, t2⟩
    refine vcF_sound mixed (tb := tb0) _ (by kernel_rfl) ?_
    by_cases hk8 : k < 8
    · have hk8' : (k : Int) < 8 := by omega
      have a1 := rA_hi (gatesK s k) E hk8
      have a2 := rA_se (gatesK s k) E hk8
      have st := rA_setpe (gatesK s k) E hk8 true
      have a1 : (rA (gatesK s k) E)[8 + k]? = some (.bool (s.hi k)) := a1
      have a2 : (rA (gatesK s k) E)[24 + k]? = some (.bool (s.se k)) := a2
      cases h1 : s.hi k with
      | false =>
        rw [h1] at a1
        have e := gatesK_no (s := s) (k := k) (by rw [h1]; rfl)
        simp -dsimp (disch := omega) [t0, t2, hk8, hk8', a1]
        exact ⟨⟨k + 1, by omega, by omega, by rw [e], by simp⟩, by simp [ivN]; omega⟩
      | true =>
        rw [h1] at a1
        cases h2 : s.se k with
        | true =>
          rw [h2] at a2
          have e := gatesK_no (s := s) (k := k) (by rw [h1, h2]; rfl)
          simp -dsimp (disch := omega) [t0, t2, hk8, hk8', a1, a2]
          exact ⟨⟨k + 1, by omega, by omega, by rw [e], by simp⟩, by simp [ivN]; omega⟩
        | false =>
          rw [h2] at a2
          have e := gatesK_yes (s := s) (k := k) hk1 (by rw [h1, h2]; rfl)
          rw [← e] at st
          simp -dsimp (disch := omega) [t0, t2, hk8, hk8', a1, a2, st]
          exact ⟨⟨k + 1, by omega, by omega, rfl, by simp⟩, by simp [ivN]; omega⟩
    · obtain rfl : k = 8 := by omega
      have t2' : t 2 = .int .i64 8 := t2
      simp -dsimp (disch := omega) [t0, t2']
      exact RetF.all (by simp) hK
theorem refRaise_call {n : Int} {x : Bool} (q : Inv2 s) (hb : h.blks p = some ⟨rA s E, 1, true⟩) (hp : p < h.next) (h1 : n < 1 ∨ 8 ≤ n → K (.int .i64 2) h) (h2 : ∀ m : Nat, n = m → 1 ≤ m → m < 8 → K (.int .i64 0) (h.set p ⟨rA (raiseS s m x) E, 1, true⟩)) : ACall prog 24 [ptr p, .int .i64 n, .bool x] h K := by
  refine acallF_of tb0 func24 rfl rfl mixed (by kernel_rfl) fun hwf => ?_
  by_cases c1 : n < 1
  · simp -dsimp (disch := omega) [c1]
    exact RetF.same hwf (by simp) (Nat.zero_le _) (fun _ _ => rfl) (h1 (.inl c1))
  · by_cases c2 : 7 < n
    · simp -dsimp (disch := omega) [c1, c2]
      exact RetF.same hwf (by simp) (Nat.zero_le _) (fun _ _ => rfl) (h1 (.inr (by omega)))
    · obtain ⟨m, rfl⟩ : ∃ m : Nat, n = m := ⟨n.toNat, by omega⟩
      have hm : m < 8 := by omega
      have c1n : ¬ m < 1 := by omega
      have c2n : ¬ 7 < m := by omega
      have hK := h2 m rfl (by omega) hm
      have st := rA_sethi s E hm x
      simp -dsimp (disch := omega) [c1, c2, c1n, c2n, hb, st]
      refine gates_call (s := { s with hi := upd1 s.hi m x }) (blks_set_eq _ _ _) hp ?_
      rw [gatesS_eq (s := { s with hi := upd1 s.hi m x }) (n := m) (by omega) hm (fun i hi e1 e2 => by
        have e1 : upd1 s.hi m x i = true := e1
        rw [upd1_ne _ _ hi] at e1
        exact q.gt i e1 e2)]
      simp -dsimp (disch := omega)
      exact RetF.all (by simp) hK
/-- The document's best is the program's. -/
theorem best_found (q : Inv2 s) {c P i : Nat} (hi1 : 1 ≤ i) (hi : i < 8) (hc : counts s c i = true) (hP : s.pr i = P) (hP0 : 0 < P) (h1 : ∀ k, 1 ≤ k → k < 8 → counts s c k = true → s.pr k ≤ P) (h2 : ∀ k, 1 ≤ k → k < i → counts s c k = true → s.pr k ≠ P) : bestS s c = i := by
  obtain ⟨b1, b2⟩ := best_spec q.p0 c
  have bl := bestS_lt s c
  obtain ⟨g1, g2⟩ := b2 i hi hc
  generalize bestS s c = b at *
  have hb0 : b ≠ 0 := fun e => by rw [e, q.p0] at g1; omega
  obtain ⟨b3, b4⟩ := b1 hb0
  have e1 := h1 b (by omega) bl b3
  have e2 := g2 (by omega) (by omega)
  rcases Nat.lt_or_ge b i with h | h
  · exact absurd (by omega) (h2 b (by omega) h b3)
  · omega
theorem best_none (q : Inv2 s) {c : Nat} (h1 : ∀ k, 1 ≤ k → k < 8 → counts s c k = true → s.pr k ≤ 0) : bestS s c = 0 := by
  obtain ⟨b1, _⟩ := best_spec q.p0 c
  have bl := bestS_lt s c
  generalize bestS s c = b at *
  by_cases hb0 : b = 0
  · exact hb0
  · obtain ⟨b3, b4⟩ := b1 hb0
    have := h1 b (by omega) bl b3
    omega
theorem counts_E {c k : Nat} : counts s c k = (s.pe k && enB s c k) := by
  rw [Bool.eq_iff_iff, counts_iff, Bool.and_eq_true]
  unfold enB
  rw [decide_eq_true_iff]
end
end Go.Proofs.YtfdhahnnhaeibaaDoor
