/-
  Which PLICs are the same: structs compared; texts tell states apart.
-/
import Derived.Test.YtfdhahnnhaeibaaDoorQ9
set_option linter.unusedSimpArgs false
set_option linter.unusedVariables false
set_option linter.unusedSectionVars false
namespace Go.Proofs.YtfdhahnnhaeibaaDoor
open Go Go.Mini Go.Proofs.Tryd
set_option maxRecDepth 100000

theorem allEq_dec {xs ys : Array Value} : ∀ {l : List (Nat × Nat)}, (∀ p ∈ l, ∃ a b r, xs[p.1]? = some a ∧ ys[p.1]? = some b ∧ leafEq p.2 a b = some r ∧ (r = true ↔ a = b)) → ∃ r, allEq l xs ys = some r ∧ (r = true ↔ ∀ p ∈ l, xs[p.1]? = ys[p.1]?) := by
  intro l
  induction l with
  | nil => intro _; exact ⟨true, rfl, by simp⟩
  | cons p l ih =>
    intro h
    obtain ⟨r, h1, h2⟩ := ih fun q hq => h q (List.mem_cons_of_mem _ hq)
    obtain ⟨a, b, r0, e1, e2, e3, e4⟩ := h p (by simp)
    obtain ⟨o, k⟩ := p
    refine ⟨r0 && r, by rw [allEq_cons, e1, e2, h1, allV_some, e3, allC_some], ?_⟩
    rw [Bool.and_eq_true, e4, h2]
    simp only [List.mem_cons, forall_eq_or_imp, e1, e2, Option.some.injEq]
theorem leaf_u (k : IntKind) (a b : Int) : ∃ r, leafEq 0 (.int k a) (.int k b) = some r ∧ (r = true ↔ Value.int k a = .int k b) := ⟨_, leafEq_int k a b, by rw [decide_eq_true_iff]; constructor <;> intro h <;> simpa using h⟩
theorem leaf_b (a b : Bool) : ∃ r, leafEq 1 (.bool a) (.bool b) = some r ∧ (r = true ↔ Value.bool a = .bool b) := ⟨_, leafEq_bool a b, by rw [decide_eq_true_iff]; constructor <;> intro h <;> simpa using h⟩
def kindS (o : Nat) : Nat := if o = 0 then 1 else if o < 33 then (if (o - 1) % 4 = 0 then 0 else 1) else 0
theorem cell_kind (s s' : St) (o : Nat) : ∃ r, leafEq (kindS o) (cell s o) (cell s' o) = some r ∧ (r = true ↔ cell s o = cell s' o) := by
  unfold kindS cell
  by_cases h0 : o = 0
  · rw [if_pos h0, if_pos h0, if_pos h0]; exact leaf_b _ _
  · rw [if_neg h0, if_neg h0, if_neg h0]
    by_cases h1 : o < 33
    · rw [if_pos h1, if_pos h1, if_pos h1]
      by_cases h2 : (o - 1) % 4 = 0
      · rw [if_pos h2, if_pos h2, if_pos h2]; exact leaf_u _ _ _
      · rw [if_neg h2, if_neg h2, if_neg h2]
        repeat' split
        all_goals exact leaf_b _ _
    · rw [if_neg h1, if_neg h1, if_neg h1]
      repeat' split
      all_goals exact leaf_u _ _ _
def kindR (o : Nat) : Nat := if o < 8 then 0 else if o < 48 then 1 else 0
theorem rcell_kind (s s' : St) (o : Nat) : ∃ r, leafEq (kindR o) (rcell s (enB s) o) (rcell s' (enB s') o) = some r ∧ (r = true ↔ rcell s (enB s) o = rcell s' (enB s') o) := by
  unfold kindR rcell
  by_cases h0 : o < 8
  · rw [if_pos h0, if_pos h0, if_pos h0]; exact leaf_u _ _ _
  · rw [if_neg h0, if_neg h0, if_neg h0]
    by_cases h1 : o < 48
    · rw [if_pos h1]
      repeat' split
      all_goals first | exact leaf_b _ _ | omega
    · rw [if_neg h1]
      repeat' split
      all_goals first | exact leaf_u _ _ _ | omega
theorem stC_ok (s : St) : oneAll (stC s).toList = true ∧ vtopL (stC s).toList = 0 := by
  constructor
  · rw [← oneAll_eq]
    simp only [stC, List.all_eq_true, List.mem_map]
    rintro v ⟨i, _, rfl⟩
    unfold cell
    repeat' split
    all_goals rfl
  · refine Nat.le_zero.1 (vtopL_le.2 fun v hv => ?_)
    simp only [stC, List.mem_map] at hv
    obtain ⟨i, _, rfl⟩ := hv
    unfold cell
    repeat' split
    all_goals exact Nat.le_refl _
theorem rC_ok (s : St) : oneAll (rC s).toList = true ∧ vtopL (rC s).toList = 0 := by
  constructor
  · rw [← oneAll_eq]
    simp only [rC, rA, List.all_eq_true, List.mem_map]
    rintro v ⟨i, _, rfl⟩
    unfold rcell
    repeat' split
    all_goals rfl
  · refine Nat.le_zero.1 (vtopL_le.2 fun v hv => ?_)
    simp only [rC, rA, List.mem_map] at hv
    obtain ⟨i, _, rfl⟩ := hv
    unfold rcell
    repeat' split
    all_goals exact Nat.le_refl _
theorem eq_stC (s s' : St) : ∃ r : Bool, (∀ xo yo, abin prog .eql 58 xo yo (.agg (stC s)) (.agg (stC s')) = some (.bool r)) ∧ (r = true ↔ ∀ o, o < 37 → cell s o = cell s' o) := by
  obtain ⟨l, hl⟩ : ∃ l, eqPl prog 8 58 = some l := ⟨_, eqPl_58⟩
  have e := eqPl_58
  rw [hl] at e
  have hall : ∀ p ∈ l, p.1 < 37 ∧ p.2 = kindS p.1 := by
    have := Option.some.inj e
    rw [this]
    decide
  have hcov : ∀ o, o < 37 → ∃ k, (o, k) ∈ l := by
    have h9 := Option.some.inj e
    intro o ho
    have : ∀ o, o < 37 → l[o]?.map (·.1) = some o := by rw [h9]; decide
    have h := this o ho
    cases hx : l[o]? with
    | none => rw [hx] at h; cases h
    | some q =>
      rw [hx] at h
      have h : q.1 = o := by simpa using h
      exact ⟨q.2, by rw [← h]; exact List.mem_of_getElem? hx⟩
  obtain ⟨r, h1, h2⟩ := allEq_dec (xs := stC s) (ys := stC s') (l := l) fun p hp => by
    obtain ⟨q1, q2⟩ := hall p hp
    obtain ⟨r, g1, g2⟩ := cell_kind s s' p.1
    exact ⟨_, _, r, stC_at s q1, stC_at s' q1, by rw [q2]; exact g1, g2⟩
  refine ⟨r, fun xo yo => ?_, ?_⟩
  · rw [abin_agg_eql, hl, aggSz_58, eqGT_58, eqA_some, eqAC_ok ⟨stC_size s, stC_size s'⟩ ⟨(stC_ok s).1, (stC_ok s').1⟩ ⟨(stC_ok s).2, (stC_ok s').2⟩, h1, aggB_some]
  · rw [h2]
    constructor
    · intro h o ho
      obtain ⟨k, hk⟩ := hcov o ho
      have := h _ hk
      simp only [stC_at s ho, stC_at s' ho, Option.some.injEq] at this
      exact this
    · intro h p hp
      obtain ⟨q1, _⟩ := hall p hp
      rw [stC_at s q1, stC_at s' q1, h _ q1]
theorem eq_rC (s s' : St) : ∃ r : Bool, (∀ xo yo, abin prog .eql 32 xo yo (.agg (rC s)) (.agg (rC s')) = some (.bool r)) ∧ (r = true ↔ ∀ o, o < 50 → rcell s (enB s) o = rcell s' (enB s') o) := by
  obtain ⟨l, hl⟩ : ∃ l, eqPl prog 8 32 = some l := ⟨_, eqPl_32⟩
  have e := eqPl_32
  rw [hl] at e
  have hall : ∀ p ∈ l, p.1 < 50 ∧ p.2 = kindR p.1 := by
    have := Option.some.inj e
    rw [this]
    decide
  have hcov : ∀ o, o < 50 → ∃ k, (o, k) ∈ l := by
    have h9 := Option.some.inj e
    intro o ho
    have : ∀ o, o < 50 → l[o]?.map (·.1) = some o := by rw [h9]; decide
    have h := this o ho
    cases hx : l[o]? with
    | none => rw [hx] at h; cases h
    | some q =>
      rw [hx] at h
      have h : q.1 = o := by simpa using h
      exact ⟨q.2, by rw [← h]; exact List.mem_of_getElem? hx⟩
  obtain ⟨r, h1, h2⟩ := allEq_dec (xs := rC s) (ys := rC s') (l := l) fun p hp => by
    obtain ⟨q1, q2⟩ := hall p hp
    obtain ⟨r, g1, g2⟩ := rcell_kind s s' p.1
    exact ⟨_, _, r, rA_at s (enB s) q1, rA_at s' (enB s') q1, by rw [q2]; exact g1, g2⟩
  refine ⟨r, fun xo yo => ?_, ?_⟩
  · rw [abin_agg_eql, hl, aggSz_32, eqGT_32, eqA_some, eqAC_ok ⟨rC_size s, rC_size s'⟩ ⟨(rC_ok s).1, (rC_ok s').1⟩ ⟨(rC_ok s).2, (rC_ok s').2⟩, h1, aggB_some]
  · have ra : ∀ (s : St) o, o < 50 → (rC s)[o]? = some (rcell s (enB s) o) := fun s o ho => rA_at s (enB s) ho
    rw [h2]
    constructor
    · intro h o ho
      obtain ⟨k, hk⟩ := hcov o ho
      have := h _ hk
      simp only [ra _ _ ho, Option.some.injEq] at this
      exact this
    · intro h p hp
      obtain ⟨q1, _⟩ := hall p hp
      rw [ra _ _ q1, ra _ _ q1, h _ q1]

/-- Two states that nothing tells apart. -/
structure Eqv (s s' : St) : Prop where
  pr : ∀ n, n < 8 → s.pr n = s'.pr n
  hi : ∀ n, n < 8 → s.hi n = s'.hi n
  pe : ∀ n, n < 8 → s.pe n = s'.pe n
  se : ∀ n, n < 8 → s.se n = s'.se n
  en : ∀ c, c < 2 → s.en c = s'.en c
  th : ∀ c, c < 2 → s.th c = s'.th c
theorem Eqv.of_cell {s s' : St} (h : ∀ o, o < 37 → cell s o = cell s' o) : Eqv s s' := by
  have hh : stC s = stC s' := by
    unfold stC
    congr 1
    exact List.map_congr_left fun o ho => h o (List.mem_range.1 ho)
  refine ⟨fun n hn => ?_, fun n hn => ?_, fun n hn => ?_, fun n hn => ?_, fun c hc => ?_, fun c hc => ?_⟩
  · have := stC_pr s hn; rw [hh, stC_pr s' hn] at this; simp at this; omega
  · have := stC_hi s hn; rw [hh, stC_hi s' hn] at this; simpa using this.symm
  · have := stC_pe s hn; rw [hh, stC_pe s' hn] at this; simpa using this.symm
  · have := stC_se s hn; rw [hh, stC_se s' hn] at this; simpa using this.symm
  · have := stC_en s hc; rw [hh, stC_en s' hc] at this; simp at this; omega
  · have := stC_th s hc; rw [hh, stC_th s' hc] at this; simp at this; omega
theorem Eqv.cell {s s' : St} (h : Eqv s s') : ∀ o, o < 37 → cell s o = cell s' o := by
  intro o ho
  simp only [YtfdhahnnhaeibaaDoor.cell]
  repeat' split
  all_goals first
    | rfl
    | rw [h.pr _ (by omega)]
    | rw [h.hi _ (by omega)]
    | rw [h.pe _ (by omega)]
    | rw [h.se _ (by omega)]
    | rw [h.en _ (by omega)]
    | rw [h.th _ (by omega)]
theorem Eqv.of_rcell {s s' : St} (q : Inv2 s) (q' : Inv2 s') (h : ∀ o, o < 50 → rcell s (enB s) o = rcell s' (enB s') o) : Eqv s s' := by
  have hh : rC s = rC s' := rA_ext h
  have p : ∀ {o : Nat} {a b : Value}, (rC s)[o]? = some a → (rC s')[o]? = some b → a = b := fun e1 e2 => by rw [hh, e2] at e1; exact (Option.some.inj e1).symm
  refine ⟨fun n hn => ?_, fun n hn => ?_, fun n hn => ?_, fun n hn => ?_, fun c hc => ?_, fun c hc => ?_⟩
  · have := p (rA_pr s (enB s) hn) (rA_pr s' (enB s') hn); simp at this; omega
  · simpa using p (rA_hi s (enB s) hn) (rA_hi s' (enB s') hn)
  · simpa using p (rA_pe s (enB s) hn) (rA_pe s' (enB s') hn)
  · simpa using p (rA_se s (enB s) hn) (rA_se s' (enB s') hn)
  · have hb : ∀ k, k < 8 → enB s c k = enB s' c k := fun k hk => by simpa using p (rA_en s (enB s) hc hk) (rA_en s' (enB s') hc hk)
    have hk : ∀ k, k ≤ 8 → bitsK (enB s c) k = bitsK (enB s' c) k := by
      intro k
      induction k with
      | zero => intro _; rfl
      | succ k ih => intro hk; simp only [bitsK, ih (by omega), hb k (by omega)]
    rw [← bits_en q c, ← bits_en q' c]
    exact hk 8 (by omega)
  · have := p (rA_th s (enB s) hc) (rA_th s' (enB s') hc); simp at this; omega
theorem Eqv.rcell {s s' : St} (h : Eqv s s') : ∀ o, o < 50 → rcell s (enB s) o = rcell s' (enB s') o := by
  intro o ho
  simp only [YtfdhahnnhaeibaaDoor.rcell, enB]
  repeat' split
  all_goals first
    | rfl
    | rw [h.pr _ (by omega)]
    | rw [h.hi _ (by omega)]
    | rw [h.pe _ (by omega)]
    | rw [h.se _ (by omega)]
    | rw [h.en _ (by omega)]
    | rw [h.th _ (by omega)]
theorem Eqv.text {s s' : St} (h : Eqv s s') : textS s = textS s' := by
  simp only [textS, preT, srcT, flagK, ctxT, h.pr 1 (by omega), h.pr 2 (by omega), h.pr 3 (by omega), h.pr 4 (by omega), h.pr 5 (by omega), h.pr 6 (by omega), h.pr 7 (by omega),
    h.hi 1 (by omega), h.hi 2 (by omega), h.hi 3 (by omega), h.hi 4 (by omega), h.hi 5 (by omega), h.hi 6 (by omega), h.hi 7 (by omega),
    h.pe 1 (by omega), h.pe 2 (by omega), h.pe 3 (by omega), h.pe 4 (by omega), h.pe 5 (by omega), h.pe 6 (by omega), h.pe 7 (by omega),
    h.se 1 (by omega), h.se 2 (by omega), h.se 3 (by omega), h.se 4 (by omega), h.se 5 (by omega), h.se 6 (by omega), h.se 7 (by omega), h.en 0 (by omega), h.en 1 (by omega), h.th 0 (by omega), h.th 1 (by omega), Nat.zero_add]

/-! ### Words -/
def wordR : List UInt8 → List UInt8 → Nat → List UInt8
  | _, [], _ => []
  | cur, c :: l, k => if c = 32 then (if k = 1 then cur else wordR [] l (k - 1)) else wordR (cur ++ [c]) l k
theorem wordR_skip (rest : List UInt8) (k : Nat) : ∀ (w cur : List UInt8), (∀ c ∈ w, c ≠ 32) → wordR cur (w ++ 32 :: rest) k = if k = 1 then cur ++ w else wordR [] rest (k - 1) := by
  intro w
  induction w with
  | nil => intro cur _; simp [wordR]
  | cons c w ih =>
    intro cur h
    have h1 := h c (by simp)
    simp only [List.cons_append, wordR, if_neg h1]
    rw [ih _ (fun d hd => h d (by simp [hd])), List.append_assoc]
    rfl
theorem dig_ne {n : Nat} (hn : n < 16) : dig n ≠ 32 := by
  rcases (by omega : n = 0 ∨ n = 1 ∨ n = 2 ∨ n = 3 ∨ n = 4 ∨ n = 5 ∨ n = 6 ∨ n = 7 ∨ n = 8 ∨ n = 9 ∨ n = 10 ∨ n = 11 ∨ n = 12 ∨ n = 13 ∨ n = 14 ∨ n = 15) with rfl | rfl | rfl | rfl | rfl | rfl | rfl | rfl | rfl | rfl | rfl | rfl | rfl | rfl | rfl | rfl <;> decide
theorem dig_inj : ∀ {n m : Nat}, n < 16 → m < 16 → dig n = dig m → n = m := by
  have : ∀ n : Fin 16, ∀ m : Fin 16, dig n = dig m → (n : Nat) = m := by decide
  intro n m hn hm h
  exact this ⟨n, hn⟩ ⟨m, hm⟩ h
theorem src_ne {s : St} (q : Inv2 s) (n : Nat) : ∀ c ∈ srcT s n, c ≠ 32 := by
  have hd := dig_ne (n := s.pr n) (by have := q.pr n; omega)
  intro c hc
  simp only [srcT, flagK, List.mem_cons, List.mem_append] at hc
  rcases hc with rfl | (hc | hc) | hc
  · exact hd
  · split at hc
    · simp at hc; subst hc; decide
    · simp at hc
  · split at hc
    · simp at hc; subst hc; decide
    · simp at hc
  · split at hc
    · simp at hc; subst hc; decide
    · simp at hc
theorem textS_shape (s : St) : textS s = srcT s 1 ++ 32 :: (srcT s 2 ++ 32 :: (srcT s 3 ++ 32 :: (srcT s 4 ++ 32 :: (srcT s 5 ++ 32 :: (srcT s 6 ++ 32 :: (srcT s 7 ++ 32 :: (ctxT s 0 ++ 32 :: ctxT s 1))))))) := by
  simp only [textS, preT, List.nil_append, List.append_assoc, List.cons_append]
theorem word_text {s : St} (q : Inv2 s) {k : Nat} (h1 : 1 ≤ k) (h7 : k ≤ 7) : wordR [] (textS s) k = srcT s k := by
  rw [textS_shape]
  rcases (by omega : k = 1 ∨ k = 2 ∨ k = 3 ∨ k = 4 ∨ k = 5 ∨ k = 6 ∨ k = 7) with rfl | rfl | rfl | rfl | rfl | rfl | rfl
  all_goals simp [wordR_skip _ _ _ _ (src_ne q _)]
theorem src_inj {s s' : St} (q : Inv2 s) (q' : Inv2 s') {n : Nat} (h : srcT s n = srcT s' n) : s.pr n = s'.pr n ∧ s.hi n = s'.hi n ∧ s.pe n = s'.pe n ∧ s.se n = s'.se n := by
  simp only [srcT, List.cons.injEq] at h
  obtain ⟨h1, h2⟩ := h
  refine ⟨dig_inj (by have := q.pr n; omega) (by have := q'.pr n; omega) h1, ?_⟩
  simp only [flagK] at h2
  cases e1 : s.hi n <;> cases e2 : s.pe n <;> cases e3 : s.se n <;> cases e4 : s'.hi n <;> cases e5 : s'.pe n <;> cases e6 : s'.se n <;> rw [e1, e2, e3, e4, e5, e6] at h2 <;> first | exact ⟨rfl, rfl, rfl⟩ | (exfalso; revert h2; decide)
structure Inv3 (s : St) : Prop where
  pz : s.pe 0 = false
  sz : s.se 0 = false
theorem Eqv.of_text {s s' : St} (q : Inv2 s) (q' : Inv2 s') (z : Inv3 s) (z' : Inv3 s') (h : textS s = textS s') : Eqv s s' := by
  have hs : ∀ n, 1 ≤ n → n ≤ 7 → srcT s n = srcT s' n := fun n h1 h7 => by rw [← word_text q h1 h7, ← word_text q' h1 h7, h]
  have hw := fun n h1 h7 => src_inj q q' (hs n h1 h7)
  rw [textS_shape, textS_shape, hs 1 (by omega) (by omega), hs 2 (by omega) (by omega), hs 3 (by omega) (by omega), hs 4 (by omega) (by omega), hs 5 (by omega) (by omega), hs 6 (by omega) (by omega), hs 7 (by omega) (by omega)] at h
  simp only [List.append_cancel_left_eq, List.cons.injEq, true_and] at h
  simp only [ctxT, List.cons_append, List.nil_append, List.cons.injEq, and_true, true_and] at h
  obtain ⟨a1, a2, a3, a4, a5, a6⟩ := h
  have en : ∀ c, s.en c < 256 := q.en
  have en' : ∀ c, s'.en c < 256 := q'.en
  have b1 := dig_inj (by have := en 0; omega) (by have := en' 0; omega) a1
  have b2 := dig_inj (by omega) (by omega) a2
  have b3 := dig_inj (by have := q.th 0; omega) (by have := q'.th 0; omega) a3
  have b4 := dig_inj (by have := en 1; omega) (by have := en' 1; omega) a4
  have b5 := dig_inj (by omega) (by omega) a5
  have b6 := dig_inj (by have := q.th 1; omega) (by have := q'.th 1; omega) a6
  refine ⟨fun n hn => ?_, fun n hn => ?_, fun n hn => ?_, fun n hn => ?_, fun c hc => ?_, fun c hc => ?_⟩
  · by_cases h0 : n = 0
    · subst h0; rw [q.p0, q'.p0]
    · exact (hw n (by omega) (by omega)).1
  · by_cases h0 : n = 0
    · subst h0; rw [q.h0, q'.h0]
    · exact (hw n (by omega) (by omega)).2.1
  · by_cases h0 : n = 0
    · subst h0; rw [z.pz, z'.pz]
    · exact (hw n (by omega) (by omega)).2.2.1
  · by_cases h0 : n = 0
    · subst h0; rw [z.sz, z'.sz]
    · exact (hw n (by omega) (by omega)).2.2.2
  · obtain rfl | rfl : c = 0 ∨ c = 1 := by omega
    · omega
    · omega
  · obtain rfl | rfl : c = 0 ∨ c = 1 := by omega
    · exact b3
    · exact b6
theorem Inv3.gate {s : St} (z : Inv3 s) (h0 : s.hi 0 = false) (n : Nat) : Inv3 (gateS s n) := by
  refine ⟨?_, by rw [gate_se]; exact z.sz⟩
  rw [gate_pe]
  split
  · rename_i h
    by_cases hn : n = 0
    · subst hn; rw [h0] at h; simp at h
    · rw [upd1_ne _ _ (by omega)]; exact z.pz
  · exact z.pz
theorem Inv3.raise {s : St} (q : Inv2 s) (z : Inv3 s) {n : Nat} (hn : 1 ≤ n) (x : Bool) : Inv3 (raiseS s n x) := by
  unfold raiseS
  exact Inv3.gate (s := { s with hi := upd1 s.hi n x }) ⟨z.pz, z.sz⟩ (by show upd1 s.hi n x 0 = false; rw [upd1_ne _ _ (by omega)]; exact q.h0) n
theorem Inv3.claim {s : St} (z : Inv3 s) (c : Nat) : Inv3 (claimS s c) := by
  unfold claimS
  split
  · exact ⟨by show upd1 s.pe _ false 0 = false; unfold upd1; split; rfl; exact z.pz, by show upd1 s.se _ true 0 = false; rw [upd1_ne _ _ (by omega)]; exact z.sz⟩
  · exact z
theorem Inv3.complete {s : St} (q : Inv2 s) (z : Inv3 s) (c n : Nat) : Inv3 (completeS s c n) := by
  unfold completeS
  split
  · exact z
  · exact Inv3.gate (s := { s with se := upd1 s.se n false }) ⟨z.pz, by show upd1 s.se n false 0 = false; unfold upd1; split; rfl; exact z.sz⟩ q.h0 n
theorem Inv3.read {s : St} (z : Inv3 s) (off : Nat) : Inv3 (readS s off).2 := by
  unfold readS
  repeat' split
  all_goals first | exact z | exact z.claim _
theorem Inv3.write {s : St} (q : Inv2 s) (z : Inv3 s) (off v : Nat) : Inv3 (writeS s off v) := by
  unfold writeS
  repeat' split
  all_goals first | exact z | exact ⟨z.pz, z.sz⟩ | exact z.complete q _ _
theorem Inv3.one {s : St} (q : Inv2 s) (z : Inv3 s) (a : Act) : Inv3 (oneS a s) := by
  unfold oneS
  repeat' split
  · exact z.raise q (by omega) _
  · exact z
  · exact z.read _
  · exact z
  · exact z.write q _ _
  · exact z
theorem Inv3.st0 : Inv3 st0 := ⟨rfl, rfl⟩
end Go.Proofs.YtfdhahnnhaeibaaDoor
