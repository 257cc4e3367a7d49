/-
  Which devices are the same: of the program.
-/
import Derived.Test.YtkbiadobkheafaaX7
set_option linter.unusedSimpArgs false
set_option linter.unusedVariables false
set_option linter.unusedSectionVars false
namespace Go.Proofs.Ytkbiadobkheafaa
open Go Go.Mini Go.Proofs.Try
set_option maxRecDepth 100000

theorem eqPl_66 : eqPl prog 8 66 = some ((List.range 2057).map fun o => (o, 0)) := by kernel_rfl
theorem eqGT_66 : eqGT prog 66 = false := by kernel_rfl
/-- A state's cells. -/
def stC (d : Dev) : Array Value := (devC d).extract 1 2058
theorem stC_size (d : Dev) : (stC d).size = 2057 := by simp [stC]
theorem stC_at (d : Dev) {i : Nat} (h : i < 2057) : (stC d)[i]? = some (cell d (i + 1)) := by
  unfold stC
  rw [Array.getElem?_extract, if_pos (by simp; omega), Nat.add_comm 1 i, devC_at d (by omega)]
theorem stC_ext {d : Dev} {a : Array Value} (hs : a.size = 2057) (h : ∀ i, i < 2057 → a[i]? = some (cell d (i + 1))) : a = stC d := by
  apply Array.ext_getElem?
  intro i
  rcases Nat.lt_or_ge i 2057 with hi | hi
  · rw [h i hi, stC_at d hi]
  · rw [Array.getElem?_eq_none (by omega), Array.getElem?_eq_none (by rw [stC_size]; omega)]
theorem cell_one (d : Dev) (i : Nat) : (cell d i).oneCell' = true ∧ vtop (cell d i) = 0 := by
  unfold cell
  (repeat' split) <;> exact ⟨rfl, rfl⟩
theorem stC_mem {d : Dev} {v : Value} (h : v ∈ (stC d).toList) : ∃ i, v = cell d i := by
  obtain ⟨j, hj⟩ := List.mem_iff_getElem?.1 h
  rw [Array.getElem?_toList] at hj
  rcases Nat.lt_or_ge j 2057 with hi | hi
  · rw [stC_at d hi] at hj; cases hj; exact ⟨_, rfl⟩
  · rw [Array.getElem?_eq_none (by rw [stC_size]; omega)] at hj; cases hj
theorem oneAll_of {l : List Value} (h : ∀ v ∈ l, v.oneCell' = true) : oneAll l = true := by
  induction l with
  | nil => rfl
  | cons v l ih => rw [oneAll_cons, h v (by simp), ih fun w hw => h w (by simp [hw])]; rfl
theorem vtopL_of {l : List Value} (h : ∀ v ∈ l, vtop v = 0) : vtopL l = 0 := by
  induction l with
  | nil => rfl
  | cons v l ih => rw [vtopL_cons, h v (by simp), ih fun w hw => h w (by simp [hw])]; rfl
theorem stC_one (d : Dev) : oneAll (stC d).toList = true := oneAll_of fun v hv => by obtain ⟨i, rfl⟩ := stC_mem hv; exact (cell_one d i).1
theorem stC_top (d : Dev) : vtopL (stC d).toList = 0 := vtopL_of fun v hv => by obtain ⟨i, rfl⟩ := stC_mem hv; exact (cell_one d i).2
theorem allEq_dec {xs ys : Array Value} : ∀ {l : List (Nat × Nat)}, (∀ p ∈ l, ∃ a b r, xs[p.1]? = some a ∧ ys[p.1]? = some b ∧ leafEq p.2 a b = some r ∧ (r = true ↔ a = b)) → ∃ r, allEq l xs ys = some r ∧ (r = true ↔ ∀ p ∈ l, xs[p.1]? = ys[p.1]?) := by
  intro l
  induction l with
  | nil => intro _; exact ⟨true, rfl, by simp⟩
  | cons p l ih =>
    intro h
    obtain ⟨r, h1, h2⟩ := ih fun q hq => h q (List.mem_cons_of_mem _ hq)
    obtain ⟨a, b, r0, e1, e2, e3, e4⟩ := h p (by simp)
    obtain ⟨o, k⟩ := p
    refine ⟨r0 && r, by rw [allEq_cons, e1, e2, h1, allV_some, e3, allC_some], ?_⟩
    rw [Bool.and_eq_true, e4, h2]
    simp only [List.mem_cons, forall_eq_or_imp, e1, e2, Option.some.injEq]
theorem leaf_u (k : IntKind) (a b : Int) : ∃ r, leafEq 0 (.int k a) (.int k b) = some r ∧ (r = true ↔ Value.int k a = .int k b) := ⟨_, leafEq_int k a b, by rw [decide_eq_true_iff]; constructor <;> intro h <;> simpa using h⟩
theorem cell_leaf (d d' : Dev) {i : Nat} (hi : 0 < i) : ∃ r, leafEq 0 (cell d i) (cell d' i) = some r ∧ (r = true ↔ cell d i = cell d' i) := by
  rcases Nat.lt_or_ge i 10 with h | h
  · rcases (by omega : i = 1 ∨ i = 2 ∨ i = 3 ∨ i = 4 ∨ i = 5 ∨ i = 6 ∨ i = 7 ∨ i = 8 ∨ i = 9) with rfl | rfl | rfl | rfl | rfl | rfl | rfl | rfl | rfl <;> exact leaf_u _ _ _
  · rw [cell_S d h, cell_S d' h]; exact leaf_u _ _ _
theorem eq_stC (d d' : Dev) : ∃ r : Bool, (∀ xo yo, abin prog .eql 66 xo yo (.agg (stC d)) (.agg (stC d')) = some (.bool r)) ∧ (r = true ↔ ∀ i, 1 ≤ i → i < 2058 → cell d i = cell d' i) := by
  obtain ⟨r, h1, h2⟩ := allEq_dec (xs := stC d) (ys := stC d') (l := (List.range 2057).map fun o => (o, 0)) fun p hp => by
    obtain ⟨o, ho, rfl⟩ := List.mem_map.1 hp
    have ho := List.mem_range.1 ho
    obtain ⟨r, g1, g2⟩ := cell_leaf d d' (i := o + 1) (by omega)
    exact ⟨_, _, r, stC_at d ho, stC_at d' ho, g1, g2⟩
  refine ⟨r, fun xo yo => ?_, ?_⟩
  · rw [abin_agg_eql, eqPl_66, aggSz_66, eqGT_66, eqA_some, eqAC_ok ⟨stC_size d, stC_size d'⟩ ⟨stC_one d, stC_one d'⟩ ⟨stC_top d, stC_top d'⟩, h1, aggB_some]
  · rw [h2]
    constructor
    · intro h i h1 h2
      have := h (i - 1, 0) (List.mem_map.2 ⟨i - 1, List.mem_range.2 (by omega), rfl⟩)
      simp only at this
      rw [stC_at d (by omega), stC_at d' (by omega), show i - 1 + 1 = i by omega] at this
      exact Option.some.inj this
    · intro h p hp
      obtain ⟨o, ho, rfl⟩ := List.mem_map.1 hp
      have ho := List.mem_range.1 ho
      simp only
      rw [stC_at d ho, stC_at d' ho, h (o + 1) (by omega) (by omega)]
/-- Without what makes no difference. -/
def shownD (d : Dev) : Dev := if d.st = 1 then d else { d with us := 0, uc := 0, ua := 0, lf := 0 }
section
variable {h : Hp} {K : Value → Hp → Prop} {p : Nat} {d : Dev}
theorem shown_call (hb : h.blks p = some ⟨devC d, 1, true⟩) (hd : d.ok) (hp : p < h.next) (hK : ∀ h', Ext h h' → K (.agg (stC (shownD d))) h') : ACall prog 41 [ptr p] h K := by
  refine acallF_of tb0 func41 rfl rfl mixed (by kernel_rfl) fun hwf => ?_
  have cs : (devC d).size = 2058 := by simp
  obtain ⟨s, hs⟩ : ∃ s, s = (devC d).extract 1 2058 := ⟨_, rfl⟩
  have ss : s.size = 2057 := by rw [hs]; simp
  have s6 : s[6]? = some (.int .u8 d.st) := by rw [hs]; exact stC_at d (i := 6) (by omega)
  have so : oneAll s.toList = true := by rw [hs]; exact stC_one d
  have sp : putL (zL).toArray 0 s.toList = s := putL_full (by rw [ss]; simp [zL_len])
  have se : s.extract 0 2057 = s := by have := Array.extract_size (xs := s); rwa [ss] at this
  have st4 := hd.st
  have hpn : ¬ p = h.next := by omega
  obtain ⟨c, hc⟩ : ∃ c, c = devC d := ⟨_, rfl⟩
  rw [← hc] at cs hb
  have hs' : c.extract 1 2058 = s := by rw [hc]; exact hs.symm
  obtain ⟨st, hst⟩ : ∃ st, st = d.st := ⟨_, rfl⟩
  rw [← hst] at s6 st4
  by_cases c1 : st = 1
  · have e1 : stC (shownD d) = s := by unfold shownD; rw [if_pos (hst ▸ c1)]; exact hs.symm
    rw [e1] at hK
    subst c1
    clear hs hc
    simp -dsimp (disch := omega) [hb, cs, hs', zL_len, hpn, so, sp, ss, s6, se, -getElem?_pos]
    exact RetF.all (r := .agg s) (by simp [ss, se]) (hK _ ((Ext.alloc _ _).then_alloc _))
  · have c1' : ¬ (st : Int) = 1 := by omega
    have e0 : shownD d = { d with us := 0, uc := 0, ua := 0, lf := 0 } := by unfold shownD; rw [if_neg (by rw [← hst]; exact c1)]
    have e1 : (putL s 3 [.int .u32 0, .int .u32 0, .int .u64 0]).setIfInBounds 7 (.int .u32 0) = stC (shownD d) := by
      refine stC_ext (by simp [ss]) fun i hi => ?_
      rw [e0, Array.getElem?_setIfInBounds, getElem?_putL]
      have sat : ∀ {j}, j < 2057 → s[j]? = some (cell d (j + 1)) := fun hj => by rw [hs]; exact stC_at d hj
      rcases Nat.lt_or_ge i 9 with h9 | h9
      · rcases (by omega : i = 0 ∨ i = 1 ∨ i = 2 ∨ i = 6 ∨ i = 8 ∨ i = 3 ∨ i = 4 ∨ i = 5 ∨ i = 7) with rfl | rfl | rfl | rfl | rfl | rfl | rfl | rfl | rfl
        iterate 5 (rw [if_neg (by decide), if_neg (by simp), sat (by omega)]; rfl)
        iterate 3 (rw [if_neg (by decide), if_pos (by simp [ss])]; rfl)
        rw [if_pos rfl, if_pos (by simp [ss])]; rfl
      · rw [if_neg (by omega), if_neg (by simp; omega), sat hi, cell_S _ (by omega), cell_S _ (by omega)]
    have e2 : putL s 3 [.int .u32 0, .int .u32 0, .int .u64 0] = ((s.setIfInBounds 3 (.int .u32 0)).setIfInBounds 4 (.int .u32 0)).setIfInBounds 5 (.int .u64 0) := rfl
    rw [e2] at e1
    obtain ⟨s3, hs3⟩ : ∃ s', s.setIfInBounds 3 (.int .u32 0) = s' := ⟨_, rfl⟩
    have z3 : s3.size = 2057 := by rw [← hs3]; simp [ss]
    rw [hs3] at e1
    obtain ⟨s4, hs4⟩ : ∃ s', s3.setIfInBounds 4 (.int .u32 0) = s' := ⟨_, rfl⟩
    have z4 : s4.size = 2057 := by rw [← hs4]; simp [z3]
    rw [hs4] at e1
    obtain ⟨s5, hs5⟩ : ∃ s', s4.setIfInBounds 5 (.int .u64 0) = s' := ⟨_, rfl⟩
    have z5 : s5.size = 2057 := by rw [← hs5]; simp [z4]
    rw [hs5] at e1
    obtain ⟨s', hs2⟩ : ∃ s', s5.setIfInBounds 7 (.int .u32 0) = s' := ⟨_, rfl⟩
    rw [hs2] at e1
    have ss' : s'.size = 2057 := by rw [← hs2]; simp [z5]
    have so' : oneAll s'.toList = true := by rw [e1]; exact stC_one _
    have sp' : putL (zL).toArray 0 s'.toList = s' := putL_full (by rw [ss']; simp [zL_len])
    have se' : s'.extract 0 2057 = s' := by have := Array.extract_size (xs := s'); rwa [ss'] at this
    rw [← e1] at hK
    clear hs hc e1 e2
    simp -dsimp (disch := omega) [hb, cs, hs', zL_len, hpn, so, sp, ss, s6, c1, c1', hs3, hs4, hs5, hs2, z3, z4, z5, ss', so', sp', se', -getElem?_pos]
    exact RetF.all (r := .agg s') (by simp [ss', se']) (hK _ ((Ext.alloc _ _).then_alloc _))
theorem shown_as {A : Array Value} (hA : A = stC (shownD d)) (hb : h.blks p = some ⟨devC d, 1, true⟩) (hd : d.ok) (hp : p < h.next) (hK : ∀ h', Ext h h' → K (.agg A) h') : ACall prog 41 [ptr p] h K := shown_call hb hd hp fun h' e => hA ▸ hK h' e
theorem same_call {p' : Nat} {d' : Dev} (hb : h.blks p = some ⟨devC d, 1, true⟩) (hd : d.ok) (hp : p < h.next) (hb' : h.blks p' = some ⟨devC d', 1, true⟩) (hd' : d'.ok) (hp' : p' < h.next) (hK : ∀ h' s, Ext h h' → (s = true ↔ ∀ i, 1 ≤ i → i < 2058 → cell (shownD d) i = cell (shownD d') i) → K (.bool s) h') : ACall prog 22 [ptr p, ptr p'] h K := by
  refine acallF_of tb0 func22 rfl rfl mixed (by kernel_rfl) fun hwf => ?_
  obtain ⟨s, e1, e2⟩ := eq_stC (shownD d) (shownD d')
  obtain ⟨A, hA⟩ : ∃ A, A = stC (shownD d) := ⟨_, rfl⟩
  obtain ⟨B, hB⟩ : ∃ B, B = stC (shownD d') := ⟨_, rfl⟩
  rw [← hA, ← hB] at e1
  simp -dsimp (disch := omega)
  refine is_call hb ?_
  simp -dsimp (disch := omega)
  refine is_call hb' ?_
  simp -dsimp (disch := omega)
  refine shown_as hA hb hd hp fun h1 x1 => ?_
  simp -dsimp (disch := omega)
  refine shown_as hB ((x1.same _ hp').trans hb') hd' (Nat.lt_of_lt_of_le hp' x1.le) fun h2 x2 => ?_
  clear hA hB
  simp -dsimp (disch := omega) [e1, -abin_agg_eql]
  exact RetF.all (r := .bool s) (by simp) (hK _ s (x1.trans x2) e2)
end
end Go.Proofs.Ytkbiadobkheafaa
