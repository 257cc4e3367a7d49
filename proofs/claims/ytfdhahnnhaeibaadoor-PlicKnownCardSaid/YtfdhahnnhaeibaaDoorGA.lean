/-
  A PLIC's block; is, New, gate, Raise. best: the source that counts most. Calls, may; what registers tell. claim, complete; what registers are set to. enable, pending, complete. complete. find: the register of an offset. Read. Write. reads. given, works. The plain law of what a PLIC serves.
-/
import Derived.Test.YtfdhahnnhaeibaaDoorF
import Derived.Test.YtfdhahnnhaeibaaDoorM25
import Derived.Test.YtfdhahnnhaeibaaDoorM19
set_option linter.unusedSimpArgs false
set_option linter.unusedVariables false
set_option linter.unusedSectionVars false

namespace Go.Proofs.YtfdhahnnhaeibaaDoor
open Go Go.Mini Go.Proofs.Tryd
set_option maxRecDepth 100000

def tb0 : Nat → Marks := fun _ => ⟨[], fun _ => True⟩
@[simp] theorem tb0_l (k : Nat) : (tb0 k).l = [] := id rfl
abbrev ptr (p : Nat) : Value := .pointer (some ⟨p, 0, none⟩)
/-- What a PLIC is: of sources their priority, level, pending, serving; of contexts what is enabled, and the threshold. -/
structure St where
  pr : Nat → Nat
  hi : Nat → Bool
  pe : Nat → Bool
  se : Nat → Bool
  en : Nat → Nat
  th : Nat → Nat
def cell (s : St) (i : Nat) : Value :=
  if i = 0 then .bool true else if i < 33 then
    (if (i - 1) % 4 = 0 then .int .u8 (s.pr ((i - 1) / 4)) else if (i - 1) % 4 = 1 then .bool (s.hi ((i - 1) / 4)) else if (i - 1) % 4 = 2 then .bool (s.pe ((i - 1) / 4)) else .bool (s.se ((i - 1) / 4)))
  else if (i - 33) % 2 = 0 then .int .u8 (s.en ((i - 33) / 2)) else .int .u8 (s.th ((i - 33) / 2))
def stC (s : St) : Array Value := ((List.range 37).map (cell s)).toArray
@[simp] theorem stC_size (s : St) : (stC s).size = 37 := by simp [stC]
theorem stC_at (s : St) {i : Nat} (h : i < 37) : (stC s)[i]? = some (cell s i) := by
  unfold stC
  rw [List.getElem?_toArray, List.getElem?_map, List.getElem?_range h]
  rfl
theorem stC_0 (s : St) : (stC s)[0]? = some (.bool true) := stC_at s (by omega)
theorem stC_pr (s : St) {n : Nat} (h : n < 8) : (stC s)[1 + n * 4]? = some (.int .u8 (s.pr n)) := by
  rw [stC_at s (by omega)]; unfold cell
  rw [if_neg (by omega), if_pos (by omega), if_pos (by omega), show (1 + n * 4 - 1) / 4 = n by omega]
theorem stC_hi (s : St) {n : Nat} (h : n < 8) : (stC s)[1 + n * 4 + 1]? = some (.bool (s.hi n)) := by
  rw [stC_at s (by omega)]; unfold cell
  rw [if_neg (by omega), if_pos (by omega), if_neg (by omega), if_pos (by omega), show (1 + n * 4 + 1 - 1) / 4 = n by omega]
theorem stC_pe (s : St) {n : Nat} (h : n < 8) : (stC s)[1 + n * 4 + 2]? = some (.bool (s.pe n)) := by
  rw [stC_at s (by omega)]; unfold cell
  rw [if_neg (by omega), if_pos (by omega), if_neg (by omega), if_neg (by omega), if_pos (by omega), show (1 + n * 4 + 2 - 1) / 4 = n by omega]
theorem stC_se (s : St) {n : Nat} (h : n < 8) : (stC s)[1 + n * 4 + 3]? = some (.bool (s.se n)) := by
  rw [stC_at s (by omega)]; unfold cell
  rw [if_neg (by omega), if_pos (by omega), if_neg (by omega), if_neg (by omega), if_neg (by omega), show (1 + n * 4 + 3 - 1) / 4 = n by omega]
theorem stC_en (s : St) {c : Nat} (h : c < 2) : (stC s)[33 + c * 2]? = some (.int .u8 (s.en c)) := by
  rw [stC_at s (by omega)]; unfold cell
  rw [if_neg (by omega), if_neg (by omega), if_pos (by omega), show (33 + c * 2 - 33) / 2 = c by omega]
theorem stC_th (s : St) {c : Nat} (h : c < 2) : (stC s)[33 + c * 2 + 1]? = some (.int .u8 (s.th c)) := by
  rw [stC_at s (by omega)]; unfold cell
  rw [if_neg (by omega), if_neg (by omega), if_neg (by omega), show (33 + c * 2 + 1 - 33) / 2 = c by omega]
/-- One cell is set. -/
theorem stC_set {s s' : St} {k : Nat} {v : Value} (hk : k < 37) (hv : cell s' k = v) (h : ∀ i, i < 37 → i ≠ k → cell s' i = cell s i) : (stC s).setIfInBounds k v = stC s' := by
  apply Array.ext_getElem?
  intro i
  rw [Array.getElem?_setIfInBounds]
  by_cases hi : i < 37
  · rw [stC_at s' hi]
    split
    · rename_i e
      subst e
      rw [if_pos (by simpa using hk), hv]
    · rename_i e
      rw [stC_at s hi, h i hi (fun e' => e e'.symm)]
  · rw [Array.getElem?_eq_none (by simp; omega), if_neg (by omega), Array.getElem?_eq_none (by simp; omega)]
def upd1 {α : Type} (m : Nat → α) (n : Nat) (x : α) : Nat → α := fun i => if i = n then x else m i
section
variable {h : Hp} {K : Value → Hp → Prop} {p : Nat} {s : St}
theorem is_call (hb : h.blks p = some ⟨stC s, 1, true⟩) (hK : K (.bool true) h) : ACall prog 22 [ptr p] h K := by
  refine acallF_of tb0 func22 rfl rfl mixed (by kernel_rfl) fun hwf => ?_
  simp -dsimp (disch := omega) [hb, stC_0]
  exact RetF.same hwf (by simp) (Nat.zero_le _) (fun _ _ => rfl) hK
def st0 : St := ⟨fun _ => 0, fun _ => false, fun _ => false, fun _ => false, fun _ => 0, fun _ => 0⟩
theorem new_call (hK : K (ptr h.next) (h.alloc ⟨stC st0, 1, true⟩)) : ACall prog 8 [] h K := by
  refine acallF_of tb0 func8 rfl rfl mixed (by kernel_rfl) fun hwf => ?_
  simp -dsimp (disch := omega)
  refine RetF.all (r := ptr h.next) (by simp) ?_
  have e : stC st0 = #[.bool true, .int .u8 0, .bool false, .bool false, .bool false, .int .u8 0, .bool false, .bool false, .bool false, .int .u8 0, .bool false, .bool false, .bool false, .int .u8 0, .bool false, .bool false, .bool false, .int .u8 0, .bool false, .bool false, .bool false, .int .u8 0, .bool false, .bool false, .bool false, .int .u8 0, .bool false, .bool false, .bool false, .int .u8 0, .bool false, .bool false, .bool false, .int .u8 0, .int .u8 0, .int .u8 0, .int .u8 0] := by kernel_rfl
  rw [e] at hK
  exact hK
theorem set_same {h : Hp} {p : Nat} {b : Blk} (hb : h.blks p = some b) : h.set p b = h := by
  have : (h.set p b).blks = h.blks := by
    funext i
    rw [Hp.blks_set]
    split
    · rename_i e; rw [e, hb]
    · rfl
  cases h
  simp only [Hp.set] at this ⊢
  simp [this]
theorem stC_setpe {s : St} {n : Nat} (hn : n < 8) (x : Bool) : (stC s).setIfInBounds (1 + n * 4 + 2) (.bool x) = stC { s with pe := upd1 s.pe n x } := by
  refine stC_set (by omega) ?_ fun i hi hne => ?_
  · unfold cell
    rw [if_neg (by omega), if_pos (by omega), if_neg (by omega), if_neg (by omega), if_pos (by omega), show (1 + n * 4 + 2 - 1) / 4 = n by omega]
    simp [upd1]
  · unfold cell
    by_cases h2 : i ≠ 0 ∧ i < 33 ∧ (i - 1) % 4 = 2
    · obtain ⟨h2, h3, h4⟩ := h2
      rw [if_neg h2, if_pos h3, if_neg (by omega), if_neg (by omega), if_pos h4, if_neg h2, if_pos h3, if_neg (by omega), if_neg (by omega), if_pos h4]
      simp only [upd1]
      rw [if_neg (by omega)]
    · split
      · rfl
      · split
        · split
          · rfl
          · split
            · rfl
            · split
              · omega
              · rfl
        · rfl
theorem stC_sethi {s : St} {n : Nat} (hn : n < 8) (x : Bool) : (stC s).setIfInBounds (1 + n * 4 + 1) (.bool x) = stC { s with hi := upd1 s.hi n x } := by
  refine stC_set (by omega) ?_ fun i hi hne => ?_
  · unfold cell
    rw [if_neg (by omega), if_pos (by omega), if_neg (by omega), if_pos (by omega), show (1 + n * 4 + 1 - 1) / 4 = n by omega]
    simp [upd1]
  · unfold cell
    by_cases h2 : i ≠ 0 ∧ i < 33 ∧ (i - 1) % 4 = 1
    · obtain ⟨h2, h3, h4⟩ := h2
      rw [if_neg h2, if_pos h3, if_neg (by omega), if_pos h4, if_neg h2, if_pos h3, if_neg (by omega), if_pos h4]
      simp only [upd1]
      rw [if_neg (by omega)]
    · split
      · rfl
      · split
        · split
          · rfl
          · split
            · omega
            · rfl
        · rfl
/-- A source lets a high level through. -/
def gateS (s : St) (n : Nat) : St := if (s.hi n && !s.pe n && !s.se n) = true then { s with pe := upd1 s.pe n true } else s
theorem gate_call {n : Nat} (hb : h.blks p = some ⟨stC s, 1, true⟩) (hn : n < 8) (hK : K (.tuple #[]) (h.set p ⟨stC (gateS s n), 1, true⟩)) : ACall prog 23 [.pointer (some ⟨p, 1 + n * 4, none⟩)] h K := by
  refine acallF_of tb0 func23 rfl rfl mixed (by kernel_rfl) fun hwf => ?_
  have a1 := stC_hi s hn
  have a2 := stC_pe s hn
  have a3 := stC_se s hn
  unfold gateS at hK
  have hset := stC_setpe (s := s) hn true
  by_cases hg : (s.hi n && !s.pe n && !s.se n) = true
  · rw [if_pos hg] at hK
    obtain ⟨⟨e1, e2⟩, e3⟩ : (s.hi n = true ∧ s.pe n = false) ∧ s.se n = false := by simpa using hg
    rw [e1] at a1
    rw [e2] at a2
    rw [e3] at a3
    simp -dsimp (disch := omega) [hb, a1, a2, a3, hset]
    exact RetF.all (by simp) hK
  · rw [if_neg hg, set_same hb] at hK
    cases e1 : s.hi n <;> cases e2 : s.pe n <;> cases e3 : s.se n <;> first | (exfalso; rw [e1, e2, e3] at hg; exact hg rfl) | (rw [e1] at a1; rw [e2] at a2; rw [e3] at a3; simp -dsimp (disch := omega) [hb, a1, a2, a3]; exact RetF.same hwf (by simp) (Nat.zero_le _) (fun _ _ => rfl) hK)
def raiseS (s : St) (n : Nat) (x : Bool) : St := gateS { s with hi := upd1 s.hi n x } n
theorem raise_call {n : Int} {x : Bool} (hb : h.blks p = some ⟨stC s, 1, true⟩) (h1 : n < 1 ∨ 8 ≤ n → K (.int .i64 2) h) (h2 : ∀ m : Nat, n = m → 1 ≤ m → m < 8 → K (.int .i64 0) (h.set p ⟨stC (raiseS s m x), 1, true⟩)) : ACall prog 10 [ptr p, .int .i64 n, .bool x] h K := by
  refine acallF_of tb0 func10 rfl rfl mixed (by kernel_rfl) fun hwf => ?_
  simp -dsimp (disch := omega)
  refine is_call hb ?_
  by_cases c1 : n < 1
  · simp -dsimp (disch := omega) [c1]
    exact RetF.same hwf (by simp) (Nat.zero_le _) (fun _ _ => rfl) (h1 (.inl c1))
  · by_cases c2 : 8 ≤ n
    · simp -dsimp (disch := omega) [c1, c2]
      exact RetF.same hwf (by simp) (Nat.zero_le _) (fun _ _ => rfl) (h1 (.inr c2))
    · obtain ⟨m, rfl⟩ : ∃ m : Nat, n = m := ⟨n.toNat, by omega⟩
      have hm : m < 8 := by omega
      have c1n : ¬ m < 1 := by omega
      have c2n : ¬ 8 ≤ m := by omega
      have hK := h2 m rfl (by omega) hm
      have hset := stC_sethi (s := s) hm x
      simp -dsimp (disch := omega) [c1, c2, c1n, c2n, hb, hset]
      refine gate_call (n := m) (s := { s with hi := upd1 s.hi m x }) (blks_set_eq _ _ _) hm ?_
      simp -dsimp (disch := omega)
      exact RetF.all (by simp) hK
end
end Go.Proofs.YtfdhahnnhaeibaaDoor
namespace Go.Proofs.YtfdhahnnhaeibaaDoor
open Go Go.Mini Go.Proofs.Tryd
set_option maxRecDepth 100000

theorem bv8_of (n : Nat) (hn : n < 256) : (BitVec.ofInt 8 (n : Int)).toNat = n := by
  rw [BitVec.toNat_ofInt]; omega
theorem and1_u8 (y : Nat) (hy : y < 256) (ty : TypeId) (xo yo : Operand) : abin prog .and ty xo yo (.int .u8 (y : Nat)) (.int .u8 1) = some (.int .u8 ((y % 2 : Nat) : Int)) := by
  rw [abin_and]
  have e : (BitVec.ofInt IntKind.u8.bits (y : Int) &&& BitVec.ofInt IntKind.u8.bits 1).toNat = y % 2 := by
    rw [BitVec.toNat_and, show IntKind.u8.bits = 8 from rfl, bv8_of y hy, show (BitVec.ofInt 8 1).toNat = 1 from rfl, Nat.and_one_is_mod]
  rw [e, IntWalk.u8_in _ (by omega)]
theorem shr_u8 (y k : Nat) (hk : k < 8) (ty : TypeId) (xo yo : Operand) : abin prog .shr ty xo yo (.int .u8 (y : Nat)) (.int .i64 (k : Nat)) = some (.int .u8 ((y / 2 ^ k : Nat) : Int)) := by
  have e : ((y : Int).fdiv (2 ^ (min ((k : Nat) : Int).toNat IntKind.u8.bits))) = ((y / 2 ^ k : Nat) : Int) := by
    rw [show min ((k : Nat) : Int).toNat IntKind.u8.bits = k from by show min ((k : Nat) : Int).toNat 8 = k; omega, Int.fdiv_eq_ediv_of_nonneg _ (Int.le_of_lt (Int.pow_pos (by omega))), Int.natCast_ediv, Int.natCast_pow]
    rfl
  have h1 := abin_shr (P := prog) (ty := ty) (xo := xo) (yo := yo) (k := .u8) (k' := .i64) (a := (y : Int)) (b := (k : Int)) (by omega)
  rw [e] at h1
  exact h1

/-- Does a source count for a context? -/
def counts (s : St) (c k : Nat) : Bool := s.pe k && decide (s.en c / 2 ^ k % 2 ≠ 0)
def bestK (s : St) (c : Nat) : Nat → Nat
  | 0 => 0
  | k + 1 => if counts s c k = true ∧ s.pr (bestK s c k) < s.pr k then k else bestK s c k
def bestS (s : St) (c : Nat) : Nat := bestK s c 8
theorem bestK_lt (s : St) (c : Nat) : ∀ k, bestK s c k = 0 ∨ bestK s c k < k := by
  intro k
  induction k with
  | zero => exact .inl rfl
  | succ k ih =>
    simp only [bestK]
    split
    · exact .inr (by omega)
    · rcases ih with h | h
      · exact .inl h
      · exact .inr (by omega)
/-- Numbers of a PLIC are bytes. -/
structure St.ok (s : St) : Prop where
  pr : ∀ n, s.pr n < 256
  en : ∀ c, s.en c < 256
  th : ∀ c, s.th c < 256
section
variable {h : Hp} {K : Value → Hp → Prop} {p : Nat} {s : St}
theorem src_cells (s : St) {k : Nat} (hk : k < 8) : ((stC s).extract 1 33).extract (k * 4) (k * 4 + 4) = #[.int .u8 (s.pr k), .bool (s.hi k), .bool (s.pe k), .bool (s.se k)] := by
  apply Array.ext_getElem?
  intro i
  rw [Array.getElem?_extract, Array.getElem?_extract]
  by_cases hi : i < 4
  · rw [if_pos (by simp; omega), if_pos (by simp; omega)]
    have e : i = 0 ∨ i = 1 ∨ i = 2 ∨ i = 3 := by omega
    rcases e with rfl | rfl | rfl | rfl
    · rw [show 1 + (k * 4 + 0) = 1 + k * 4 by omega, stC_pr s hk]; rfl
    · rw [show 1 + (k * 4 + 1) = 1 + k * 4 + 1 by omega, stC_hi s hk]; rfl
    · rw [show 1 + (k * 4 + 2) = 1 + k * 4 + 2 by omega, stC_pe s hk]; rfl
    · rw [show 1 + (k * 4 + 3) = 1 + k * 4 + 3 by omega, stC_se s hk]; rfl
  · rw [if_neg (by simp; omega)]
    symm
    simp
    omega
set_option maxHeartbeats 1000000 in
theorem best_call {c : Nat} (hb : h.blks p = some ⟨stC s, 1, true⟩) (hs : s.ok) (hc : c < 2) (hp : p < h.next) (hK : K (.int .i64 (bestS s c)) h) : ACall prog 27 [ptr p, .int .i64 c] h K := by
  refine acallF_of tb0 func27 rfl rfl mixed (by kernel_rfl) fun hwf => ?_
  obtain ⟨R, hR⟩ : ∃ R, R = (stC s).extract 1 33 := ⟨_, rfl⟩
  have hRs : R.size = 32 := by rw [hR]; simp
  simp -dsimp (disch := omega) [hb, ← hR]
  refine awp_loop (fun t h' => h.next ≤ h'.next ∧ (∀ i, i < h.next → h'.blks i = h.blks i) ∧ ∃ k : Nat, k ≤ 8 ∧ t 0 = ptr p ∧ t 1 = .int .i64 c ∧ t 4 = .int .i64 (bestK s c k) ∧ t 10 = .agg R ∧ t 11 = .int .i64 k) (fun t _ => 8 - ivN (t 11)) ?_ ?_
  · simp -dsimp (disch := omega)
    exact ⟨0, by omega, rfl, rfl⟩
  · rintro t h' ⟨hn, hsm, k, hk, t0, t1, t4, t10, t11⟩
    have hb' : h'.blks p = some ⟨stC s, 1, true⟩ := by rw [hsm _ hp]; exact hb
    refine vcF_sound mixed (tb := tb0) _ (by kernel_rfl) ?_
    simp -dsimp (disch := omega) [t11]
    refine CondF_dec (fun hc3 => ?_) (fun hc3 => ?_)
    · have hk8 : k < 8 := by omega
      have hsc := src_cells s hk8
      rw [← hR] at hsc
      have hbl := bestK_lt s c k
      have hb8 : bestK s c k < 8 := by omega
      have p1 := hs.pr k
      have p2 := hs.pr (bestK s c k)
      have p3 := hs.en c
      have en_ := stC_en s hc
      have pr_ := stC_pr s hb8
      have hbs : bestK s c (k + 1) = if counts s c k = true ∧ s.pr (bestK s c k) < s.pr k then k else bestK s c k := rfl
      generalize bestK s c k = n at *
      have a1 := shr_u8 (s.en c) k hk8
      have p4 : s.en c / 2 ^ k < 256 := Nat.lt_of_le_of_lt (Nat.div_le_self _ _) p3
      have a2 := and1_u8 (s.en c / 2 ^ k) p4
      unfold counts at hbs
      generalize s.en c / 2 ^ k = y at *
      have hkz : k * 4 + 4 ≤ 32 := by omega
      cases e1 : s.pe k with
      | false =>
        rw [e1, Bool.false_and, if_neg (by simp)] at hbs
        simp -dsimp (disch := omega) [t0, t1, t4, t10, t11, hsc, hRs, hkz, e1]
        exact ⟨⟨by omega, fun i hi => by rw [if_neg (by omega)]; exact hsm i hi, k + 1, by omega, by rw [hbs], by simp⟩, by simp [ivN]; omega⟩
      | true =>
        rw [e1, Bool.true_and] at hbs
        by_cases e2 : y % 2 = 0
        · rw [if_neg (by simp [e2])] at hbs
          have e2' : ((y % 2 : Nat) : Int) = 0 := by omega
          rw [e2'] at a2
          simp -dsimp (disch := omega) [t0, t1, t4, t10, t11, hsc, hRs, hkz, e1, hb', en_, a1, a2, -abin_shr, -abin_and]
          exact ⟨⟨by omega, fun i hi => by rw [if_neg (by omega)]; exact hsm i hi, k + 1, by omega, by rw [hbs], by simp⟩, by simp [ivN]; omega⟩
        · have e2' : ((y % 2 : Nat) : Int) = 1 := by omega
          rw [e2'] at a2
          by_cases e3 : s.pr n < s.pr k
          · have e3' : (s.pr n : Int) < s.pr k := by omega
            rw [if_pos ⟨by simp [e2], e3⟩] at hbs
            simp -dsimp (disch := omega) [t0, t1, t4, t10, t11, hsc, hRs, hkz, e1, hb', en_, pr_, a1, a2, e3, e3', -abin_shr, -abin_and]
            exact ⟨⟨by omega, fun i hi => by rw [if_neg (by omega)]; exact hsm i hi, k + 1, by omega, by rw [hbs], by simp⟩, by simp [ivN]; omega⟩
          · have e3' : ¬ (s.pr n : Int) < s.pr k := by omega
            rw [if_neg (fun hh => e3 hh.2)] at hbs
            simp -dsimp (disch := omega) [t0, t1, t4, t10, t11, hsc, hRs, hkz, e1, hb', en_, pr_, a1, a2, e3, e3', -abin_shr, -abin_and]
            exact ⟨⟨by omega, fun i hi => by rw [if_neg (by omega)]; exact hsm i hi, k + 1, by omega, by rw [hbs], by simp⟩, by simp [ivN]; omega⟩
    · have : k = 8 := by omega
      subst this
      simp -dsimp (disch := omega) [t4, t11]
      exact RetF.same hwf (by simp [t4]; rfl) (Nat.zero_le _) hsm hK
end
end Go.Proofs.YtfdhahnnhaeibaaDoor
namespace Go.Proofs.YtfdhahnnhaeibaaDoor
open Go Go.Mini Go.Proofs.Tryd
set_option maxRecDepth 100000

def callsS (s : St) (c : Nat) : Bool := decide (0 < bestS s c) && decide (s.th c < s.pr (bestS s c))
theorem bestS_lt (s : St) (c : Nat) : bestS s c < 8 := by
  have := bestK_lt s c 8
  unfold bestS
  omega
section
variable {h : Hp} {K : Value → Hp → Prop} {p : Nat} {s : St}
theorem calls_call {c : Nat} (hb : h.blks p = some ⟨stC s, 1, true⟩) (hs : s.ok) (hc : c < 2) (hp : p < h.next) (hK : K (.bool (callsS s c)) h) : ACall prog 12 [ptr p, .int .i64 c] h K := by
  refine acallF_of tb0 func12 rfl rfl mixed (by kernel_rfl) fun hwf => ?_
  have c1 : ¬ (c : Int) < 0 := by omega
  have c2 : ¬ (2 : Int) ≤ c := by omega
  have c2n : ¬ 2 ≤ c := by omega
  simp -dsimp (disch := omega)
  refine is_call hb ?_
  simp -dsimp (disch := omega) [c1, c2, c2n]
  refine best_call hb hs hc hp ?_
  have hbl := bestS_lt s c
  unfold callsS at hK
  have p1 := hs.pr (bestS s c)
  have p2 := hs.th c
  have a1 := stC_pr s hbl
  have a2 := stC_th s hc
  generalize bestS s c = n at *
  by_cases h0 : 0 < n
  · have h0' : (0 : Int) < n := by omega
    rw [decide_eq_true h0, Bool.true_and] at hK
    simp -dsimp (disch := omega) [h0, h0', hb, a1, a2]
    refine RetF.same (r := .bool (decide ((s.th c : Int) < s.pr n))) hwf (by simp) (Nat.zero_le _) (fun _ _ => rfl) ?_
    rw [show decide ((s.th c : Int) < s.pr n) = decide (s.th c < s.pr n) from by rw [decide_eq_decide]; omega]
    exact hK
  · have h0' : ¬ (0 : Int) < n := by omega
    rw [decide_eq_false h0, Bool.false_and] at hK
    simp -dsimp (disch := omega) [h0, h0']
    exact RetF.same hwf (by simp) (Nat.zero_le _) (fun _ _ => rfl) hK
theorem none_call {n : Int} (hK : K (.int .u64 0) h) : ACall prog 41 [ptr p, .int .i64 n] h K := by
  refine acallF_of tb0 func41 rfl rfl mixed (by kernel_rfl) fun hwf => ?_
  simp -dsimp (disch := omega)
  exact RetF.same hwf (by simp) (Nat.zero_le _) (fun _ _ => rfl) hK
theorem nothing_call {n v : Int} (hK : K (.tuple #[]) h) : ACall prog 42 [ptr p, .int .i64 n, .int .u64 v] h K := by
  refine acallF_of tb0 func42 rfl rfl mixed (by kernel_rfl) fun hwf => ?_
  simp -dsimp (disch := omega)
  exact RetF.same hwf (by simp) (Nat.zero_le _) (fun _ _ => rfl) hK
theorem priority_call {n : Nat} (hb : h.blks p = some ⟨stC s, 1, true⟩) (hs : s.ok) (hn : n < 8) (hK : K (.int .u64 (s.pr n : Nat)) h) : ACall prog 43 [ptr p, .int .i64 n] h K := by
  refine acallF_of tb0 func43 rfl rfl mixed (by kernel_rfl) fun hwf => ?_
  have a1 := stC_pr s hn
  have p1 := hs.pr n
  simp -dsimp (disch := omega) [hb, a1]
  exact RetF.same hwf (by simp) (Nat.zero_le _) (fun _ _ => rfl) hK
theorem enabled_call {c : Nat} (hb : h.blks p = some ⟨stC s, 1, true⟩) (hs : s.ok) (hc : c < 2) (hK : K (.int .u64 (s.en c : Nat)) h) : ACall prog 46 [ptr p, .int .i64 c] h K := by
  refine acallF_of tb0 func46 rfl rfl mixed (by kernel_rfl) fun hwf => ?_
  have a1 := stC_en s hc
  have p1 := hs.en c
  simp -dsimp (disch := omega) [hb, a1]
  exact RetF.same hwf (by simp) (Nat.zero_le _) (fun _ _ => rfl) hK
theorem threshold_call {c : Nat} (hb : h.blks p = some ⟨stC s, 1, true⟩) (hs : s.ok) (hc : c < 2) (hK : K (.int .u64 (s.th c : Nat)) h) : ACall prog 48 [ptr p, .int .i64 c] h K := by
  refine acallF_of tb0 func48 rfl rfl mixed (by kernel_rfl) fun hwf => ?_
  have a1 := stC_th s hc
  have p1 := hs.th c
  simp -dsimp (disch := omega) [hb, a1]
  exact RetF.same hwf (by simp) (Nat.zero_le _) (fun _ _ => rfl) hK
def mayN (off : Nat) (w : Int) : Bool := decide (w = 4) && decide (off % 4 = 0) && decide (off < 2105344)
theorem may_call {off : Nat} {w : Int} (hb : h.blks p = some ⟨stC s, 1, true⟩) (ho : off < 18446744073709551616) (hK : K (.bool (mayN off w)) h) : ACall prog 33 [ptr p, .int .u64 off, .int .i64 w] h K := by
  refine acallF_of tb0 func33 rfl rfl mixed (by kernel_rfl) fun hwf => ?_
  simp -dsimp (disch := omega)
  refine is_call hb ?_
  unfold mayN at hK
  obtain ⟨r, hr⟩ : ∃ r, r = off % 4 := ⟨_, rfl⟩
  rw [← hr] at hK
  have e1 : (off : Int) % 4 = r := by omega
  have e2 : Int.tmod (off : Int) 4 = r := by rw [Int.tmod_eq_emod_of_nonneg (by omega)]; exact e1
  by_cases c1 : w = 4
  · rw [decide_eq_true c1, Bool.true_and] at hK
    by_cases c2 : r = 0
    · rw [decide_eq_true c2, Bool.true_and] at hK
      simp -dsimp (disch := omega) [c1, e1, e2, c2]
      refine RetF.same (r := .bool (decide ((off : Int) < 2105344))) hwf (by simp) (Nat.zero_le _) (fun _ _ => rfl) ?_
      rw [show decide ((off : Int) < 2105344) = decide (off < 2105344) from by rw [decide_eq_decide]; omega]
      exact hK
    · rw [decide_eq_false c2, Bool.false_and] at hK
      simp -dsimp (disch := omega) [c1, e1, e2, c2]
      exact RetF.same hwf (by simp) (Nat.zero_le _) (fun _ _ => rfl) hK
  · rw [decide_eq_false c1, Bool.false_and, Bool.false_and] at hK
    simp -dsimp (disch := omega) [c1]
    exact RetF.same hwf (by simp) (Nat.zero_le _) (fun _ _ => rfl) hK
end
end Go.Proofs.YtfdhahnnhaeibaaDoor
namespace Go.Proofs.YtfdhahnnhaeibaaDoor
open Go Go.Mini Go.Proofs.Tryd
set_option maxRecDepth 100000

theorem stC_setse {s : St} {n : Nat} (hn : n < 8) (x : Bool) : (stC s).setIfInBounds (1 + n * 4 + 3) (.bool x) = stC { s with se := upd1 s.se n x } := by
  refine stC_set (by omega) ?_ fun i hi hne => ?_
  · unfold cell
    rw [if_neg (by omega), if_pos (by omega), if_neg (by omega), if_neg (by omega), if_neg (by omega), show (1 + n * 4 + 3 - 1) / 4 = n by omega]
    simp [upd1]
  · simp only [cell, upd1]
    repeat' split
    all_goals first | rfl | (exfalso; omega)
theorem stC_setpr {s : St} {n : Nat} (hn : n < 8) (x : Nat) : (stC s).setIfInBounds (1 + n * 4) (.int .u8 x) = stC { s with pr := upd1 s.pr n x } := by
  refine stC_set (by omega) ?_ fun i hi hne => ?_
  · unfold cell
    rw [if_neg (by omega), if_pos (by omega), if_pos (by omega), show (1 + n * 4 - 1) / 4 = n by omega]
    simp [upd1]
  · simp only [cell, upd1]
    repeat' split
    all_goals first | rfl | (exfalso; omega)
theorem stC_seten {s : St} {c : Nat} (hc : c < 2) (x : Nat) : (stC s).setIfInBounds (33 + c * 2) (.int .u8 x) = stC { s with en := upd1 s.en c x } := by
  refine stC_set (by omega) ?_ fun i hi hne => ?_
  · unfold cell
    rw [if_neg (by omega), if_neg (by omega), if_pos (by omega), show (33 + c * 2 - 33) / 2 = c by omega]
    simp [upd1]
  · simp only [cell, upd1]
    repeat' split
    all_goals first | rfl | (exfalso; omega)
theorem stC_setth {s : St} {c : Nat} (hc : c < 2) (x : Nat) : (stC s).setIfInBounds (33 + c * 2 + 1) (.int .u8 x) = stC { s with th := upd1 s.th c x } := by
  refine stC_set (by omega) ?_ fun i hi hne => ?_
  · unfold cell
    rw [if_neg (by omega), if_neg (by omega), if_neg (by omega), show (33 + c * 2 + 1 - 33) / 2 = c by omega]
    simp [upd1]
  · simp only [cell, upd1]
    repeat' split
    all_goals first | rfl | (exfalso; omega)
def claimS (s : St) (c : Nat) : St := if 0 < bestS s c then { s with pe := upd1 s.pe (bestS s c) false, se := upd1 s.se (bestS s c) true } else s
section
variable {h : Hp} {K : Value → Hp → Prop} {p : Nat} {s : St}
theorem claim_call {c : Nat} (hb : h.blks p = some ⟨stC s, 1, true⟩) (hs : s.ok) (hc : c < 2) (hp : p < h.next) (hK : K (.int .u64 (bestS s c : Nat)) (h.set p ⟨stC (claimS s c), 1, true⟩)) : ACall prog 50 [ptr p, .int .i64 c] h K := by
  refine acallF_of tb0 func50 rfl rfl mixed (by kernel_rfl) fun hwf => ?_
  simp -dsimp (disch := omega)
  refine best_call hb hs hc hp ?_
  have hbl := bestS_lt s c
  unfold claimS at hK
  generalize bestS s c = n at *
  by_cases h0 : 0 < n
  · have h0' : (0 : Int) < n := by omega
    rw [if_pos h0] at hK
    have e1 := stC_setpe (s := s) hbl false
    have e2 := stC_setse (s := { s with pe := upd1 s.pe n false }) hbl true
    simp -dsimp (disch := omega) [h0, h0', hb, e1, e2]
    exact RetF.all (by simp) hK
  · have h0' : ¬ (0 : Int) < n := by omega
    rw [if_neg h0, set_same hb] at hK
    simp -dsimp (disch := omega) [h0, h0']
    exact RetF.same hwf (by simp) (Nat.zero_le _) (fun _ _ => rfl) hK
theorem setPriority_call {n v : Nat} (hb : h.blks p = some ⟨stC s, 1, true⟩) (hn : n < 8) (hv : v < 18446744073709551616) (hK : K (.tuple #[]) (h.set p ⟨stC { s with pr := upd1 s.pr n (v % 8) }, 1, true⟩)) : ACall prog 44 [ptr p, .int .i64 n, .int .u64 v] h K := by
  refine acallF_of tb0 func44 rfl rfl mixed (by kernel_rfl) fun hwf => ?_
  have a1 : ∀ (ty : TypeId) (xo yo : Operand), abin prog .and ty xo yo (.int .u64 (v : Nat)) (.int .u64 7) = some (.int .u64 ((v % 8 : Nat) : Int)) := abin_low v 3 7 (v % 8) (by omega) hv (by rfl) rfl
  have e1 := stC_setpr (s := s) hn (v % 8)
  have hl : v % 8 < 8 := Nat.mod_lt _ (by omega)
  generalize v % 8 = d at *
  simp -dsimp (disch := omega) [hb, a1, e1, -abin_and]
  exact RetF.all (by simp) hK
theorem setThreshold_call {c v : Nat} (hb : h.blks p = some ⟨stC s, 1, true⟩) (hc : c < 2) (hv : v < 18446744073709551616) (hK : K (.tuple #[]) (h.set p ⟨stC { s with th := upd1 s.th c (v % 8) }, 1, true⟩)) : ACall prog 49 [ptr p, .int .i64 c, .int .u64 v] h K := by
  refine acallF_of tb0 func49 rfl rfl mixed (by kernel_rfl) fun hwf => ?_
  have a1 : ∀ (ty : TypeId) (xo yo : Operand), abin prog .and ty xo yo (.int .u64 (v : Nat)) (.int .u64 7) = some (.int .u64 ((v % 8 : Nat) : Int)) := abin_low v 3 7 (v % 8) (by omega) hv (by rfl) rfl
  have e1 := stC_setth (s := s) hc (v % 8)
  have hl : v % 8 < 8 := Nat.mod_lt _ (by omega)
  generalize v % 8 = d at *
  simp -dsimp (disch := omega) [hb, a1, e1, -abin_and]
  exact RetF.all (by simp) hK
end
end Go.Proofs.YtfdhahnnhaeibaaDoor
namespace Go.Proofs.YtfdhahnnhaeibaaDoor
open Go Go.Mini Go.Proofs.Tryd
set_option maxRecDepth 100000

theorem and_n (a b d : Nat) (ha : a < 18446744073709551616) (hb : b < 18446744073709551616) (hd : d = a &&& b) (ty : TypeId) (xo yo : Operand) : abin prog .and ty xo yo (.int .u64 (a : Nat)) (.int .u64 (b : Nat)) = some (.int .u64 (d : Nat)) := by
  rw [abin_and, show IntKind.u64.bits = 64 from rfl, BitVec.toNat_and, bv_of a ha, bv_of b hb, ← hd]
  have : d ≤ a := by rw [hd]; exact Nat.and_le_left
  rw [IntWalk.u64_in _ (by omega)]
/-- The bits of what is pending. -/
def pendK (s : St) : Nat → Nat
  | 0 => 0
  | k + 1 => pendK s k + if s.pe k = true then 2 ^ k else 0
theorem pendK_lt (s : St) : ∀ k, pendK s k < 2 ^ k := by
  intro k
  induction k with
  | zero => simp [pendK]
  | succ k ih =>
    simp only [pendK, Nat.pow_succ]
    split <;> omega
def completeS (s : St) (c n : Nat) : St := if 8 ≤ n ∨ s.en c / 2 ^ n % 2 = 0 then s else gateS { s with se := upd1 s.se n false } n
section
variable {h : Hp} {K : Value → Hp → Prop} {p : Nat} {s : St}
theorem enable_call {c v : Nat} (hb : h.blks p = some ⟨stC s, 1, true⟩) (hc : c < 2) (hv : v < 18446744073709551616) (hK : K (.tuple #[]) (h.set p ⟨stC { s with en := upd1 s.en c (v &&& 254) }, 1, true⟩)) : ACall prog 47 [ptr p, .int .i64 c, .int .u64 v] h K := by
  refine acallF_of tb0 func47 rfl rfl mixed (by kernel_rfl) fun hwf => ?_
  have a1 : ∀ (ty : TypeId) (xo yo : Operand), abin prog .and ty xo yo (.int .u64 (v : Nat)) (.int .u64 254) = some (.int .u64 ((v &&& 254 : Nat) : Int)) := and_n v 254 _ hv (by omega) rfl
  have e1 := stC_seten (s := s) hc (v &&& 254)
  have hl : v &&& 254 ≤ 254 := Nat.and_le_right
  generalize v &&& 254 = d at *
  simp -dsimp (disch := omega) [hb, a1, e1, -abin_and]
  exact RetF.all (by simp) hK
theorem pending_call {n : Int} (hb : h.blks p = some ⟨stC s, 1, true⟩) (hp : p < h.next) (hK : K (.int .u64 (pendK s 8 : Nat)) h) : ACall prog 45 [ptr p, .int .i64 n] h K := by
  refine acallF_of tb0 func45 rfl rfl mixed (by kernel_rfl) fun hwf => ?_
  obtain ⟨R, hR⟩ : ∃ R, R = (stC s).extract 1 33 := ⟨_, rfl⟩
  have hRs : R.size = 32 := by rw [hR]; simp
  simp -dsimp (disch := omega) [hb, ← hR]
  refine awp_loop (fun t h' => h.next ≤ h'.next ∧ (∀ i, i < h.next → h'.blks i = h.blks i) ∧ ∃ k : Nat, k ≤ 8 ∧ t 4 = .int .u64 (pendK s k : Nat) ∧ t 10 = .agg R ∧ t 11 = .int .i64 k) (fun t _ => 8 - ivN (t 11)) ?_ ?_
  · simp -dsimp (disch := omega)
    exact ⟨0, by omega, rfl, rfl⟩
  · rintro t h' ⟨hn, hsm, k, hk, t4, t10, t11⟩
    refine vcF_sound mixed (tb := tb0) _ (by kernel_rfl) ?_
    simp -dsimp (disch := omega) [t11]
    refine CondF_dec (fun hc3 => ?_) (fun hc3 => ?_)
    · have hk8 : k < 8 := by omega
      have hsc := src_cells s hk8
      rw [← hR] at hsc
      have hkz : k * 4 + 4 ≤ 32 := by omega
      have hps : pendK s (k + 1) = pendK s k + if s.pe k = true then 2 ^ k else 0 := rfl
      have hpl := pendK_lt s k
      have h2k : 2 ^ k ≤ 2 ^ 7 := Nat.pow_le_pow_right (by omega) (by omega)
      cases e1 : s.pe k with
      | false =>
        rw [e1, if_neg (by simp)] at hps
        simp -dsimp (disch := omega) [t4, t10, t11, hsc, hRs, hkz, e1]
        exact ⟨⟨by omega, fun i hi => by rw [if_neg (by omega)]; exact hsm i hi, k + 1, by omega, by rw [hps, Nat.add_zero], by simp⟩, by simp [ivN]; omega⟩
      | true =>
        rw [e1, if_pos rfl] at hps
        have a1 : IntKind.u64.wrap ((2 : Int) ^ (min k IntKind.u64.bits)) = ((2 ^ k : Nat) : Int) := by
          have := shl_u64 1 k (by omega) (2 ^ k) (by omega) (by omega)
          simpa using this
        have a2 := abin_join' (P := prog) (2 ^ k) (pendK s k) k hpl (by simp) (pendK s k + 2 ^ k) (by omega) (by omega)
        generalize 2 ^ k = B at hps a1 a2 h2k hpl
        simp -dsimp (disch := omega) [t4, t10, t11, hsc, hRs, hkz, e1, a1, a2, -abin_or]
        exact ⟨⟨by omega, fun i hi => by rw [if_neg (by omega)]; exact hsm i hi, k + 1, by omega, by rw [hps]; simp, by simp⟩, by simp [ivN]; omega⟩
    · have : k = 8 := by omega
      subst this
      simp -dsimp (disch := omega) [t4, t11]
      exact RetF.same hwf (by simp [t4]) (Nat.zero_le _) hsm hK
end
end Go.Proofs.YtfdhahnnhaeibaaDoor
namespace Go.Proofs.YtfdhahnnhaeibaaDoor
open Go Go.Mini Go.Proofs.Tryd
set_option maxRecDepth 100000

theorem shr_u8' (y k : Nat) (hk : k < 8) (ty : TypeId) (xo yo : Operand) : abin prog .shr ty xo yo (.int .u8 (y : Nat)) (.int .u32 (k : Nat)) = some (.int .u8 ((y / 2 ^ k : Nat) : Int)) := by
  have e : ((y : Int).fdiv (2 ^ (min ((k : Nat) : Int).toNat IntKind.u8.bits))) = ((y / 2 ^ k : Nat) : Int) := by
    rw [show min ((k : Nat) : Int).toNat IntKind.u8.bits = k from by show min ((k : Nat) : Int).toNat 8 = k; omega, Int.fdiv_eq_ediv_of_nonneg _ (Int.le_of_lt (Int.pow_pos (by omega))), Int.natCast_ediv, Int.natCast_pow]
    rfl
  have h1 := abin_shr (P := prog) (ty := ty) (xo := xo) (yo := yo) (k := .u8) (k' := .u32) (a := (y : Int)) (b := (k : Int)) (by omega)
  rw [e] at h1
  exact h1
theorem wrap32 (n : Int) : IntKind.u32.wrap n = n % 4294967296 := by simp [IntKind.wrap, IntKind.bits, IntKind.signed]
section
variable {h : Hp} {K : Value → Hp → Prop} {p : Nat} {s : St}
theorem complete_call {c v : Nat} (hb : h.blks p = some ⟨stC s, 1, true⟩) (hs : s.ok) (hc : c < 2) (hv : v < 18446744073709551616) (hK : K (.tuple #[]) (h.set p ⟨stC (completeS s c (v % 4294967296)), 1, true⟩)) : ACall prog 51 [ptr p, .int .i64 c, .int .u64 v] h K := by
  refine acallF_of tb0 func51 rfl rfl mixed (by kernel_rfl) fun hwf => ?_
  have ew : IntKind.u32.wrap (v : Int) = ((v % 4294967296 : Nat) : Int) := by rw [wrap32]; omega
  have hl : v % 4294967296 < 4294967296 := Nat.mod_lt _ (by omega)
  generalize v % 4294967296 = n at *
  unfold completeS at hK
  by_cases c1 : 8 ≤ n
  · have c1' : (8 : Int) ≤ n := by omega
    rw [if_pos (.inl c1), set_same hb] at hK
    simp -dsimp (disch := omega) [ew, c1, c1']
    exact RetF.same hwf (by simp) (Nat.zero_le _) (fun _ _ => rfl) hK
  · have c1' : ¬ (8 : Int) ≤ n := by omega
    have hn : n < 8 := by omega
    have p3 := hs.en c
    have a0 := stC_en s hc
    have a1 := shr_u8' (s.en c) n hn
    have p4 : s.en c / 2 ^ n < 256 := Nat.lt_of_le_of_lt (Nat.div_le_self _ _) p3
    have a2 := and1_u8 (s.en c / 2 ^ n) p4
    have e1 := stC_setse (s := s) hn false
    generalize s.en c / 2 ^ n = y at *
    by_cases e2 : y % 2 = 0
    · rw [if_pos (.inr e2), set_same hb] at hK
      have e2' : ((y % 2 : Nat) : Int) = 0 := by omega
      rw [e2'] at a2
      simp -dsimp (disch := omega) [ew, c1, c1', hb, a0, a1, a2, -abin_shr, -abin_and]
      exact RetF.same hwf (by simp) (Nat.zero_le _) (fun _ _ => rfl) hK
    · rw [if_neg (by omega)] at hK
      have e2' : ((y % 2 : Nat) : Int) = 1 := by omega
      rw [e2'] at a2
      simp -dsimp (disch := omega) [ew, c1, c1', hb, a0, a1, a2, e1, -abin_shr, -abin_and]
      refine gate_call (n := n) (s := { s with se := upd1 s.se n false }) (blks_set_eq _ _ _) hn ?_
      simp -dsimp (disch := omega)
      exact RetF.all (r := .tuple #[]) (by simp) (by rw [Hp.set_set]; exact hK)
end
end Go.Proofs.YtfdhahnnhaeibaaDoor
namespace Go.Proofs.YtfdhahnnhaeibaaDoor
open Go Go.Mini Go.Proofs.Tryd
set_option maxRecDepth 100000

def mv (p f : Nat) : Value := .func (.func f) #[ptr p] #[]
def findV (p off : Nat) : Array Value :=
  if 0 < off ∧ off < 32 then #[.int .i64 (off / 4 : Nat), mv p 43, mv p 44]
  else if off = 4096 then #[.int .i64 0, mv p 45, mv p 42]
  else if off = 8320 then #[.int .i64 1, mv p 46, mv p 47]
  else if off = 8192 then #[.int .i64 0, mv p 46, mv p 47]
  else if off = 2101248 then #[.int .i64 1, mv p 48, mv p 49]
  else if off = 2097152 then #[.int .i64 0, mv p 48, mv p 49]
  else if off = 2101252 then #[.int .i64 1, mv p 50, mv p 51]
  else if off = 2097156 then #[.int .i64 0, mv p 50, mv p 51]
  else #[.int .i64 0, mv p 41, mv p 42]
section
variable {h : Hp} {K : Value → Hp → Prop} {p : Nat}
set_option maxHeartbeats 1000000 in
theorem find_call {off : Nat} (ho : off < 18446744073709551616) (hK : K (.agg (findV p off)) h) : ACall prog 34 [ptr p, .int .u64 off] h K := by
  refine acallF_of tb0 func34 rfl rfl mixed (by kernel_rfl) fun hwf => ?_
  have hpl : p < h.next := by have := hwf.args (ptr p) (by simp); simp [vtop] at this; omega
  unfold findV mv at hK
  by_cases c1 : 0 < off ∧ off < 32
  · rw [if_pos c1] at hK
    obtain ⟨c1, c2⟩ := c1
    have c1' : (0 : Int) < off := by omega
    have c2' : (off : Int) < 32 := by omega
    have e : ((off : Int) / 4) = (off / 4 : Nat) := by omega
    have hl : off / 4 < 8 := by omega
    generalize off / 4 = d at *
    simp -dsimp (disch := omega) [c1, c1', c2', e]
    exact RetF.same hwf (by simp (disch := omega)) (by simp [vtop, vtopL, fnTop]; omega) (fun i hi => by simp (disch := omega)) hK
  rw [if_neg c1] at hK
  have b0 : 0 < off → ¬ (off : Int) < 32 := fun h => by omega
  by_cases n0 : off = 4096
  · rw [if_pos n0] at hK
    subst n0
    simp -dsimp (disch := omega)
    exact RetF.same hwf (by simp (disch := omega)) (by simp [vtop, vtopL, fnTop]; omega) (fun i hi => by simp (disch := omega)) hK
  rw [if_neg n0] at hK
  have m0 : ¬ (off : Int) = 4096 := by omega
  by_cases n1 : off = 8320
  · rw [if_pos n1] at hK
    subst n1
    simp -dsimp (disch := omega)
    exact RetF.same hwf (by simp (disch := omega)) (by simp [vtop, vtopL, fnTop]; omega) (fun i hi => by simp (disch := omega)) hK
  rw [if_neg n1] at hK
  have m1 : ¬ (off : Int) = 8320 := by omega
  by_cases n2 : off = 8192
  · rw [if_pos n2] at hK
    subst n2
    simp -dsimp (disch := omega)
    exact RetF.same hwf (by simp (disch := omega)) (by simp [vtop, vtopL, fnTop]; omega) (fun i hi => by simp (disch := omega)) hK
  rw [if_neg n2] at hK
  have m2 : ¬ (off : Int) = 8192 := by omega
  by_cases n3 : off = 2101248
  · rw [if_pos n3] at hK
    subst n3
    simp -dsimp (disch := omega)
    exact RetF.same hwf (by simp (disch := omega)) (by simp [vtop, vtopL, fnTop]; omega) (fun i hi => by simp (disch := omega)) hK
  rw [if_neg n3] at hK
  have m3 : ¬ (off : Int) = 2101248 := by omega
  by_cases n4 : off = 2097152
  · rw [if_pos n4] at hK
    subst n4
    simp -dsimp (disch := omega)
    exact RetF.same hwf (by simp (disch := omega)) (by simp [vtop, vtopL, fnTop]; omega) (fun i hi => by simp (disch := omega)) hK
  rw [if_neg n4] at hK
  have m4 : ¬ (off : Int) = 2097152 := by omega
  by_cases n5 : off = 2101252
  · rw [if_pos n5] at hK
    subst n5
    simp -dsimp (disch := omega)
    exact RetF.same hwf (by simp (disch := omega)) (by simp [vtop, vtopL, fnTop]; omega) (fun i hi => by simp (disch := omega)) hK
  rw [if_neg n5] at hK
  have m5 : ¬ (off : Int) = 2101252 := by omega
  by_cases n6 : off = 2097156
  · rw [if_pos n6] at hK
    subst n6
    simp -dsimp (disch := omega)
    exact RetF.same hwf (by simp (disch := omega)) (by simp [vtop, vtopL, fnTop]; omega) (fun i hi => by simp (disch := omega)) hK
  rw [if_neg n6] at hK
  have m6 : ¬ (off : Int) = 2097156 := by omega
  rcases Nat.eq_zero_or_pos off with z | z
  · subst z
    simp -dsimp (disch := omega)
    exact RetF.same hwf (by simp (disch := omega)) (by simp [vtop, vtopL, fnTop]; omega) (fun i hi => by simp (disch := omega)) hK
  · have z' := b0 z
    have z2 : (0 : Int) < off := by omega
    simp -dsimp (disch := omega) [z, z2, z', n0, m0, n1, m1, n2, m2, n3, m3, n4, m4, n5, m5, n6, m6]
    exact RetF.same hwf (by simp (disch := omega)) (by simp [vtop, vtopL, fnTop]; omega) (fun i hi => by simp (disch := omega)) hK
end
end Go.Proofs.YtfdhahnnhaeibaaDoor
namespace Go.Proofs.YtfdhahnnhaeibaaDoor
open Go Go.Mini Go.Proofs.Tryd
set_option maxRecDepth 100000

/-- What a read tells, and the state behind it. -/
def readS (s : St) (off : Nat) : Nat × St :=
  if 0 < off ∧ off < 32 then (s.pr (off / 4), s)
  else if off = 4096 then (pendK s 8, s)
  else if off = 8320 then (s.en 1, s)
  else if off = 8192 then (s.en 0, s)
  else if off = 2101248 then (s.th 1, s)
  else if off = 2097152 then (s.th 0, s)
  else if off = 2101252 then (bestS s 1, claimS s 1)
  else if off = 2097156 then (bestS s 0, claimS s 0)
  else (0, s)
section
variable {h : Hp} {K : Value → Hp → Prop} {p : Nat} {s : St}
set_option maxHeartbeats 2000000 in
theorem read_call {off : Nat} {w : Int} (hb : h.blks p = some ⟨stC s, 1, true⟩) (hs : s.ok) (hp : p < h.next) (ho : off < 18446744073709551616) (k0 : mayN off w = false → K (.tuple #[.int .u64 0, .bool false]) h)
    (k1 : mayN off w = true → ∀ h', (∀ i, i < h.next → i ≠ p → h'.blks i = h.blks i) → h.next ≤ h'.next → h'.blks p = some ⟨stC (readS s off).2, 1, true⟩ → K (.tuple #[.int .u64 (readS s off).1, .bool true]) h') : ACall prog 16 [ptr p, .int .u64 off, .int .i64 w] h K := by
  refine acallF_of tb0 func16 rfl rfl mixed (by kernel_rfl) fun hwf => ?_
  simp -dsimp (disch := omega)
  refine may_call hb ho ?_
  cases hm : mayN off w with
  | false =>
    simp -dsimp (disch := omega)
    exact RetF.same hwf (by simp) (Nat.zero_le _) (fun _ _ => rfl) (k0 hm)
  | true =>
    have hK := k1 hm
    clear k0 k1
    have same : h.set p ⟨stC s, 1, true⟩ = h := set_same hb
    have hb' : ∀ b, (h.alloc b).blks p = some ⟨stC s, 1, true⟩ := fun b => by rw [blks_alloc_ne _ _ _ (by omega)]; exact hb
    simp -dsimp (disch := omega)
    refine find_call ho ?_
    unfold readS at hK
    unfold findV mv
    by_cases c1 : 0 < off ∧ off < 32
    · rw [if_pos c1] at hK ⊢
      have hd : off / 4 < 8 := by omega
      generalize off / 4 = d at *
      simp -dsimp (disch := omega)
      refine priority_call (s := s) (by simp (disch := omega) [hb]) hs hd ?_
      simp -dsimp (disch := omega)
      exact RetF.all (r := .tuple #[.int .u64 _, .bool true]) (by simp) (hK _ (fun i hi hn => by simp (disch := omega)) (by simp) (by simp (disch := omega) [hb]))
    rw [if_neg c1] at hK ⊢
    by_cases n0 : off = 4096
    · rw [if_pos n0] at hK ⊢
      simp -dsimp (disch := omega)
      refine pending_call (s := s) (by simp (disch := omega) [hb]) (by simp; omega) ?_
      simp -dsimp (disch := omega)
      exact RetF.all (r := .tuple #[.int .u64 _, .bool true]) (by simp) (hK _ (fun i hi hn => by simp (disch := omega)) (by simp) (by simp (disch := omega) [hb]))
    rw [if_neg n0] at hK ⊢
    by_cases n1 : off = 8320
    · rw [if_pos n1] at hK ⊢
      simp -dsimp (disch := omega)
      refine enabled_call (s := s) (c := 1) (by simp (disch := omega) [hb]) hs (by omega) ?_
      simp -dsimp (disch := omega)
      exact RetF.all (r := .tuple #[.int .u64 _, .bool true]) (by simp) (hK _ (fun i hi hn => by simp (disch := omega)) (by simp) (by simp (disch := omega) [hb]))
    rw [if_neg n1] at hK ⊢
    by_cases n2 : off = 8192
    · rw [if_pos n2] at hK ⊢
      simp -dsimp (disch := omega)
      refine enabled_call (s := s) (c := 0) (by simp (disch := omega) [hb]) hs (by omega) ?_
      simp -dsimp (disch := omega)
      exact RetF.all (r := .tuple #[.int .u64 _, .bool true]) (by simp) (hK _ (fun i hi hn => by simp (disch := omega)) (by simp) (by simp (disch := omega) [hb]))
    rw [if_neg n2] at hK ⊢
    by_cases n3 : off = 2101248
    · rw [if_pos n3] at hK ⊢
      simp -dsimp (disch := omega)
      refine threshold_call (s := s) (c := 1) (by simp (disch := omega) [hb]) hs (by omega) ?_
      simp -dsimp (disch := omega)
      exact RetF.all (r := .tuple #[.int .u64 _, .bool true]) (by simp) (hK _ (fun i hi hn => by simp (disch := omega)) (by simp) (by simp (disch := omega) [hb]))
    rw [if_neg n3] at hK ⊢
    by_cases n4 : off = 2097152
    · rw [if_pos n4] at hK ⊢
      simp -dsimp (disch := omega)
      refine threshold_call (s := s) (c := 0) (by simp (disch := omega) [hb]) hs (by omega) ?_
      simp -dsimp (disch := omega)
      exact RetF.all (r := .tuple #[.int .u64 _, .bool true]) (by simp) (hK _ (fun i hi hn => by simp (disch := omega)) (by simp) (by simp (disch := omega) [hb]))
    rw [if_neg n4] at hK ⊢
    by_cases n5 : off = 2101252
    · rw [if_pos n5] at hK ⊢
      simp -dsimp (disch := omega)
      refine claim_call (s := s) (c := 1) (by simp (disch := omega) [hb]) hs (by omega) (by simp; omega) ?_
      simp -dsimp (disch := omega)
      exact RetF.all (r := .tuple #[.int .u64 _, .bool true]) (by simp) (hK _ (fun i hi hn => by simp (disch := omega)) (by simp) (by simp (disch := omega) [hb]))
    rw [if_neg n5] at hK ⊢
    by_cases n6 : off = 2097156
    · rw [if_pos n6] at hK ⊢
      simp -dsimp (disch := omega)
      refine claim_call (s := s) (c := 0) (by simp (disch := omega) [hb]) hs (by omega) (by simp; omega) ?_
      simp -dsimp (disch := omega)
      exact RetF.all (r := .tuple #[.int .u64 _, .bool true]) (by simp) (hK _ (fun i hi hn => by simp (disch := omega)) (by simp) (by simp (disch := omega) [hb]))
    rw [if_neg n6] at hK ⊢
    simp -dsimp (disch := omega)
    refine none_call ?_
    simp -dsimp (disch := omega)
    exact RetF.all (r := .tuple #[.int .u64 _, .bool true]) (by simp) (hK _ (fun i hi hn => by simp (disch := omega)) (by simp) (by simp (disch := omega) [hb]))
end
end Go.Proofs.YtfdhahnnhaeibaaDoor
namespace Go.Proofs.YtfdhahnnhaeibaaDoor
open Go Go.Mini Go.Proofs.Tryd
set_option maxRecDepth 100000

/-- The state behind a write. -/
def writeS (s : St) (off v : Nat) : St :=
  if 0 < off ∧ off < 32 then { s with pr := upd1 s.pr (off / 4) (v % 8) }
  else if off = 4096 then s
  else if off = 8320 then { s with en := upd1 s.en 1 (v &&& 254) }
  else if off = 8192 then { s with en := upd1 s.en 0 (v &&& 254) }
  else if off = 2101248 then { s with th := upd1 s.th 1 (v % 8) }
  else if off = 2097152 then { s with th := upd1 s.th 0 (v % 8) }
  else if off = 2101252 then completeS s 1 (v % 4294967296)
  else if off = 2097156 then completeS s 0 (v % 4294967296)
  else s
section
variable {h : Hp} {K : Value → Hp → Prop} {p : Nat} {s : St}
set_option maxHeartbeats 2000000 in
theorem write_call {off v : Nat} {w : Int} (hb : h.blks p = some ⟨stC s, 1, true⟩) (hs : s.ok) (hp : p < h.next) (ho : off < 18446744073709551616) (hv : v < 18446744073709551616) (k0 : mayN off w = false → K (.bool false) h)
    (k1 : mayN off w = true → ∀ h', (∀ i, i < h.next → i ≠ p → h'.blks i = h.blks i) → h.next ≤ h'.next → h'.blks p = some ⟨stC (writeS s off v), 1, true⟩ → K (.bool true) h') : ACall prog 17 [ptr p, .int .u64 off, .int .u64 v, .int .i64 w] h K := by
  refine acallF_of tb0 func17 rfl rfl mixed (by kernel_rfl) fun hwf => ?_
  simp -dsimp (disch := omega)
  refine may_call hb ho ?_
  cases hm : mayN off w with
  | false =>
    simp -dsimp (disch := omega)
    exact RetF.same hwf (by simp) (Nat.zero_le _) (fun _ _ => rfl) (k0 hm)
  | true =>
    have hK := k1 hm
    clear k0 k1
    simp -dsimp (disch := omega)
    refine find_call ho ?_
    unfold writeS at hK
    unfold findV mv
    by_cases c1 : 0 < off ∧ off < 32
    · rw [if_pos c1] at hK ⊢
      have hd : off / 4 < 8 := by omega
      generalize off / 4 = d at *
      simp -dsimp (disch := omega)
      refine setPriority_call (s := s) (by simp (disch := omega) [hb]) hd hv ?_
      simp -dsimp (disch := omega)
      exact RetF.all (r := .bool true) (by simp) (hK _ (fun i hi hn => by simp (disch := omega)) (by simp) (by simp (disch := omega) [hb]))
    rw [if_neg c1] at hK ⊢
    by_cases n0 : off = 4096
    · rw [if_pos n0] at hK ⊢
      simp -dsimp (disch := omega)
      refine nothing_call ?_
      simp -dsimp (disch := omega)
      exact RetF.all (r := .bool true) (by simp) (hK _ (fun i hi hn => by simp (disch := omega)) (by simp) (by simp (disch := omega) [hb]))
    rw [if_neg n0] at hK ⊢
    by_cases n1 : off = 8320
    · rw [if_pos n1] at hK ⊢
      simp -dsimp (disch := omega)
      refine enable_call (s := s) (c := 1) (by simp (disch := omega) [hb]) (by omega) hv ?_
      simp -dsimp (disch := omega)
      exact RetF.all (r := .bool true) (by simp) (hK _ (fun i hi hn => by simp (disch := omega)) (by simp) (by simp (disch := omega) [hb]))
    rw [if_neg n1] at hK ⊢
    by_cases n2 : off = 8192
    · rw [if_pos n2] at hK ⊢
      simp -dsimp (disch := omega)
      refine enable_call (s := s) (c := 0) (by simp (disch := omega) [hb]) (by omega) hv ?_
      simp -dsimp (disch := omega)
      exact RetF.all (r := .bool true) (by simp) (hK _ (fun i hi hn => by simp (disch := omega)) (by simp) (by simp (disch := omega) [hb]))
    rw [if_neg n2] at hK ⊢
    by_cases n3 : off = 2101248
    · rw [if_pos n3] at hK ⊢
      simp -dsimp (disch := omega)
      refine setThreshold_call (s := s) (c := 1) (by simp (disch := omega) [hb]) (by omega) hv ?_
      simp -dsimp (disch := omega)
      exact RetF.all (r := .bool true) (by simp) (hK _ (fun i hi hn => by simp (disch := omega)) (by simp) (by simp (disch := omega) [hb]))
    rw [if_neg n3] at hK ⊢
    by_cases n4 : off = 2097152
    · rw [if_pos n4] at hK ⊢
      simp -dsimp (disch := omega)
      refine setThreshold_call (s := s) (c := 0) (by simp (disch := omega) [hb]) (by omega) hv ?_
      simp -dsimp (disch := omega)
      exact RetF.all (r := .bool true) (by simp) (hK _ (fun i hi hn => by simp (disch := omega)) (by simp) (by simp (disch := omega) [hb]))
    rw [if_neg n4] at hK ⊢
    by_cases n5 : off = 2101252
    · rw [if_pos n5] at hK ⊢
      simp -dsimp (disch := omega)
      refine complete_call (s := s) (c := 1) (by simp (disch := omega) [hb]) hs (by omega) hv ?_
      simp -dsimp (disch := omega)
      exact RetF.all (r := .bool true) (by simp) (hK _ (fun i hi hn => by simp (disch := omega)) (by simp) (by simp (disch := omega) [hb]))
    rw [if_neg n5] at hK ⊢
    by_cases n6 : off = 2097156
    · rw [if_pos n6] at hK ⊢
      simp -dsimp (disch := omega)
      refine complete_call (s := s) (c := 0) (by simp (disch := omega) [hb]) hs (by omega) hv ?_
      simp -dsimp (disch := omega)
      exact RetF.all (r := .bool true) (by simp) (hK _ (fun i hi hn => by simp (disch := omega)) (by simp) (by simp (disch := omega) [hb]))
    rw [if_neg n6] at hK ⊢
    simp -dsimp (disch := omega)
    refine nothing_call ?_
    simp -dsimp (disch := omega)
    exact RetF.all (r := .bool true) (by simp) (hK _ (fun i hi hn => by simp (disch := omega)) (by simp) (by simp (disch := omega) [hb]))
end
end Go.Proofs.YtfdhahnnhaeibaaDoor
namespace Go.Proofs.YtfdhahnnhaeibaaDoor
open Go Go.Mini Go.Proofs.Tryd
set_option maxRecDepth 100000

section
variable {h : Hp} {K : Value → Hp → Prop} {p : Nat} {s : St}
theorem reads_call {off want : Nat} (hb : h.blks p = some ⟨stC s, 1, true⟩) (hs : s.ok) (hp : p < h.next) (ho : off < 18446744073709551616) (hm : mayN off 4 = true) (hw : (readS s off).1 = want)
    (hK : ∀ h', (∀ i, i < h.next → i ≠ p → h'.blks i = h.blks i) → h.next ≤ h'.next → h'.blks p = some ⟨stC (readS s off).2, 1, true⟩ → K (.bool true) h') : ACall prog 21 [ptr p, .int .u64 off, .int .u64 want] h K := by
  refine acallF_of tb0 func21 rfl rfl mixed (by kernel_rfl) fun hwf => ?_
  simp -dsimp (disch := omega)
  refine read_call hb hs hp ho (fun e => by rw [hm] at e; cases e) (fun _ h' h1 h2 h3 => ?_)
  rw [hw]
  simp -dsimp (disch := omega)
  exact RetF.all (by simp) (hK h' h1 h2 h3)
end
end Go.Proofs.YtfdhahnnhaeibaaDoor
namespace Go.Proofs.YtfdhahnnhaeibaaDoor
open Go Go.Mini Go.Proofs.Tryd
set_option maxRecDepth 100000

theorem St.ok.gate {s : St} (hs : s.ok) (n : Nat) : (gateS s n).ok := by
  unfold gateS; split
  · exact ⟨hs.pr, hs.en, hs.th⟩
  · exact hs
theorem St.ok.raise {s : St} (hs : s.ok) (n : Nat) (x : Bool) : (raiseS s n x).ok := by
  unfold raiseS
  exact St.ok.gate (s := { s with hi := upd1 s.hi n x }) ⟨hs.pr, hs.en, hs.th⟩ n
theorem St.ok.claim {s : St} (hs : s.ok) (c : Nat) : (claimS s c).ok := by
  unfold claimS; split
  · exact ⟨hs.pr, hs.en, hs.th⟩
  · exact hs
theorem St.ok.complete {s : St} (hs : s.ok) (c n : Nat) : (completeS s c n).ok := by
  unfold completeS; split
  · exact hs
  · exact St.ok.gate (s := { s with se := upd1 s.se n false }) ⟨hs.pr, hs.en, hs.th⟩ n
theorem upd1_lt {f : Nat → Nat} {n v m : Nat} (h : ∀ i, f i < m) (hv : v < m) : ∀ i, upd1 f n v i < m := by
  intro i; unfold upd1; split
  · exact hv
  · exact h i
theorem St.ok.write {s : St} (hs : s.ok) (off v : Nat) : (writeS s off v).ok := by
  have v8 : v % 8 < 256 := by omega
  have v254 : v &&& 254 < 256 := Nat.lt_of_le_of_lt Nat.and_le_right (by omega)
  unfold writeS
  repeat' split
  · exact ⟨upd1_lt hs.pr v8, hs.en, hs.th⟩
  · exact hs
  · exact ⟨hs.pr, upd1_lt hs.en v254, hs.th⟩
  · exact ⟨hs.pr, upd1_lt hs.en v254, hs.th⟩
  · exact ⟨hs.pr, hs.en, upd1_lt hs.th v8⟩
  · exact ⟨hs.pr, hs.en, upd1_lt hs.th v8⟩
  · exact hs.complete _ _
  · exact hs.complete _ _
  · exact hs
theorem St.ok.read {s : St} (hs : s.ok) (off : Nat) : (readS s off).2.ok := by
  unfold readS
  repeat' split
  all_goals first | exact hs | exact hs.claim _
theorem st0_ok : st0.ok := ⟨fun _ => Nat.zero_lt_succ _, fun _ => Nat.zero_lt_succ _, fun _ => Nat.zero_lt_succ _⟩

def gS1 : St := raiseS st0 3 true
def gS2 : St := (readS gS1 4096).2
def gS3 : St := writeS gS2 12 5
def gS : St := writeS gS3 8192 8
def wS1 : St := writeS gS 2097152 5
def wS2 : St := (readS wS1 2097156).2
def wS3 : St := (readS wS2 2097156).2
theorem gS2_ok : gS2.ok := (st0_ok.raise _ _).read _
theorem gS3_ok : gS3.ok := gS2_ok.write _ _
theorem gS_ok : gS.ok := gS3_ok.write _ _
theorem wS1_ok : wS1.ok := gS_ok.write _ _
theorem wS2_ok : wS2.ok := wS1_ok.read _
theorem wS3_ok : wS3.ok := wS2_ok.read _
section
variable {h : Hp} {K : Value → Hp → Prop}
set_option maxHeartbeats 1000000 in
theorem given_call (hK : ∀ h' p, Ext h h' → h.next ≤ p → p < h'.next → h'.blks p = some ⟨stC gS, 1, true⟩ → K (ptr p) h') : ACall prog 20 [] h K := by
  refine acallF_of tb0 func20 rfl rfl mixed (by kernel_rfl) fun hwf => ?_
  simp -dsimp (disch := omega)
  refine new_call ?_
  simp -dsimp (disch := omega)
  refine raise_call (s := st0) (blks_alloc_eq _ _) (fun h => by omega) (fun m hm h1 h2 => ?_)
  obtain rfl : m = 3 := by omega
  simp -dsimp (disch := omega)
  refine reads_call (s := gS1) (off := 4096) (want := 8) (by simp (disch := omega); rfl) (st0_ok.raise _ _) (by simp) (by omega) (by decide) (by kernel_rfl) (fun h1 q1 q2 q3 => ?_)
  simp only [Hp.next_alloc] at q1 q2
  have f1 : ∀ i, i < h.next → h1.blks i = h.blks i := fun i hi => by rw [q1 i (by omega) (by omega)]; simp (disch := omega)
  clear q1
  simp -dsimp (disch := omega)
  refine calls_call (c := 0) (s := gS2) q3 gS2_ok (by omega) (by omega) ?_
  rw [show callsS gS2 0 = false from by kernel_rfl]
  simp -dsimp (disch := omega)
  refine write_call (off := 12) (v := 5) (s := gS2) q3 gS2_ok (by omega) (by omega) (by omega) (fun e => by exact absurd e (by decide)) (fun _ h2 r1 r2 r3 => ?_)
  have f2 : ∀ i, i < h.next → h2.blks i = h.blks i := fun i hi => by rw [r1 i (by omega) (by omega)]; exact f1 i hi
  clear r1
  simp -dsimp (disch := omega)
  refine write_call (off := 8192) (v := 8) (s := gS3) r3 gS3_ok (by omega) (by omega) (by omega) (fun e => by exact absurd e (by decide)) (fun _ h3 u1 u2 u3 => ?_)
  have f3 : ∀ i, i < h.next → h3.blks i = h.blks i := fun i hi => by rw [u1 i (by omega) (by omega)]; exact f2 i hi
  clear u1
  simp -dsimp (disch := omega)
  refine calls_call (c := 0) (s := gS) u3 gS_ok (by omega) (by omega) ?_
  rw [show callsS gS 0 = true from by kernel_rfl]
  simp -dsimp (disch := omega)
  refine calls_call (c := 1) (s := gS) u3 gS_ok (by omega) (by omega) ?_
  rw [show callsS gS 1 = false from by kernel_rfl]
  simp -dsimp (disch := omega)
  exact RetF.all (r := ptr h.next) (by simp) (hK _ _ ⟨by omega, f3⟩ (by omega) (by omega) u3)
set_option maxHeartbeats 1000000 in
theorem works_call (hK : K (.bool true) h) : ACall prog 7 [] h K := by
  refine acallF_of tb0 func7 rfl rfl mixed (by kernel_rfl) fun hwf => ?_
  simp -dsimp (disch := omega)
  refine given_call (fun h0 p e0 hp1 hp2 q0 => ?_)
  have l0 := e0.le
  simp -dsimp (disch := omega)
  refine write_call (off := 2097152) (v := 5) (s := gS) q0 gS_ok (by omega) (by omega) (by omega) (fun e => by exact absurd e (by decide)) (fun _ h2 r1 r2 r3 => ?_)
  have f2 : ∀ i, i < h.next → h2.blks i = h.blks i := fun i hi => by rw [r1 i (by omega) (by omega)]; exact e0.same i hi
  clear r1
  simp -dsimp (disch := omega)
  refine calls_call (c := 0) (s := wS1) r3 wS1_ok (by omega) (by omega) ?_
  rw [show callsS wS1 0 = false from by kernel_rfl]
  simp -dsimp (disch := omega)
  refine reads_call (s := wS1) (off := 2097156) (want := 3) r3 wS1_ok (by omega) (by omega) (by decide) (by kernel_rfl) (fun h3 u1 u2 u3 => ?_)
  have f3 : ∀ i, i < h.next → h3.blks i = h.blks i := fun i hi => by rw [u1 i (by omega) (by omega)]; exact f2 i hi
  clear u1
  simp -dsimp (disch := omega)
  refine reads_call (s := wS2) (off := 2097156) (want := 0) u3 wS2_ok (by omega) (by omega) (by decide) (by kernel_rfl) (fun h4 v1 v2 v3 => ?_)
  have f4 : ∀ i, i < h.next → h4.blks i = h.blks i := fun i hi => by rw [v1 i (by omega) (by omega)]; exact f3 i hi
  clear v1
  simp -dsimp (disch := omega)
  refine reads_call (s := wS3) (off := 4096) (want := 0) v3 wS3_ok (by omega) (by omega) (by decide) (by kernel_rfl) (fun h5 x1 x2 x3 => ?_)
  have f5 : ∀ i, i < h.next → h5.blks i = h.blks i := fun i hi => by rw [x1 i (by omega) (by omega)]; exact f4 i hi
  simp -dsimp (disch := omega)
  exact RetF.same (r := .bool true) hwf (by simp) (Nat.zero_le _) f5 hK
end
end Go.Proofs.YtfdhahnnhaeibaaDoor
namespace Go.Proofs.YtfdhahnnhaeibaaDoor
open Go Go.Mini Go.Proofs.Tryd

section
variable {s : St}
theorem readS_pend : readS s 4096 = (pendK s 8, s) := by simp [readS]
theorem readS_en {c : Nat} (hc : c < 2) : readS s (8192 + 128 * c) = (s.en c, s) := by
  obtain rfl | rfl : c = 0 ∨ c = 1 := by omega
  · simp [readS]
  · simp [readS]
theorem readS_claim {c : Nat} (hc : c < 2) : readS s (2097156 + 4096 * c) = (bestS s c, claimS s c) := by
  obtain rfl | rfl : c = 0 ∨ c = 1 := by omega
  · simp [readS]
  · simp [readS]
theorem readS_pr {n : Nat} (hn : n < 8) (h0 : s.pr 0 = 0) : readS s (4 * n) = (s.pr n, s) := by
  by_cases h : n = 0
  · subst h; simp [readS, h0]
  · unfold readS
    rw [if_pos (by omega), show 4 * n / 4 = n by omega]
theorem writeS_claim {c v : Nat} (hc : c < 2) : writeS s (2097156 + 4096 * c) v = completeS s c (v % 4294967296) := by
  obtain rfl | rfl : c = 0 ∨ c = 1 := by omega
  · simp [writeS]
  · simp [writeS]
theorem pendK_bit (s : St) (k : Nat) : ∀ m, pendK s m / 2 ^ k % 2 = if k < m ∧ s.pe k = true then 1 else 0 := by
  intro m
  induction m with
  | zero => simp [pendK]
  | succ m ih =>
    have hl := pendK_lt s m
    simp only [pendK]
    by_cases h1 : k < m
    · have e : (if s.pe m = true then 2 ^ m else 0) = 2 ^ k * (2 * if s.pe m = true then 2 ^ (m - k - 1) else 0) := by
        split
        · rw [← Nat.pow_succ', ← Nat.pow_add]; congr 1; omega
        · simp
      rw [e, Nat.add_mul_div_left _ _ (Nat.pow_pos (by omega)), Nat.add_mul_mod_self_left, ih]
      cases hp : s.pe k with
      | true => rw [if_pos ⟨h1, rfl⟩, if_pos ⟨by omega, rfl⟩]
      | false => rw [if_neg (by simp), if_neg (by simp)]
    · by_cases h2 : k = m
      · subst h2
        cases hp : s.pe k with
        | true =>
          rw [if_pos rfl, if_pos ⟨by omega, rfl⟩, Nat.add_div_right _ (Nat.pow_pos (by omega)), Nat.div_eq_of_lt hl]
        | false => rw [if_neg (by simp), if_neg (by simp), Nat.add_zero, Nat.div_eq_of_lt hl]
      · have h3 : pendK s (m + 1) < 2 ^ k := Nat.lt_of_lt_of_le (pendK_lt s (m + 1)) (Nat.pow_le_pow_right (by omega) (by omega))
        simp only [pendK] at h3
        rw [Nat.div_eq_of_lt h3, if_neg (by omega)]
theorem pend_bit (s : St) {k : Nat} (hk : k < 8) : pendK s 8 / 2 ^ k % 2 = if s.pe k = true then 1 else 0 := by
  rw [pendK_bit]
  cases hp : s.pe k with
  | true => rw [if_pos ⟨hk, rfl⟩, if_pos rfl]
  | false => rw [if_neg (by simp), if_neg (by simp)]
theorem counts_iff {c k : Nat} : counts s c k = true ↔ s.pe k = true ∧ s.en c / 2 ^ k % 2 = 1 := by
  unfold counts
  rw [Bool.and_eq_true, decide_eq_true_iff]
  have : s.en c / 2 ^ k % 2 < 2 := Nat.mod_lt _ (by omega)
  constructor
  · rintro ⟨h1, h2⟩; exact ⟨h1, by omega⟩
  · rintro ⟨h1, h2⟩; exact ⟨h1, by omega⟩
theorem bestK_spec (h0 : s.pr 0 = 0) (c : Nat) : ∀ m, (bestK s c m ≠ 0 → counts s c (bestK s c m) = true ∧ 0 < s.pr (bestK s c m)) ∧ ∀ k, k < m → counts s c k = true → s.pr k ≤ s.pr (bestK s c m) ∧ (s.pr k = s.pr (bestK s c m) → 0 < s.pr k → bestK s c m ≤ k) := by
  intro m
  induction m with
  | zero => exact ⟨fun h => absurd rfl h, fun k hk => by omega⟩
  | succ m ih =>
    obtain ⟨i1, i2⟩ := ih
    simp only [bestK]
    split
    · rename_i hc
      refine ⟨fun _ => ⟨hc.1, by omega⟩, fun k hk hck => ?_⟩
      rcases Nat.lt_or_ge k m with h | h
      · have := i2 k h hck
        exact ⟨by omega, fun e => by omega⟩
      · have : k = m := by omega
        subst this
        exact ⟨Nat.le_refl _, fun _ _ => Nat.le_refl _⟩
    · rename_i hc
      refine ⟨i1, fun k hk hck => ?_⟩
      rcases Nat.lt_or_ge k m with h | h
      · exact i2 k h hck
      · have : k = m := by omega
        subst this
        have hle : ¬ s.pr (bestK s c k) < s.pr k := fun h => hc ⟨hck, h⟩
        refine ⟨by omega, fun _ hp => ?_⟩
        have := bestK_lt s c k
        omega
theorem best_spec (h0 : s.pr 0 = 0) (c : Nat) : (bestS s c ≠ 0 → counts s c (bestS s c) = true ∧ 0 < s.pr (bestS s c)) ∧ ∀ k, k < 8 → counts s c k = true → s.pr k ≤ s.pr (bestS s c) ∧ (s.pr k = s.pr (bestS s c) → 0 < s.pr k → bestS s c ≤ k) := bestK_spec h0 c 8
theorem upd1_same {α : Type} (f : Nat → α) (n : Nat) (x : α) : upd1 f n x n = x := by simp [upd1]
theorem upd1_ne {α : Type} (f : Nat → α) {n i : Nat} (x : α) (h : i ≠ n) : upd1 f n x i = f i := by simp [upd1, h]

/-- What the law knows of a PLIC. -/
structure Inv (s : St) (sv fr hg : Nat → Bool) : Prop where
  ok : s.ok
  p0 : s.pr 0 = 0
  pf : ∀ n, s.pe n = true → fr n = true
  ex : ∀ n, s.pe n = true → s.se n = false
  sv : ∀ n, sv n = true → s.se n = true
  hi : ∀ n, hg n = s.hi n
variable {sv fr hg : Nat → Bool}
theorem inv0 : Inv st0 (fun _ => false) (fun _ => false) (fun _ => false) := ⟨st0_ok, rfl, fun _ h => absurd h (by simp [st0]), fun _ _ => rfl, fun _ h => absurd h (by simp), fun _ => rfl⟩
theorem gate_hi (n : Nat) : (gateS s n).hi = s.hi := by unfold gateS; split <;> rfl
theorem gate_se (n : Nat) : (gateS s n).se = s.se := by unfold gateS; split <;> rfl
theorem gate_pr (n : Nat) : (gateS s n).pr = s.pr := by unfold gateS; split <;> rfl
theorem gate_pe (n : Nat) : (gateS s n).pe = if (s.hi n && !s.pe n && !s.se n) = true then upd1 s.pe n true else s.pe := by unfold gateS; split <;> rfl
theorem Inv.raise (q : Inv s sv fr hg) (n : Nat) (x : Bool) : Inv (raiseS s n x) sv (upd1 fr n (fr n || x)) (upd1 hg n x) := by
  have hpe : ∀ m, (raiseS s n x).pe m = true → s.pe m = true ∨ (m = n ∧ x = true ∧ s.se n = false) := by
    intro m
    unfold raiseS
    rw [gate_pe]
    split
    · rename_i h
      simp only [upd1_same, Bool.and_eq_true, Bool.not_eq_true'] at h
      by_cases hm : m = n
      · subst hm; exact fun _ => .inr ⟨rfl, h.1.1, h.2⟩
      · rw [upd1_ne _ _ hm]; exact .inl
    · exact .inl
  refine ⟨q.ok.raise n x, ?_, fun m hm => ?_, fun m hm => ?_, fun m hm => ?_, fun m => ?_⟩
  · unfold raiseS; rw [gate_pr]; exact q.p0
  · rcases hpe m hm with h | ⟨rfl, h, _⟩
    · by_cases e : m = n
      · subst e; rw [upd1_same, q.pf m h]; rfl
      · rw [upd1_ne _ _ e]; exact q.pf m h
    · rw [upd1_same, h, Bool.or_true]
  · unfold raiseS; rw [gate_se]
    rcases hpe m hm with h | ⟨rfl, _, h⟩
    · exact q.ex m h
    · exact h
  · unfold raiseS; rw [gate_se]; exact q.sv m hm
  · unfold raiseS; rw [gate_hi]
    by_cases e : m = n
    · subst e; simp [upd1]
    · rw [upd1_ne _ _ e]; simp only; rw [upd1_ne _ _ e]; exact q.hi m
theorem Inv.write (q : Inv s sv fr hg) {off : Nat} (v : Nat) {w : Int} (hm : mayN off w = true) (h1 : off ≠ 2097156) (h2 : off ≠ 2101252) : Inv (writeS s off v) sv fr hg := by
  have h4 : off % 4 = 0 := by
    unfold mayN at hm
    simp only [Bool.and_eq_true, decide_eq_true_eq] at hm
    exact hm.1.2
  refine ⟨q.ok.write off v, ?_, ?_, ?_, ?_, ?_⟩
  all_goals unfold writeS
  · split
    · show upd1 s.pr (off / 4) (v % 8) 0 = 0
      rw [upd1_ne _ _ (by omega)]; exact q.p0
    · repeat' split
      all_goals first | exact q.p0 | omega
  · repeat' split
    all_goals first | exact q.pf | omega
  · repeat' split
    all_goals first | exact q.ex | omega
  · repeat' split
    all_goals first | exact q.sv | omega
  · repeat' split
    all_goals first | exact q.hi | omega
theorem claim_zero {c : Nat} (h : bestS s c = 0) : claimS s c = s := by unfold claimS; rw [if_neg (by omega)]
theorem Inv.claim (q : Inv s sv fr hg) {c n : Nat} (hn : bestS s c = n) (h0 : n ≠ 0) : sv n = false ∧ fr n = true ∧ 0 < s.pr n ∧ s.pe n = true ∧ s.en c / 2 ^ n % 2 = 1 ∧ Inv (claimS s c) (upd1 sv n true) (upd1 fr n (hg n)) hg := by
  obtain ⟨b1, _⟩ := best_spec q.p0 c
  rw [hn] at b1
  obtain ⟨b2, b3⟩ := b1 h0
  obtain ⟨b4, b5⟩ := counts_iff.1 b2
  refine ⟨?_, q.pf n b4, b3, b4, b5, ?_⟩
  · cases e : sv n with
    | false => rfl
    | true => have e1 := q.sv n e; rw [q.ex n b4] at e1; cases e1
  · have e : claimS s c = { s with pe := upd1 s.pe n false, se := upd1 s.se n true } := by unfold claimS; rw [hn, if_pos (by omega)]
    refine ⟨q.ok.claim c, ?_, ?_, ?_, ?_, ?_⟩
    all_goals rw [e]
    · exact q.p0
    · intro m hm
      by_cases hmn : m = n
      · subst hmn; simp [upd1] at hm
      · rw [upd1_ne _ _ hmn]; exact q.pf m (by simpa [upd1, hmn] using hm)
    · intro m hm
      by_cases hmn : m = n
      · subst hmn; simp [upd1] at hm
      · have := q.ex m (by simpa [upd1, hmn] using hm); simpa [upd1, hmn] using this
    · intro m hm
      by_cases hmn : m = n
      · subst hmn; simp [upd1]
      · have := q.sv m (by simpa [upd1, hmn] using hm); simpa [upd1, hmn] using this
    · exact q.hi
theorem claim_pe {c n : Nat} (hn : bestS s c = n) (h0 : n ≠ 0) : (claimS s c).pe n = false ∧ (claimS s c).en = s.en ∧ (claimS s c).pr = s.pr := by
  unfold claimS; rw [hn, if_pos (by omega)]; exact ⟨upd1_same _ _ _, rfl, rfl⟩
theorem claim_pr (c : Nat) : (claimS s c).pr = s.pr := by unfold claimS; split <;> rfl
theorem Inv.complete (q : Inv s sv fr hg) {c n : Nat} (hn : n < 8) (h0 : s.pe n = false) (he : s.en c / 2 ^ n % 2 = 1) (hf : fr n = hg n) : (completeS s c n).pe n = hg n ∧ Inv (completeS s c n) (upd1 sv n false) fr hg := by
  have e : completeS s c n = gateS { s with se := upd1 s.se n false } n := by unfold completeS; rw [if_neg (by omega)]
  have hpe : (completeS s c n).pe = if s.hi n = true then upd1 s.pe n true else s.pe := by
    rw [e, gate_pe]
    simp [upd1_same, h0]
  have hse : (completeS s c n).se = upd1 s.se n false := by rw [e, gate_se]
  have hpn : (completeS s c n).pe n = hg n := by
    rw [hpe, q.hi n]
    split
    · rename_i h; rw [upd1_same, h]
    · rename_i h; rw [h0]; simpa using h
  refine ⟨hpn, q.ok.complete c n, ?_, ?_, ?_, ?_, ?_⟩
  · rw [e, gate_pr]; exact q.p0
  · intro m hm
    by_cases hmn : m = n
    · subst hmn; rw [hpn] at hm; rw [hf]; exact hm
    · refine q.pf m ?_
      rw [hpe] at hm
      split at hm
      · rwa [upd1_ne _ _ hmn] at hm
      · exact hm
  · intro m hm
    rw [hse]
    by_cases hmn : m = n
    · subst hmn; rw [upd1_same]
    · rw [upd1_ne _ _ hmn]
      refine q.ex m ?_
      rw [hpe] at hm
      split at hm
      · rwa [upd1_ne _ _ hmn] at hm
      · exact hm
  · intro m hm
    rw [hse]
    by_cases hmn : m = n
    · subst hmn; rw [upd1_same] at hm; cases hm
    · rw [upd1_ne _ _ hmn] at hm ⊢; exact q.sv m hm
  · rw [e, gate_hi]; exact q.hi
end

/-- Eight marks. -/
def boolC (m : Nat → Bool) : Array Value := ((List.range 8).map fun i => Value.bool (m i)).toArray
@[simp] theorem boolC_size (m : Nat → Bool) : (boolC m).size = 8 := by simp [boolC]
theorem boolC_at (m : Nat → Bool) {k : Nat} (hk : k < 8) : (boolC m)[k]? = some (.bool (m k)) := by
  unfold boolC
  rw [List.getElem?_toArray, List.getElem?_map, List.getElem?_range hk]
  rfl
theorem boolC_set (m : Nat → Bool) {k : Nat} (hk : k < 8) (x : Bool) : (boolC m).setIfInBounds k (.bool x) = boolC (upd1 m k x) := by
  apply Array.ext_getElem?
  intro i
  rw [Array.getElem?_setIfInBounds]
  by_cases hi : i < 8
  · rw [boolC_at (upd1 m k x) hi]
    split
    · rename_i e
      subst e
      rw [if_pos (by simpa using hk), upd1_same]
    · rename_i e
      rw [boolC_at m hi, upd1_ne _ _ (fun e' => e e'.symm)]
  · rw [Array.getElem?_eq_none (by simp; omega), if_neg (by omega), Array.getElem?_eq_none (by simp; omega)]
theorem boolC_zero : (#[.bool false, .bool false, .bool false, .bool false, .bool false, .bool false, .bool false, .bool false] : Array Value) = boolC (fun _ => false) := by kernel_rfl

/-- An act. -/
structure Act where
  what : Nat
  n : Int
  high : Bool
  off : Nat
  v : Nat
  w : Int
structure Act.ok (a : Act) : Prop where
  what : a.what < 256
  n : -9223372036854775808 ≤ a.n ∧ a.n ≤ 9223372036854775807
  off : a.off < 18446744073709551616
  v : a.v < 18446744073709551616
  w : -9223372036854775808 ≤ a.w ∧ a.w ≤ 9223372036854775807
def actC (a : Act) : List Value := [.int .u8 a.what, .int .i64 a.n, .bool a.high, .int .u64 a.off, .int .u64 a.v, .int .i64 a.w]
def actsC (l : List Act) : List Value := (l.map actC).flatten
theorem actsC_at {l : List Act} {k : Nat} {a : Act} (h : l[k]? = some a) {j : Nat} (hj : j < 6) : (actsC l)[k * 6 + j]? = (actC a)[j]? := by
  unfold actsC
  rw [flatten_at 6 _ k j (fun r hr => by obtain ⟨x, _, rfl⟩ := List.mem_map.1 hr; rfl) hj, List.getElem?_map, h]
  rfl
end Go.Proofs.YtfdhahnnhaeibaaDoor
