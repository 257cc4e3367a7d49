/-
  A PLIC's block; is, New, gate, Raise.
-/
import Derived.Test.YtfdhahnnhaeibaaDoorF
import Derived.Test.YtfdhahnnhaeibaaDoorM25
import Derived.Test.YtfdhahnnhaeibaaDoorM19
set_option linter.unusedSimpArgs false
set_option linter.unusedVariables false
set_option linter.unusedSectionVars false
namespace Go.Proofs.YtfdhahnnhaeibaaDoor
open Go Go.Mini Go.Proofs.Tryd
set_option maxRecDepth 100000

def tb0 : Nat → Marks := fun _ => ⟨[], fun _ => True⟩
@[simp] theorem tb0_l (k : Nat) : (tb0 k).l = [] := id rfl
abbrev ptr (p : Nat) : Value := .pointer (some ⟨p, 0, none⟩)
/-- What a PLIC is: of sources their priority, level, pending, serving; of contexts what is enabled, and the threshold. -/
structure St where
  pr : Nat → Nat
  hi : Nat → Bool
  pe : Nat → Bool
  se : Nat → Bool
  en : Nat → Nat
  th : Nat → Nat
def cell (s : St) (i : Nat) : Value :=
  if i = 0 then .bool true else if i < 33 then
    (if (i - 1) % 4 = 0 then .int .u8 (s.pr ((i - 1) / 4)) else if (i - 1) % 4 = 1 then .bool (s.hi ((i - 1) / 4)) else if (i - 1) % 4 = 2 then .bool (s.pe ((i - 1) / 4)) else .bool (s.se ((i - 1) / 4)))
  else if (i - 33) % 2 = 0 then .int .u8 (s.en ((i - 33) / 2)) else .int .u8 (s.th ((i - 33) / 2))
def stC (s : St) : Array Value := ((List.range 37).map (cell s)).toArray
@[simp] theorem stC_size (s : St) : (stC s).size = 37 := by simp [stC]
theorem stC_at (s : St) {i : Nat} (h : i < 37) : (stC s)[i]? = some (cell s i) := by
  unfold stC
  rw [List.getElem?_toArray, List.getElem?_map, List.getElem?_range h]
  rfl
theorem stC_0 (s : St) : (stC s)[0]? = some (.bool true) := stC_at s (by omega)
theorem stC_pr (s : St) {n : Nat} (h : n < 8) : (stC s)[1 + n * 4]? = some (.int .u8 (s.pr n)) := by
  rw [stC_at s (by omega)]; unfold cell
  rw [if_neg (by omega), if_pos (by omega), if_pos (by omega), show (1 + n * 4 - 1) / 4 = n by omega]
theorem stC_hi (s : St) {n : Nat} (h : n < 8) : (stC s)[1 + n * 4 + 1]? = some (.bool (s.hi n)) := by
  rw [stC_at s (by omega)]; unfold cell
  rw [if_neg (by omega), if_pos (by omega), if_neg (by omega), if_pos (by omega), show (1 + n * 4 + 1 - 1) / 4 = n by omega]
theorem stC_pe (s : St) {n : Nat} (h : n < 8) : (stC s)[1 + n * 4 + 2]? = some (.bool (s.pe n)) := by
  rw [stC_at s (by omega)]; unfold cell
  rw [if_neg (by omega), if_pos (by omega), if_neg (by omega), if_neg (by omega), if_pos (by omega), show (1 + n * 4 + 2 - 1) / 4 = n by omega]
theorem stC_se (s : St) {n : Nat} (h : n < 8) : (stC s)[1 + n * 4 + 3]? = some (.bool (s.se n)) := by
  rw [stC_at s (by omega)]; unfold cell
  rw [if_neg (by omega), if_pos (by omega), if_neg (by omega), if_neg (by omega), if_neg (by omega), show (1 + n * 4 + 3 - 1) / 4 = n by omega]
theorem stC_en (s : St) {c : Nat} (h : c < 2) : (stC s)[33 + c * 2]? = some (.int .u8 (s.en c)) := by
  rw [stC_at s (by omega)]; unfold cell
  rw [if_neg (by omega), if_neg (by omega), if_pos (by omega), show (33 + c * 2 - 33) / 2 = c by omega]
theorem stC_th (s : St) {c : Nat} (h : c < 2) : (stC s)[33 + c * 2 + 1]? = some (.int .u8 (s.th c)) := by
  rw [stC_at s (by omega)]; unfold cell
  rw [if_neg (by omega), if_neg (by omega), if_neg (by omega), show (33 + c * 2 + 1 - 33) / 2 = c by omega]
/-- One cell is set. -/
theorem stC_set {s s' : St} {k : Nat} {v : Value} (hk : k < 37) (hv : cell s' k = v) (h : ∀ i, i < 37 → i ≠ k → cell s' i = cell s i) : (stC s).setIfInBounds k v = stC s' := by
  apply Array.ext_getElem?
  intro i
  rw [Array.getElem?_setIfInBounds]
  by_cases hi : i < 37
  · rw [stC_at s' hi]
    split
    · rename_i e
      subst e
      rw [if_pos (by simpa using hk), hv]
    · rename_i e
      rw [stC_at s hi, h i hi (fun e' => e e'.symm)]
  · rw [Array.getElem?_eq_none (by simp; omega), if_neg (by omega), Array.getElem?_eq_none (by simp; omega)]
def upd1 {α : Type} (m : Nat → α) (n : Nat) (x : α) : Nat → α := fun i => if i = n then x else m i
section
variable {h : Hp} {K : Value → Hp → Prop} {p : Nat} {s : St}
theorem is_call (hb : h.blks p = some ⟨stC s, 1, true⟩) (hK : K (.bool true) h) : ACall prog 22 [ptr p] h K := by
  refine acallF_of tb0 func22 rfl rfl mixed (by kernel_rfl) fun hwf => ?_
  simp -dsimp (disch := omega) [hb, stC_0]
  exact RetF.same hwf (by simp) (Nat.zero_le _) (fun _ _ => rfl) hK
def st0 : St := ⟨fun _ => 0, fun _ => false, fun _ => false, fun _ => false, fun _ => 0, fun _ => 0⟩
theorem new_call (hK : K (ptr h.next) (h.alloc ⟨stC st0, 1, true⟩)) : ACall prog 8 [] h K := by
  refine acallF_of tb0 func8 rfl rfl mixed (by kernel_rfl) fun hwf => ?_
  simp -dsimp (disch := omega)
  refine RetF.all (r := ptr h.next) (by simp) ?_
  have e : stC st0 = #[.bool true, .int .u8 0, .bool false, .bool false, .bool false, .int .u8 0, .bool false, .bool false, .bool false, .int .u8 0, .bool false, .bool false, .bool false, .int .u8 0, .bool false, .bool false, .bool false, .int .u8 0, .bool false, .bool false, .bool false, .int .u8 0, .bool false, .bool false, .bool false, .int .u8 0, .bool false, .bool false, .bool false, .int .u8 0, .bool false, .bool false, .bool false, .int .u8 0, .int .u8 0, .int .u8 0, .int .u8 0] := by kernel_rfl
  rw [e] at hK
  exact hK
theorem set_same {h : Hp} {p : Nat} {b : Blk} (hb : h.blks p = some b) : h.set p b = h := by
  have : (h.set p b).blks = h.blks := by
    funext i
    rw [Hp.blks_set]
    split
    · rename_i e; rw [e, hb]
    · rfl
  cases h
  simp only [Hp.set] at this ⊢
  simp [this]
theorem stC_setpe {s : St} {n : Nat} (hn : n < 8) (x : Bool) : (stC s).setIfInBounds (1 + n * 4 + 2) (.bool x) = stC { s with pe := upd1 s.pe n x } := by
  refine stC_set (by omega) ?_ fun i hi hne => ?_
  · unfold cell
    rw [if_neg (by omega), if_pos (by omega), if_neg (by omega), if_neg (by omega), if_pos (by omega), show (1 + n * 4 + 2 - 1) / 4 = n by omega]
    simp [upd1]
  · unfold cell
    by_cases h2 : i ≠ 0 ∧ i < 33 ∧ (i - 1) % 4 = 2
    · obtain ⟨h2, h3, h4⟩ := h2
      rw [if_neg h2, if_pos h3, if_neg (by omega), if_neg (by omega), if_pos h4, if_neg h2, if_pos h3, if_neg (by omega), if_neg (by omega), if_pos h4]
      simp only [upd1]
      rw [if_neg (by omega)]
    · split
      · rfl
      · split
        · split
          · rfl
          · split
            · rfl
            · split
              · omega
              · rfl
        · rfl
theorem stC_sethi {s : St} {n : Nat} (hn : n < 8) (x : Bool) : (stC s).setIfInBounds (1 + n * 4 + 1) (.bool x) = stC { s with hi := upd1 s.hi n x } := by
  refine stC_set (by omega) ?_ fun i hi hne => ?_
  · unfold cell
    rw [if_neg (by omega), if_pos (by omega), if_neg (by omega), if_pos (by omega), show (1 + n * 4 + 1 - 1) / 4 = n by omega]
    simp [upd1]
  · unfold cell
    by_cases h2 : i ≠ 0 ∧ i < 33 ∧ (i - 1) % 4 = 1
    · obtain ⟨h2, h3, h4⟩ := h2
      rw [if_neg h2, if_pos h3, if_neg (by omega), if_pos h4, if_neg h2, if_pos h3, if_neg (by omega), if_pos h4]
      simp only [upd1]
      rw [if_neg (by omega)]
    · split
      · rfl
      · split
        · split
          · rfl
          · split
            · omega
            · rfl
        · rfl
/-- A source lets a high level through. -/
def gateS (s : St) (n : Nat) : St := if (s.hi n && !s.pe n && !s.se n) = true then { s with pe := upd1 s.pe n true } else s
theorem gate_call {n : Nat} (hb : h.blks p = some ⟨stC s, 1, true⟩) (hn : n < 8) (hK : K (.tuple #[]) (h.set p ⟨stC (gateS s n), 1, true⟩)) : ACall prog 23 [.pointer (some ⟨p, 1 + n * 4, none⟩)] h K := by
  refine acallF_of tb0 func23 rfl rfl mixed (by kernel_rfl) fun hwf => ?_
  have a1 := stC_hi s hn
  have a2 := stC_pe s hn
  have a3 := stC_se s hn
  unfold gateS at hK
  have hset := stC_setpe (s := s) hn true
  by_cases hg : (s.hi n && !s.pe n && !s.se n) = true
  · rw [if_pos hg] at hK
    obtain ⟨⟨e1, e2⟩, e3⟩ : (s.hi n = true ∧ s.pe n = false) ∧ s.se n = false := by simpa using hg
    rw [e1] at a1
    rw [e2] at a2
    rw [e3] at a3
    simp -dsimp (disch := omega) [hb, a1, a2, a3, hset]
    exact RetF.all (by simp) hK
  · rw [if_neg hg, set_same hb] at hK
    cases e1 : s.hi n <;> cases e2 : s.pe n <;> cases e3 : s.se n <;> first | (exfalso; rw [e1, e2, e3] at hg; exact hg rfl) | (rw [e1] at a1; rw [e2] at a2; rw [e3] at a3; simp -dsimp (disch := omega) [hb, a1, a2, a3]; exact RetF.same hwf (by simp) (Nat.zero_le _) (fun _ _ => rfl) hK)
def raiseS (s : St) (n : Nat) (x : Bool) : St := gateS { s with hi := upd1 s.hi n x } n
theorem raise_call {n : Int} {x : Bool} (hb : h.blks p = some ⟨stC s, 1, true⟩) (h1 : n < 1 ∨ 8 ≤ n → K (.int .i64 2) h) (h2 : ∀ m : Nat, n = m → 1 ≤ m → m < 8 → K (.int .i64 0) (h.set p ⟨stC (raiseS s m x), 1, true⟩)) : ACall prog 10 [ptr p, .int .i64 n, .bool x] h K := by
  refine acallF_of tb0 func10 rfl rfl mixed (by kernel_rfl) fun hwf => ?_
  simp -dsimp (disch := omega)
  refine is_call hb ?_
  by_cases c1 : n < 1
  · simp -dsimp (disch := omega) [c1]
    exact RetF.same hwf (by simp) (Nat.zero_le _) (fun _ _ => rfl) (h1 (.inl c1))
  · by_cases c2 : 8 ≤ n
    · simp -dsimp (disch := omega) [c1, c2]
      exact RetF.same hwf (by simp) (Nat.zero_le _) (fun _ _ => rfl) (h1 (.inr c2))
    · obtain ⟨m, rfl⟩ : ∃ m : Nat, n = m := ⟨n.toNat, by omega⟩
      have hm : m < 8 := by omega
      have c1n : ¬ m < 1 := by omega
      have c2n : ¬ 8 ≤ m := by omega
      have hK := h2 m rfl (by omega) hm
      have hset := stC_sethi (s := s) hm x
      simp -dsimp (disch := omega) [c1, c2, c1n, c2n, hb, hset]
      refine gate_call (n := m) (s := { s with hi := upd1 s.hi m x }) (blks_set_eq _ _ _) hm ?_
      simp -dsimp (disch := omega)
      exact RetF.all (by simp) hK
end
end Go.Proofs.YtfdhahnnhaeibaaDoor
