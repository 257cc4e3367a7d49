/-
  word; PlicApart.
-/
import Derived.Test.YtfdhahnnhaeibaaDoorQ11
set_option linter.unusedSimpArgs false
set_option linter.unusedVariables false
set_option linter.unusedSectionVars false
namespace Go.Proofs.YtfdhahnnhaeibaaDoor
open Go Go.Mini Go.Proofs.Tryd
set_option maxRecDepth 100000

theorem ext_txt (L : List UInt8) (i j : Nat) : (txt L).extract i j = txt ((L.drop i).take (j - i)) := by
  apply ByteArray.ext
  rw [ByteArray.data_extract]
  show L.toArray.extract i j = ((L.drop i).take (j - i)).toArray
  apply Array.ext'
  simp [List.take_drop]
/-- This block alone is changed. -/
structure Mod (s : Nat) (h h' : Hp) : Prop where
  le : h.next ≤ h'.next
  same : ∀ i, i < h.next → i ≠ s → h'.blks i = h.blks i
theorem ixS_txt {L : List UInt8} {i : Nat} {c : UInt8} (h : L[i]? = some c) : ixS true (txt L) (.int .i64 (i : Nat)) = some (.int .u8 (c.toNat : Nat)) := by
  have hl := (List.getElem?_eq_some_iff.1 h).1
  rw [ixS_true _ _ _ ⟨by omega, by show (i : Int) < L.length; omega⟩, Int.toNat_natCast, bAt_txt, h]
  rfl
section
variable {h : Hp} {K : Value → Hp → Prop} {p : Nat} {s : St}
theorem word_call {L : List UInt8} {k : Nat} (hL : L.length < 9223372036854775808) (hk : k < 100) (hk1 : 1 ≤ k) (hK : K (.string (txt (wordR [] L k))) h) : ACall prog 18 [.string (txt L), .int .i64 k] h K := by
  refine acallF_of tb0 func18 rfl rfl mixed (by kernel_rfl) fun hwf => ?_
  simp -dsimp (disch := omega)
  refine awp_loop (fun t h' => h' = h ∧ ∃ i a j : Nat, i ≤ L.length ∧ a ≤ i ∧ 1 ≤ j ∧ j < 100 ∧ t 0 = .string (txt L) ∧ t 1 = .int .i64 j ∧ t 5 = .int .i64 a ∧ t 6 = .int .i64 i ∧ wordR ((L.drop a).take (i - a)) (L.drop i) j = wordR [] L k) (fun t _ => L.length - ivN (t 6)) ?_ ?_
  · simp -dsimp (disch := omega)
    exact ⟨0, by omega, 0, by omega, k, by omega, by omega, rfl, rfl, rfl, by simp⟩
  · rintro t h' ⟨rfl, i, a, j, hi, hai, hj, hj1, t0, t1, t5, t6, hw⟩
    refine vcF_sound mixed (tb := tb0) _ (by kernel_rfl) ?_
    have hsz : (txt L).size = L.length := rfl
    by_cases hil : i < L.length
    · have hil' : (i : Int) < L.length := by omega
      obtain ⟨c, hc⟩ : ∃ c, L[i]? = some c := ⟨L[i], List.getElem?_eq_getElem hil⟩
      have hx := ixS_txt hc
      have hd : L.drop i = c :: L.drop (i + 1) := by
        have e := List.drop_eq_getElem_cons hil
        rw [e, (List.getElem?_eq_some_iff.1 hc).2]
      rw [hd] at hw
      by_cases h32 : c = 32
      · subst h32
        have hx : ixS true (txt L) (.int .i64 (i : Nat)) = some (.int .u8 32) := hx
        simp only [wordR, if_true] at hw
        by_cases hj2 : j = 1
        · subst hj2
          rw [if_pos rfl] at hw
          have t1' : t 1 = .int .i64 1 := t1
          have he := ext_txt L a i
          simp -dsimp (disch := omega) [t0, t1', t5, t6, hsz, hil, hil', hx, hai, he]
          rw [hw]
          exact RetF.same hwf (by simp) (Nat.zero_le _) (fun _ _ => rfl) hK
        · rw [if_neg hj2] at hw
          have hj2' : ¬ (j : Int) - 1 = 0 := by omega
          simp -dsimp (disch := omega) [t0, t1, t5, t6, hsz, hil, hil', hx, hj2']
          refine ⟨⟨i + 1, by omega, i + 1, by omega, j - 1, by omega, by omega, by omega, by simp, by simp, ?_⟩, by simp [ivN]; omega⟩
          rw [← hw]; simp
      · have h32' : ¬ ((c.toNat : Nat) : Int) = 32 := fun e => h32 (by
          have : c.toNat = 32 := by omega
          exact UInt8.toNat_inj.1 this)
        have h32n : ¬ c.toNat = 32 := by omega
        simp only [wordR, if_neg h32] at hw
        simp -dsimp (disch := omega) [t0, t1, t5, t6, hsz, hil, hil', hx, h32', h32n]
        refine ⟨⟨i + 1, by omega, a, by omega, j, by omega, by omega, rfl, rfl, by simp, ?_⟩, by simp [ivN]; omega⟩
        rw [← hw]
        congr 1
        rw [show i + 1 - a = (i - a) + 1 by omega, List.take_add_one]
        congr 1
        rw [List.getElem?_drop, show a + (i - a) = i by omega, hc]
        rfl
    · have hil' : ¬ (i : Int) < L.length := by omega
      have hd : L.drop i = [] := List.drop_eq_nil_of_le (by omega)
      rw [hd] at hw
      simp only [wordR] at hw
      rw [← hw] at hK
      simp -dsimp (disch := omega) [t0, t1, t5, t6, hsz, hil, hil']
      exact RetF.same hwf (by simp) (Nat.zero_le _) (fun _ _ => rfl) hK
end
end Go.Proofs.YtfdhahnnhaeibaaDoor
