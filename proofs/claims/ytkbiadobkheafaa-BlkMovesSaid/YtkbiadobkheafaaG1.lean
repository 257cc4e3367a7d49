/-
  A memory: is, Size, there, numbers, touch.
-/
import Derived.Test.YtkbiadobkheafaaF
import Derived.Test.YtkbiadobkheafaaM21
set_option linter.unusedSimpArgs false
set_option linter.unusedVariables false
set_option linter.unusedSectionVars false
namespace Go.Proofs.Ytkbiadobkheafaa.Rm
set_option maxRecDepth 100000
open Go Go.Mini Go.Proofs.Try

def tb0 : Nat → Marks := fun _ => ⟨[], fun _ => False⟩
@[simp] theorem tb0_l (k : Nat) : (tb0 k).l = [] := id rfl
abbrev ptr (p : Nat) : Value := .pointer (some ⟨p, 0, none⟩)
def ramC (b N C a : Nat) (w : Int) : Array Value := #[.slice (some ⟨b, 0, none⟩) N (2 * C), .int .u64 a, .int .i64 w]

/-- A memory of N bytes, and its claim. -/
structure Ram (h : Hp) (p b N C : Nat) (M : Nat → Nat) (a : Nat) (w : Int) : Prop where
  blk : h.blks p = some ⟨ramC b N C a w, 1, true⟩
  row : h.blks b = some ⟨mem N M, 1, true⟩
  ne : b ≠ p
  plt : p < h.next
  blt : b < h.next
  N0 : 0 < N
  N1 : N ≤ 65536
  a1 : a < N
  M8 : ∀ i, M i < 256
  NC : N ≤ C
theorem Ram.blk' {h : Hp} {p b N C : Nat} {M : Nat → Nat} {a : Nat} {w : Int} (r : Ram h p b N C M a w) : h.blks p = some ⟨#[.slice (some ⟨b, 0, none⟩) N (2 * C), .int .u64 a, .int .i64 w], 1, true⟩ := r.blk

/-- Only these two are changed. -/
structure Ch (h h' : Hp) (p b : Nat) : Prop where
  next : h'.next = h.next
  same : ∀ i, i ≠ p → i ≠ b → h'.blks i = h.blks i
theorem Ch.refl (h : Hp) (p b : Nat) : Ch h h p b := ⟨rfl, fun _ _ _ => rfl⟩
theorem Ch.trans {h h' h'' : Hp} {p b : Nat} (x : Ch h h' p b) (y : Ch h' h'' p b) : Ch h h'' p b := ⟨by rw [y.next, x.next], fun i h1 h2 => by rw [y.same i h1 h2, x.same i h1 h2]⟩
theorem Ch.setp (h : Hp) (p b : Nat) (c : Blk) : Ch h (h.set p c) p b := ⟨by simp, fun i h1 _ => blks_set_ne _ _ _ _ h1⟩
theorem Ch.setb (h : Hp) (p b : Nat) (c : Blk) : Ch h (h.set b c) p b := ⟨by simp, fun i _ h2 => blks_set_ne _ _ _ _ h2⟩

section
variable {h : Hp} {p b N C : Nat} {M : Nat → Nat} {a : Nat} {w : Int} {K : Value → Hp → Prop}

theorem is_call (r : Ram h p b N C M a w) (hK : K (.bool true) h) : ACall prog 27 [ptr p] h K := by
  refine acallF_of tb0 func27 rfl rfl mixed (by kernel_rfl) fun hwf => ?_
  have hb := r.blk'
  simp -dsimp (disch := omega) [hb]
  exact RetF.same hwf (by simp) (Nat.zero_le _) (fun _ _ => rfl) hK

theorem size_call (r : Ram h p b N C M a w) (hK : K (.int .u64 N) h) : ACall prog 50 [ptr p] h K := by
  refine acallF_of tb0 func50 rfl rfl mixed (by kernel_rfl) fun hwf => ?_
  have hb := r.blk'
  have h1 := r.N1
  simp -dsimp (disch := omega) [hb]
  refine is_call r ?_
  simp -dsimp (disch := omega) [hb]
  exact RetF.same hwf (by simp) (Nat.zero_le _) (fun _ _ => rfl) hK

theorem there_call {x n : Nat} (r : Ram h p b N C M a w) (hK : K (.bool (decide (x + n ≤ N))) h) : ACall prog 28 [ptr p, .int .u64 x, .int .u64 n] h K := by
  refine acallF_of tb0 func28 rfl rfl mixed (by kernel_rfl) fun hwf => ?_
  have hb := r.blk'
  have h1 := r.N1
  simp -dsimp (disch := omega) [hb]
  refine is_call r ?_
  simp -dsimp (disch := omega) [hb]
  refine size_call r ?_
  by_cases hx : x ≤ N
  · have hx' : (x : Int) ≤ N := by omega
    simp -dsimp (disch := omega) [hx, hx']
    refine size_call r ?_
    by_cases hn : x + n ≤ N
    · have hn' : (n : Int) ≤ N - x := by omega
      rw [decide_eq_true hn] at hK
      simp -dsimp (disch := omega) [hn, hn']
      exact RetF.same hwf (by simp) (Nat.zero_le _) (fun _ _ => rfl) hK
    · have hn' : ¬ (n : Int) ≤ N - x := by omega
      rw [decide_eq_false hn] at hK
      simp -dsimp (disch := omega) [hn, hn']
      exact RetF.same hwf (by simp) (Nat.zero_le _) (fun _ _ => rfl) hK
  · have hx' : ¬ (x : Int) ≤ N := by omega
    rw [decide_eq_false (by omega)] at hK
    simp -dsimp (disch := omega) [hx, hx']
    exact RetF.same hwf (by simp) (Nat.zero_le _) (fun _ _ => rfl) hK

/-- Widths that may be. -/
def wok (n : Int) : Prop := n = 1 ∨ n = 2 ∨ n = 4 ∨ n = 8
instance (n : Int) : Decidable (wok n) := by unfold wok; infer_instance

theorem numbers_call {x : Nat} {n : Int} (r : Ram h p b N C M a w) (hK : K (.bool (decide (wok n ∧ x + n.toNat ≤ N))) h) : ACall prog 53 [ptr p, .int .u64 x, .int .i64 n] h K := by
  refine acallF_of tb0 func53 rfl rfl mixed (by kernel_rfl) fun hwf => ?_
  by_cases hw : wok n
  · have key : decide (wok n ∧ x + n.toNat ≤ N) = decide (x + n.toNat ≤ N) := by rw [decide_eq_decide]; exact ⟨fun h => h.2, fun h => ⟨hw, h⟩⟩
    rw [key] at hK
    obtain ⟨k, rfl, hk⟩ : ∃ k : Nat, n = k ∧ (k = 1 ∨ k = 2 ∨ k = 4 ∨ k = 8) := ⟨n.toNat, by unfold wok at hw; omega, by unfold wok at hw; omega⟩
    rw [Int.toNat_natCast] at hK
    have e := @there_call h p b N C M a w K x k r
    clear hw key
    obtain rfl | rfl | rfl | rfl := hk
    all_goals
      simp -dsimp (disch := omega)
      refine there_call r ?_
      simp -dsimp (disch := omega)
      exact RetF.same (r := .bool (decide (x + _ ≤ N))) hwf (by simp) (Nat.zero_le _) (fun _ _ => rfl) hK
  · rw [decide_eq_false (fun h => hw h.1)] at hK
    unfold wok at hw
    have h1 : ¬ n = 1 := by omega
    have h2 : ¬ n = 2 := by omega
    have h4 : ¬ n = 4 := by omega
    have h8 : ¬ n = 8 := by omega
    simp -dsimp (disch := omega) [h1, h2, h4, h8]
    exact RetF.same hwf (by simp) (Nat.zero_le _) (fun _ _ => rfl) hK

/-- What is left of a claim. -/
def toA (a x n : Nat) : Nat := if 0 < n ∧ x < a / 8 * 8 + 8 ∧ a / 8 * 8 < x + n then 0 else a
def toW (a : Nat) (w : Int) (x n : Nat) : Int := if 0 < n ∧ x < a / 8 * 8 + 8 ∧ a / 8 * 8 < x + n then 0 else w
theorem andNot7 (n : Nat) (hn : n < 18446744073709551616) : ((BitVec.ofInt 64 (n : Int) &&& ~~~BitVec.ofInt 64 7).toNat) = n / 8 * 8 := by
  have h7 : ∀ i : Fin 64, (BitVec.ofInt 64 7).getLsbD i.val = decide (i.val < 3) := by decide
  have : (BitVec.ofInt 64 (n : Int) &&& ~~~BitVec.ofInt 64 7) = BitVec.ofNat 64 (n / 8 * 8) := by
    apply BitVec.eq_of_getLsbD_eq
    intro i hi
    have hh := h7 ⟨i, hi⟩
    simp only at hh
    simp only [BitVec.getLsbD_and, BitVec.getLsbD_not, hh, hi, BitVec.getLsbD_ofNat, BitVec.ofInt_natCast, decide_true, Bool.true_and]
    rw [show n / 8 * 8 = (n >>> 3) <<< 3 from by rw [Nat.shiftRight_eq_div_pow, Nat.shiftLeft_eq], Nat.testBit_shiftLeft, Nat.testBit_shiftRight]
    by_cases h3 : i < 3
    · simp [h3]; omega
    · simp [h3, show 3 ≤ i from by omega]
  rw [this, BitVec.toNat_ofNat, Nat.mod_eq_of_lt (by omega)]

theorem an7 (n f : Nat) (hf : f = n / 8 * 8) (hn : n < 18446744073709551616) (ty : TypeId) (xo yo : Operand) : abin prog .andNot ty xo yo (.int .u64 n) (.int .u64 7) = some (.int .u64 f) := by
  rw [abin_andNot]
  have := andNot7 n hn
  rw [show IntKind.u64.bits = 64 from rfl, this, hf]
  simp (disch := omega)
theorem set_self {h : Hp} {p : Nat} {c : Blk} (hp : h.blks p = some c) : h.set p c = h := by
  obtain ⟨n, bl⟩ := h
  unfold Hp.set
  congr
  funext j
  by_cases hj : j = p
  · subst hj; rw [if_pos rfl]; exact hp.symm
  · rw [if_neg hj]

theorem touch_call {x n : Nat} (r : Ram h p b N C M a w) (hx : x + n ≤ N) (hK : K (.tuple #[]) (h.set p ⟨ramC b N C (toA a x n) (toW a w x n), 1, true⟩)) : ACall prog 29 [ptr p, .int .u64 x, .int .u64 n] h K := by
  refine acallF_of tb0 func29 rfl rfl mixed (by kernel_rfl) fun hwf => ?_
  have hb := r.blk'
  have h1 := r.N1
  have h2 := r.a1
  obtain ⟨f, hf⟩ : ∃ f, f = a / 8 * 8 := ⟨_, rfl⟩
  have hr := an7 a f hf (by omega)
  unfold toA toW at hK
  rw [← hf] at hK
  simp -dsimp (disch := omega) [hb, hr, -abin_andNot]
  by_cases c1 : 0 < n
  · simp -dsimp (disch := omega) [c1]
    by_cases c2 : x < f + 8
    · have c2' : (x : Int) < f + 8 := by omega
      simp -dsimp (disch := omega) [c2, c2']
      by_cases c3 : f < x + n
      · have c3' : (f : Int) < x + n := by omega
        rw [if_pos ⟨c1, c2, c3⟩, if_pos ⟨c1, c2, c3⟩] at hK
        simp -dsimp (disch := omega) [c3, c3', hb]
        exact RetF.all (by simp) hK
      · have c3' : ¬ (f : Int) < x + n := by omega
        rw [if_neg (fun h => c3 h.2.2), if_neg (fun h => c3 h.2.2)] at hK
        simp -dsimp (disch := omega) [c3, c3', hb]
        rw [set_self r.blk] at hK
        exact RetF.same hwf (by simp) (Nat.zero_le _) (fun _ _ => rfl) hK
    · have c2' : ¬ (x : Int) < f + 8 := by omega
      rw [if_neg (fun h => c2 h.2.1), if_neg (fun h => c2 h.2.1), set_self r.blk] at hK
      simp -dsimp (disch := omega) [c2, c2', hb]
      exact RetF.same hwf (by simp) (Nat.zero_le _) (fun _ _ => rfl) hK
  · rw [if_neg (fun h => c1 h.1), if_neg (fun h => c1 h.1), set_self r.blk] at hK
    simp -dsimp (disch := omega) [c1]
    exact RetF.same hwf (by simp) (Nat.zero_le _) (fun _ _ => rfl) hK
end
end Go.Proofs.Ytkbiadobkheafaa.Rm
