/-
  A memory: Write, Read.
-/
import Derived.Test.YtkbiadobkheafaaG3
import Derived.IntWalk
set_option linter.unusedSimpArgs false
set_option linter.unusedVariables false
set_option linter.unusedSectionVars false
namespace Go.Proofs.Ytkbiadobkheafaa.Rm
set_option maxRecDepth 100000
open Go Go.Mini Go.Proofs.Try

/-- A number that is laid down. -/
def wr (M : Nat → Nat) (x v n : Nat) : Nat → Nat := fun i => if x ≤ i ∧ i < x + n then v / 256 ^ (i - x) % 256 else M i
theorem wr_zero (M : Nat → Nat) (x v : Nat) : wr M x v 0 = M := by
  funext i; unfold wr; rw [if_neg (by omega)]
theorem wr_succ (M : Nat → Nat) (x v n : Nat) : upd1 (wr M x v n) (x + n) (v / 256 ^ n % 256) = wr M x v (n + 1) := by
  funext i
  unfold wr upd1
  by_cases h : i = x + n
  · subst h; rw [if_pos rfl, if_pos (by omega), Nat.add_sub_cancel_left]
  · rw [if_neg h]
    show (if x ≤ i ∧ i < x + n then v / 256 ^ (i - x) % 256 else M i) = _
    by_cases h' : x ≤ i ∧ i < x + n
    · rw [if_pos h', if_pos (by omega)]
    · rw [if_neg h', if_neg (by omega)]
theorem wr_lt {M : Nat → Nat} {x v n : Nat} (h : ∀ i, M i < 256) : ∀ i, wr M x v n i < 256 := fun i => by
  unfold wr; split
  · omega
  · exact h i
/-- A number that stands there. -/
def leN (M : Nat → Nat) : Nat → Nat → Nat
  | _, 0 => 0
  | x, n + 1 => leN M (x + 1) n * 256 + M x
theorem leN_lt {M : Nat → Nat} (h : ∀ i, M i < 256) (n : Nat) : ∀ x, leN M x n < 256 ^ n := by
  induction n with
  | zero => intro x; simp [leN]
  | succ n ih => intro x; have := ih (x + 1); have := h x; rw [leN, Nat.pow_succ]; omega
theorem shr8 (v k : Nat) (hk : k < 8) : IntKind.u8.wrap ((v : Int).fdiv (2 ^ (min (8 * (k : Int)).toNat 64))) = ((v / 256 ^ k % 256 : Nat) : Int) := by
  rw [show min (8 * (k : Int)).toNat 64 = 8 * k from by omega, IntKind.wrap_u8, Int.fdiv_eq_ediv_of_nonneg _ (Int.le_of_lt (Int.pow_pos (by omega))), Int.pow_mul, show (2 : Int) ^ 8 = 256 from rfl]
  rw [Int.natCast_emod, Int.natCast_ediv, Int.natCast_pow]
  rfl
theorem or8 (v m : Nat) (hm : m < 256) (hv : v < 72057594037927936) (ty : TypeId) (xo yo : Operand) : abin prog .or ty xo yo (.int .u64 (IntKind.u64.wrap ((v : Int) * 2 ^ min 8 IntKind.u64.bits))) (.int .u64 m) = some (.int .u64 ((v * 256 + m : Nat) : Int)) := by
  have e0 : IntKind.u64.wrap ((v : Int) * 2 ^ min 8 IntKind.u64.bits) = (v : Int) * 256 := by
    show IntKind.u64.wrap ((v : Int) * 256) = _
    exact IntWalk.u64_in _ (by omega)
  rw [abin_or, e0]
  have hor : v * 256 ||| m = v * 256 + m := by
    have := Nat.shiftLeft_add_eq_or_of_lt (show m < 2 ^ 8 by omega) v
    rw [Nat.shiftLeft_eq] at this
    exact this.symm
  have e : (v : Int) * 256 = ((v * 256 : Nat) : Int) := by omega
  have t1 : (BitVec.ofInt 64 ((v * 256 : Nat) : Int) ||| BitVec.ofInt 64 (m : Int)).toNat = v * 256 + m := by
    rw [BitVec.toNat_or, BitVec.ofInt_natCast, BitVec.ofInt_natCast, BitVec.toNat_ofNat, BitVec.toNat_ofNat, Nat.mod_eq_of_lt (by omega), Nat.mod_eq_of_lt (by omega), hor]
  rw [e, show IntKind.u64.bits = 64 from rfl, t1, IntWalk.u64_in _ (by omega)]
def ivS : Value → Nat | .int _ i => (i + 1).toNat | _ => 0

section
variable {h : Hp} {p b N C : Nat} {M : Nat → Nat} {a : Nat} {w : Int} {K : Value → Hp → Prop}

theorem write_call {x v : Nat} {n : Int} (r : Ram h p b N C M a w) (hv : v < 18446744073709551616) (hx : x < 18446744073709551616) (hK1 : wok n ∧ x + n.toNat ≤ N → K (.bool true) ((h.set b ⟨mem N (wr M x v n.toNat), 1, true⟩).set p ⟨ramC b N C (toA a x n.toNat) (toW a w x n.toNat), 1, true⟩)) (hK2 : ¬ (wok n ∧ x + n.toNat ≤ N) → K (.bool false) h) : ACall prog 39 [ptr p, .int .u64 x, .int .u64 v, .int .i64 n] h K := by
  refine acallF_of tb0 func39 rfl rfl mixed (by kernel_rfl) fun hwf => ?_
  have h1 := r.N1
  simp -dsimp (disch := omega)
  refine numbers_call r ?_
  by_cases hc : wok n ∧ x + n.toNat ≤ N
  · have hK := hK1 hc
    rw [decide_eq_true hc]
    obtain ⟨m, rfl, hm⟩ : ∃ m : Nat, n = m ∧ m ≤ 8 := ⟨n.toNat, by have := hc.1; unfold wok at this; omega, by have := hc.1; unfold wok at this; omega⟩
    rw [Int.toNat_natCast] at hK hc
    have hxm := hc.2
    simp -dsimp (disch := omega)
    refine awp_loop (fun t h' => ∃ k : Nat, h' = h.set b ⟨mem N (wr M x v k), 1, true⟩ ∧ k ≤ m ∧ t 0 = ptr p ∧ t 1 = .int .u64 x ∧ t 2 = .int .u64 v ∧ t 3 = .int .i64 m ∧ t 15 = .int .i64 m ∧ t 16 = .int .i64 k) (fun t _ => m - ivN (t 16)) ?_ ?_
    · simp -dsimp (disch := omega)
      exact ⟨0, by rw [wr_zero, set_self r.row], by omega, rfl⟩
    · rintro t _ ⟨k, rfl, hk, g0, g1, g2, g3, g15, g16⟩
      have r' : Ram (h.set b ⟨mem N (wr M x v k), 1, true⟩) p b N C (wr M x v k) a w := r.fill (wr_lt r.M8)
      have hb := r.blk'
      have hpb : ¬ p = b := fun e => r.ne e.symm
      refine vcF_sound mixed (tb := tb0) _ (by kernel_rfl) ?_
      simp -dsimp (disch := omega) [g0, g1, g2, g3, g15, g16]
      refine CondF_dec (fun hc2 => ?_) (fun hc2 => ?_)
      · have hk2 : k < m := by omega
        have e1 := shr8 v k (by omega)
        obtain ⟨d, hd⟩ : ∃ d, d = v / 256 ^ k % 256 := ⟨_, rfl⟩
        rw [← hd] at e1
        have hxk : x + k < N := by omega
        have e2 := mem_set N (wr M x v k) (x + k) d
        rw [hd, wr_succ, ← hd] at e2
        simp -dsimp (disch := omega) [g0, g1, g2, g3, g15, g16, hb, hpb, e1, hxk, e2]
        have ex : ((x : Int) + k).toNat = x + k := by omega
        refine ⟨⟨k + 1, by rw [ex, show IntKind.u8.wrap ((v : Int).fdiv (2 ^ min (8 * (k : Int)).toNat IntKind.u64.bits)) = d from e1, e2], by omega, by simp⟩, by simp [ivN]; omega⟩
      · have : k = m := by omega
        subst this
        simp -dsimp (disch := omega) [g0, g1, g2, g3, g15, g16]
        refine touch_call r' hxm ?_
        simp -dsimp (disch := omega)
        exact RetF.all (by simp) hK
  · rw [decide_eq_false hc]
    simp -dsimp (disch := omega)
    exact RetF.same hwf (by simp) (Nat.zero_le _) (fun _ _ => rfl) (hK2 hc)

end
end Go.Proofs.Ytkbiadobkheafaa.Rm
