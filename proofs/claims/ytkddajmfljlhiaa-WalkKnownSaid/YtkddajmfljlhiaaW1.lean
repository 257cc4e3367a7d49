/-
  Small functions of a walk: Bare, low, canonical, bad, page, Allowed.
-/
import Derived.Test.YtkddajmfljlhiaaF
import Derived.Test.YtkddajmfljlhiaaM25
set_option linter.unusedSimpArgs false
set_option linter.unusedVariables false
namespace Go.Proofs.Ytkddajmfljlhiaa
open Go Go.Mini Go.Proofs.Try

def tb0 : Nat → Marks := fun _ => ⟨[], fun _ => False⟩
@[simp] theorem tb0_l (k : Nat) : (tb0 k).l = [] := id rfl
abbrev ptr (p : Nat) : Value := .pointer (some ⟨p, 0, none⟩)

structure Ask where
  va : Nat
  satp : Nat
  kind : Nat
  mode : Nat
  sum : Bool
  mxr : Bool
def Ask.ok (x : Ask) : Prop := x.va < 18446744073709551616 ∧ x.satp < 18446744073709551616 ∧ x.kind < 256 ∧ x.mode < 256
def askL (x : Ask) : List Value := [.int .u64 x.va, .int .u64 x.satp, .int .u8 x.kind, .int .u8 x.mode, .bool x.sum, .bool x.mxr]
def askV (x : Ask) : Value := .agg #[.int .u64 x.va, .int .u64 x.satp, .int .u8 x.kind, .int .u8 x.mode, .bool x.sum, .bool x.mxr]

theorem and_n (a b d : Nat) (ha : a < 18446744073709551616) (hb : b < 18446744073709551616) (hd : d = a &&& b) (ty : TypeId) (xo yo : Operand) : abin prog .and ty xo yo (.int .u64 (a : Nat)) (.int .u64 (b : Nat)) = some (.int .u64 (d : Nat)) := by
  have hl : d < 18446744073709551616 := by rw [hd]; exact Nat.lt_of_le_of_lt Nat.and_le_left ha
  rw [abin_and, show IntKind.u64.bits = 64 from rfl, BitVec.toNat_and, bv_of a ha, bv_of b hb, ← hd]
  simp (disch := omega)
theorem or_n (a b d : Nat) (ha : a < 18446744073709551616) (hb : b < 18446744073709551616) (hd : d = a ||| b) (ty : TypeId) (xo yo : Operand) : abin prog .or ty xo yo (.int .u64 (a : Nat)) (.int .u64 (b : Nat)) = some (.int .u64 (d : Nat)) := by
  have hl : d < 2 ^ 64 := by rw [hd]; exact Nat.or_lt_two_pow ha hb
  have hl' : d < 18446744073709551616 := hl
  rw [abin_or, show IntKind.u64.bits = 64 from rfl, BitVec.toNat_or, bv_of a ha, bv_of b hb, ← hd]
  simp (disch := omega)

def bareB (x : Ask) : Bool := decide (x.mode = 3) || !decide (x.satp / 1152921504606846976 = 8)
def canB (va : Nat) : Bool := decide (va / 274877906944 = 0) || decide (va / 274877906944 = 67108863)
def badB (e : Nat) : Bool := decide (e &&& 1 = 0) || decide (e &&& 6 = 4) || !decide (e / 18014398509481984 = 0)
def pageN (e : Nat) : Nat := e / 1024 % 17592186044416

section
variable {h : Hp} {K : Value → Hp → Prop}
theorem bare_call {x : Ask} (ox : x.ok) (hK : K (.bool (bareB x)) h) : ACall prog 12 [askV x] h K := by
  refine acallF_of tb0 func12 rfl rfl mixed (by kernel_rfl) fun hwf => ?_
  obtain ⟨va, sa, ki, mo, su, mx⟩ := x
  obtain ⟨o1, o2, o3, o4⟩ := ox
  simp only at o1 o2 o3 o4
  unfold bareB at hK
  simp only at hK
  have e1 := shr_u64 sa 60 (by omega)
  obtain ⟨d, hd⟩ : ∃ d, d = sa / 1152921504606846976 := ⟨_, rfl⟩
  rw [show sa / 2 ^ 60 = d from hd.symm] at e1
  rw [← hd] at hK
  unfold askV at *
  by_cases hm : mo = 3
  · subst hm
    simp only [decide_true, Bool.true_or] at hK
    simp -dsimp (disch := omega)
    exact RetF.same hwf (by simp) (Nat.zero_le _) (fun i hi => by simp (disch := omega)) hK
  · have hm' : ¬ (mo : Int) = 3 := by omega
    rw [decide_eq_false hm, Bool.false_or] at hK
    simp -dsimp (disch := omega) [hm, hm', e1]
    refine RetF.same (r := .bool (!decide ((d : Int) = 8))) hwf (by simp) (Nat.zero_le _) (fun i hi => by simp (disch := omega)) ?_
    rw [show decide ((d : Int) = 8) = decide (d = 8) from by rw [decide_eq_decide]; omega]
    exact hK

theorem low_call {n : Nat} (hn : n < 64) (hK : K (.int .u64 (2 ^ n - 1 : Nat)) h) : ACall prog 23 [.int .i64 n] h K := by
  refine acallF_of tb0 func23 rfl rfl mixed (by kernel_rfl) fun hwf => ?_
  have hp : 2 ^ n ≤ 2 ^ 63 := Nat.pow_le_pow_right (by omega) (by omega)
  have hq : 0 < 2 ^ n := Nat.pow_pos (by omega)
  have e1 := shl_u64 1 n hn (2 ^ n) (by rw [Nat.one_mul]) (by omega)
  obtain ⟨d, hd⟩ : ∃ d, d = 2 ^ n := ⟨_, rfl⟩
  rw [← hd] at e1 hp hq hK
  have e1' : IntKind.u64.wrap (2 ^ min n IntKind.u64.bits) = (d : Nat) := by rw [← e1]; congr 1; omega
  simp -dsimp (disch := omega) [e1']
  refine RetF.same (r := .int .u64 ((d : Int) - 1)) hwf (by simp) (Nat.zero_le _) (fun _ _ => rfl) ?_
  rw [show (d : Int) - 1 = ((d - 1 : Nat) : Int) from by omega]
  exact hK
end
end Go.Proofs.Ytkddajmfljlhiaa
