/-
  Memories that are none; Same.
-/
import Derived.Test.YtgafaelakjnemaaB6
set_option linter.unusedSimpArgs false
set_option linter.unusedVariables false
namespace Go.Proofs.Ytgafaelakjnemaa
open Go Go.Mini Go.Proofs.Try

def tb21 : Nat → Marks := fun k => if k = 3 then ⟨[4, 8], fun _ => True⟩ else ⟨[], fun _ => True⟩
@[simp] theorem tb21_l3 : (tb21 3).l = [4, 8] := rfl
@[simp] theorem tb21_l0 : (tb21 0).l = [] := rfl
@[simp] theorem tb21_l1 : (tb21 1).l = [] := rfl
@[simp] theorem tb21_l2 : (tb21 2).l = [] := rfl
@[simp] theorem tb21_R (k x : Nat) : (tb21 k).R x := by unfold tb21; split <;> trivial

/-- No memory. -/
def Nor (h : Hp) (v : Value) : Prop := v = .pointer none ∨ ∃ z a w, v = ptr z ∧ h.blks z = some ⟨#[.slice none 0 0, .int .u64 a, .int .i64 w], 1, true⟩

section
variable {h : Hp} {v : Value} {K : Value → Hp → Prop}
theorem isN_call (r : Nor h v) (hK : K (.bool false) h) : ACall prog 32 [v] h K := by
  obtain rfl | ⟨z, a, w, rfl, hb⟩ := r
  all_goals
    refine acallF_of tb0 func32 rfl rfl mixed (by kernel_rfl) fun hwf => ?_
    first | simp -dsimp (disch := omega) [hb] | simp -dsimp (disch := omega)
    exact RetF.same hwf (by simp) (Nat.zero_le _) (fun _ _ => rfl) hK
theorem sizeN_call (r : Nor h v) (hK : K (.int .u64 0) h) : ACall prog 20 [v] h K := by
  refine acallF_of tb0 func20 rfl rfl mixed (by kernel_rfl) fun hwf => ?_
  simp -dsimp (disch := omega)
  refine isN_call r ?_
  simp -dsimp (disch := omega)
  exact RetF.same hwf (by simp) (Nat.zero_le _) (fun _ _ => rfl) hK
theorem thereN_call {x n : Nat} (r : Nor h v) (hK : K (.bool false) h) : ACall prog 33 [v, .int .u64 x, .int .u64 n] h K := by
  refine acallF_of tb0 func33 rfl rfl mixed (by kernel_rfl) fun hwf => ?_
  simp -dsimp (disch := omega)
  refine isN_call r ?_
  simp -dsimp (disch := omega)
  exact RetF.same hwf (by simp) (Nat.zero_le _) (fun _ _ => rfl) hK
theorem numbersN_call {x : Nat} (r : Nor h v) (n : Int) (hn : n = 1 ∨ n = 8) (hK : K (.bool false) h) : ACall prog 30 [v, .int .u64 x, .int .i64 n] h K := by
  refine acallF_of tb0 func30 rfl rfl mixed (by kernel_rfl) fun hwf => ?_
  obtain rfl | rfl := hn
  all_goals
    simp -dsimp (disch := omega)
    refine thereN_call r ?_
    simp -dsimp (disch := omega)
    exact RetF.same hwf (by simp) (Nat.zero_le _) (fun _ _ => rfl) hK
theorem noneN_call {x : Nat} (r : Nor h v) (hK : K (.bool true) h) : ACall prog 28 [v, .int .u64 x, .int .i64 1] h K := by
  refine acallF_of tb0 func28 rfl rfl mixed (by kernel_rfl) fun hwf => ?_
  simp -dsimp (disch := omega)
  refine (show ACall prog 12 [v, .int .u64 x, .int .i64 1] h _ from ?_)
  refine acallF_of tb0 func12 rfl rfl mixed (by kernel_rfl) fun hwf2 => ?_
  simp -dsimp (disch := omega)
  refine numbersN_call r 1 (.inl rfl) ?_
  simp -dsimp (disch := omega)
  refine RetF.same (r := .tuple #[.int .u64 0, .bool false]) hwf2 (by simp) (by simp [vtop, vtopL]) (fun _ _ => rfl) ?_
  simp -dsimp (disch := omega)
  exact RetF.same hwf (by simp) (Nat.zero_le _) (fun _ _ => rfl) hK
theorem writeN_call {x y : Nat} (r : Nor h v) (hK : K (.bool false) h) : ACall prog 13 [v, .int .u64 x, .int .u64 y, .int .i64 1] h K := by
  refine acallF_of tb0 func13 rfl rfl mixed (by kernel_rfl) fun hwf => ?_
  simp -dsimp (disch := omega)
  refine numbersN_call r 1 (.inl rfl) ?_
  simp -dsimp (disch := omega)
  exact RetF.same hwf (by simp) (Nat.zero_le _) (fun _ _ => rfl) hK
theorem putN_call {x : Nat} {l : List UInt8} (r : Nor h v) (hl : l.length < 9223372036854775808) (hK : K (.int .i64 1) h) : ACall prog 14 [v, .int .u64 x, .string (txt l)] h K := by
  refine acallF_of tb0 func14 rfl rfl mixed (by kernel_rfl) fun hwf => ?_
  have hz : (txt l).size = l.length := rfl
  simp -dsimp (disch := omega) [hz]
  refine isN_call r ?_
  simp -dsimp (disch := omega)
  exact RetF.same hwf (by simp) (Nat.zero_le _) (fun _ _ => rfl) hK
theorem bytesN_call {x n : Nat} (r : Nor h v) (hK : K (.tuple #[.string (txt []), .int .i64 1]) h) : ACall prog 15 [v, .int .u64 x, .int .u64 n] h K := by
  refine acallF_of tb0 func15 rfl rfl mixed (by kernel_rfl) fun hwf => ?_
  simp -dsimp (disch := omega)
  refine isN_call r ?_
  simp -dsimp (disch := omega)
  exact RetF.same hwf (by simp) (by simp [vtop, vtopL]) (fun _ _ => rfl) hK
theorem clearN_call (r : Nor h v) (hK : K (.tuple #[]) h) : ACall prog 16 [v] h K := by
  refine acallF_of tb0 func16 rfl rfl mixed (by kernel_rfl) fun hwf => ?_
  simp -dsimp (disch := omega)
  refine isN_call r ?_
  simp -dsimp (disch := omega)
  exact RetF.same hwf (by simp) (Nat.zero_le _) (fun _ _ => rfl) hK
theorem dropN_call (r : Nor h v) (hK : K (.tuple #[]) h) : ACall prog 17 [v] h K := by
  refine acallF_of tb0 func17 rfl rfl mixed (by kernel_rfl) fun hwf => ?_
  simp -dsimp (disch := omega)
  refine isN_call r ?_
  simp -dsimp (disch := omega)
  exact RetF.same hwf (by simp) (Nat.zero_le _) (fun _ _ => rfl) hK
theorem reserveN_call {x : Nat} (r : Nor h v) (hK : K (.bool false) h) : ACall prog 11 [v, .int .u64 x, .int .i64 8] h K := by
  refine acallF_of tb0 func11 rfl rfl mixed (by kernel_rfl) fun hwf => ?_
  simp -dsimp (disch := omega)
  refine numbersN_call r 8 (.inr rfl) ?_
  simp -dsimp (disch := omega)
  exact RetF.same hwf (by simp) (Nat.zero_le _) (fun _ _ => rfl) hK
theorem heldN_call {x : Nat} {n : Int} (r : Nor h v) (hK : K (.bool false) h) : ACall prog 18 [v, .int .u64 x, .int .i64 n] h K := by
  refine acallF_of tb0 func18 rfl rfl mixed (by kernel_rfl) fun hwf => ?_
  simp -dsimp (disch := omega)
  refine isN_call r ?_
  simp -dsimp (disch := omega)
  exact RetF.same hwf (by simp) (Nat.zero_le _) (fun _ _ => rfl) hK
theorem copyN_call (r : Nor h v) (hK : K (.pointer none) h) : ACall prog 21 [v] h K := by
  refine acallF_of tb21 func21 rfl rfl mixed (by kernel_rfl) fun hwf => ?_
  simp -dsimp (disch := omega)
  refine isN_call r ?_
  simp -dsimp (disch := omega)
  exact RetF.same hwf (by simp) (Nat.zero_le _) (fun _ _ => rfl) hK
theorem sameNN_call {v' : Value} (r : Nor h v) (r' : Nor h v') (hK : K (.bool true) h) : ACall prog 25 [v, v'] h K := by
  refine acallF_of tb0 func25 rfl rfl mixed (by kernel_rfl) fun hwf => ?_
  simp -dsimp (disch := omega)
  refine isN_call r ?_
  simp -dsimp (disch := omega)
  refine isN_call r ?_
  simp -dsimp (disch := omega)
  refine isN_call r' ?_
  simp -dsimp (disch := omega)
  exact RetF.same hwf (by simp) (Nat.zero_le _) (fun _ _ => rfl) hK
theorem sameMN_call {p b N C : Nat} {M : Nat → Nat} {a : Nat} {w : Int} (r : Ram h p b N C M a w) (r' : Nor h v) (hK : K (.bool false) h) : ACall prog 25 [ptr p, v] h K := by
  refine acallF_of tb0 func25 rfl rfl mixed (by kernel_rfl) fun hwf => ?_
  simp -dsimp (disch := omega)
  refine is_call r ?_
  simp -dsimp (disch := omega)
  refine isN_call r' ?_
  simp -dsimp (disch := omega)
  refine is_call r ?_
  simp -dsimp (disch := omega)
  exact RetF.same hwf (by simp) (Nat.zero_le _) (fun _ _ => rfl) hK
end
end Go.Proofs.Ytgafaelakjnemaa
