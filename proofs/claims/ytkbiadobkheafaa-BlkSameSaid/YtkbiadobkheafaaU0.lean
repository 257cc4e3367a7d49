/-
  The zero of a device (2058 cells).
-/
import Derived.Test.YtkbiadobkheafaaF
set_option linter.unusedSimpArgs false
set_option linter.unusedVariables false
set_option linter.unusedSectionVars false
namespace Go.Proofs.Ytkbiadobkheafaa
open Go Go.Mini Go.Proofs.Try
set_option maxRecDepth 100000

theorem zeroOf_of {P : Program} {ty : TypeId} {l : List Value} (h1 : (P.info? ty).bind (·.zero) = some (.agg l.toArray)) (h2 : ∀ v ∈ l, (vtop v == 0 && v.oneCell') = true) : zeroOf P ty = some l.toArray := by
  have e : okZero l.toArray = true := by
    unfold okZero
    rw [List.all_toArray]
    exact List.all_eq_true.2 h2
  unfold zeroOf
  rw [h1]
  show (if okZero l.toArray then some l.toArray else none) = _
  rw [if_pos e]
def zL : List Value := [.int .u32 0, .int .u32 0, .int .u64 0, .int .u32 0, .int .u32 0, .int .u64 0, .int .u8 0, .int .u32 0, .int .u32 0] ++ List.replicate 2048 (.int .u8 0)
theorem zL_ok : ∀ v ∈ zL, (vtop v == 0 && v.oneCell') = true := by
  intro v hv
  rcases List.mem_append.1 hv with h | h
  · simp only [List.mem_cons, List.not_mem_nil, or_false] at h
    rcases h with rfl | rfl | rfl | rfl | rfl | rfl | rfl | rfl | rfl <;> rfl
  · rw [List.eq_of_mem_replicate h]; rfl
theorem info_66 : (prog.info? 66).bind (·.zero) = some (.agg zL.toArray) := by kernel_rfl
@[simp] theorem zeroOf_66 : zeroOf prog 66 = some zL.toArray := zeroOf_of info_66 zL_ok
theorem info_68 : (prog.info? 68).bind (·.zero) = some (.agg (.bool false :: zL).toArray) := by kernel_rfl
@[simp] theorem zeroOf_68 : zeroOf prog 68 = some (.bool false :: zL).toArray := zeroOf_of info_68 fun v hv => by
  rcases List.mem_cons.1 hv with rfl | h
  · rfl
  · exact zL_ok v h
theorem zL_len : zL.length = 2057 := by simp [zL]
theorem zL_at {i : Nat} (h : i < 2048) : zL[9 + i]? = some (.int .u8 0) := by
  unfold zL
  rw [List.getElem?_append_right (by simp), List.getElem?_replicate]
  simp [h]
end Go.Proofs.Ytkbiadobkheafaa
