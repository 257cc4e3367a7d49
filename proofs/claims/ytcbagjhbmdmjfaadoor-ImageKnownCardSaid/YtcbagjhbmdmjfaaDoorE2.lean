/-
  errors.Is of a fault around a number, and of errors.New's make.
-/
import Derived.Test.YtcbagjhbmdmjfaaDoorE1
set_option linter.unusedSimpArgs false
set_option linter.unusedVariables false
set_option linter.unusedSectionVars false
namespace Go.Proofs.YtcbagjhbmdmjfaaDoor
open Go Go.Proofs.Tryd
open Go.RowKit Go.Extern.Stop Go.Stop Go.Extern

set_option maxRecDepth 1000000 in
set_option maxHeartbeats 1000000 in
/-- errors.Is of a fault and a number. -/
theorem is_fault (pb po : Nat) (a b : Int) (w : World) (h1 : w.cell? ⟨pb, po + 2, none⟩ = some (.int .i64 a)) : Calls prog 22 #[.iface 70 (.pointer (some ⟨pb, po, none⟩)), .iface 28 (.int .i64 b)] w fun e w' => e = .returned (.bool (a == b)) ∧ w' = w := by
  have h48 := @run_callFunc_extern prog 48 _ ReflectliteType.typeOf func48 (by kernel_rfl) (by kernel_rfl) (by kernel_rfl) (by kernel_rfl)
  have h112 := @run_callFunc_extern prog 112 _ (ReflectliteType.method fun t => do Rtype.noPackHeld "Comparable" t; pure (.bool (← typeInfo t).comparable)) func112 (by kernel_rfl) (by kernel_rfl) (by kernel_rfl) (by kernel_rfl)
  have tT := typeOf28
  have cT := comparable28
  have mR := methodComparable
  have nI := noIs28
  have nU := noUnwrap28
  have nV := noUnwraps28
  have n7 := noIs70
  have u7 := hasUnwrap70
  have mU := methodUnwrap
  have hty := run_eql_iface_types (P := prog) 70 28 (.pointer (some ⟨pb, po, none⟩)) (.int .i64 b) underlying41 (by decide) w
  have heq := Lib.run_eql_iface_int (P := prog) w (k := .i64) a b underlying41 comp28 underlying28
  by_cases hab : a = b
  · subst hab
    rw [beq_self_eq_true] at heq ⊢
    go_enter func22, ntmps22
    go_wp2
    refine wp_loop_rounds 2 ?_
    rw [rounds_succ]
    go_wp2
    rw [rounds_succ]
    go_wp2
    go_ret
    exact ⟨rfl, rfl⟩
  · rw [beq_false_of_ne hab] at heq ⊢
    go_enter func22, ntmps22
    go_wp2
    refine wp_loop_rounds 2 ?_
    rw [rounds_succ]
    go_wp2
    rw [rounds_succ]
    go_wp2
    go_ret
    exact ⟨rfl, rfl⟩

set_option maxRecDepth 1000000 in
/-- errors.Is of an error of errors.New's make and a number. -/
theorem is_new (p : Addr) (b : Int) (w : World) : Calls prog 22 #[.iface 112 (.pointer (some p)), .iface 28 (.int .i64 b)] w fun e w' => e = .returned (.bool false) ∧ w' = w := by
  have h48 := @run_callFunc_extern prog 48 _ ReflectliteType.typeOf func48 (by kernel_rfl) (by kernel_rfl) (by kernel_rfl) (by kernel_rfl)
  have h112 := @run_callFunc_extern prog 112 _ (ReflectliteType.method fun t => do Rtype.noPackHeld "Comparable" t; pure (.bool (← typeInfo t).comparable)) func112 (by kernel_rfl) (by kernel_rfl) (by kernel_rfl) (by kernel_rfl)
  have tT := typeOf28
  have cT := comparable28
  have mR := methodComparable
  have nI := noIs112
  have nU := noUnwrap112
  have nV := noUnwraps112
  have hty := run_eql_iface_types (P := prog) 112 28 (.pointer (some p)) (.int .i64 b) underlying41 (by decide) w
  go_enter func22, ntmps22
  go_wp2
  refine wp_loop_rounds 1 ?_
  rw [rounds_succ]
  go_wp2
  go_ret
  exact ⟨rfl, rfl⟩
end Go.Proofs.YtcbagjhbmdmjfaaDoor
