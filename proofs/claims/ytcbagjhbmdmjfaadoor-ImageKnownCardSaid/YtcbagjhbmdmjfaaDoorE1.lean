/-
  errors.Is by contracts: of an api.Errno, of a fault around one, of errors.New's make; the target an api.Errno. (Lines of the kit's worked proof, turned.)
-/
import Derived.Test.YtcbagjhbmdmjfaaDoorChecked
import Derived.WalkKit
import Derived.LaidEql
import Derived.Stop.Asserts
import Derived.RowKitTokens
import Derived.Lib.IfaceEq
set_option linter.unusedSimpArgs false
set_option linter.unusedVariables false
set_option linter.unusedSectionVars false
namespace Go.Proofs.YtcbagjhbmdmjfaaDoor
open Go Go.Proofs.Tryd
open Go.RowKit Go.Extern.Stop Go.Stop Go.Extern

theorem typeOf28 (v : Value) (w : World) : (ReflectliteType.typeOf #[.iface 28 v]).run prog w = .ok (.iface 138 (.agg #[.pointer (some ⟨4, 28, none⟩)])) w := by kernel_rfl
theorem comparable28 (w : World) : ((ReflectliteType.method fun t => do Rtype.noPackHeld "Comparable" t; (fun a => Value.bool a.comparable) <$> typeInfo t) #[.agg #[.pointer (some ⟨4, 28, none⟩)]]).run prog w = .ok (.bool true) w := by kernel_rfl
theorem methodComparable (v : Value) (w : World) : (Go.method 297 138 v "Comparable").run prog w = .ok (112, v) w := by kernel_rfl
theorem comp28 : (prog.info? 28).map (·.comparable) = some true := by kernel_rfl

theorem noIs28 (v : Value) (xT : TypeId) (w : World) : (Instr.typeAssert (.iface 28 v) xT 140 true).run prog w = .ok (.tuple #[.nilIface, .bool false]) w := run_typeAssert_lacksB underlying140 (by kernel_rfl) (by kernel_rfl) v xT w
theorem noUnwrap28 (v : Value) (xT : TypeId) (w : World) : (Instr.typeAssert (.iface 28 v) xT 143 true).run prog w = .ok (.tuple #[.nilIface, .bool false]) w := run_typeAssert_lacksB underlying143 (by kernel_rfl) (by kernel_rfl) v xT w
theorem noUnwraps28 (v : Value) (xT : TypeId) (w : World) : (Instr.typeAssert (.iface 28 v) xT 144 true).run prog w = .ok (.tuple #[.nilIface, .bool false]) w := run_typeAssert_lacksB underlying144 (by kernel_rfl) (by kernel_rfl) v xT w
theorem noIs112 (v : Value) (xT : TypeId) (w : World) : (Instr.typeAssert (.iface 112 v) xT 140 true).run prog w = .ok (.tuple #[.nilIface, .bool false]) w := run_typeAssert_lacksB underlying140 (by kernel_rfl) (by kernel_rfl) v xT w
theorem noUnwrap112 (v : Value) (xT : TypeId) (w : World) : (Instr.typeAssert (.iface 112 v) xT 143 true).run prog w = .ok (.tuple #[.nilIface, .bool false]) w := run_typeAssert_lacksB underlying143 (by kernel_rfl) (by kernel_rfl) v xT w
theorem noUnwraps112 (v : Value) (xT : TypeId) (w : World) : (Instr.typeAssert (.iface 112 v) xT 144 true).run prog w = .ok (.tuple #[.nilIface, .bool false]) w := run_typeAssert_lacksB underlying144 (by kernel_rfl) (by kernel_rfl) v xT w
theorem noIs70 (v : Value) (xT : TypeId) (w : World) : (Instr.typeAssert (.iface 70 v) xT 140 true).run prog w = .ok (.tuple #[.nilIface, .bool false]) w := run_typeAssert_lacksB underlying140 (by kernel_rfl) (by kernel_rfl) v xT w
theorem hasUnwrap70 (v : Value) (xT : TypeId) (w : World) : (Instr.typeAssert (.iface 70 v) xT 143 true).run prog w = .ok (.tuple #[.iface 70 v, .bool true]) w := run_typeAssert_hasB underlying143 (by kernel_rfl) v xT w
theorem methodUnwrap (v : Value) (w : World) : (Go.method 297 70 v "Unwrap").run prog w = .ok (33, v) w := by kernel_rfl

set_option maxRecDepth 1000000 in
/-- errors.Is of two numbers. -/
theorem is_num (a b : Int) (w : World) : Calls prog 22 #[.iface 28 (.int .i64 a), .iface 28 (.int .i64 b)] w fun e w' => e = .returned (.bool (a == b)) ∧ w' = w := by
  have h48 := @run_callFunc_extern prog 48 _ ReflectliteType.typeOf func48 (by kernel_rfl) (by kernel_rfl) (by kernel_rfl) (by kernel_rfl)
  have h112 := @run_callFunc_extern prog 112 _ (ReflectliteType.method fun t => do Rtype.noPackHeld "Comparable" t; pure (.bool (← typeInfo t).comparable)) func112 (by kernel_rfl) (by kernel_rfl) (by kernel_rfl) (by kernel_rfl)
  have tT := typeOf28
  have cT := comparable28
  have mR := methodComparable
  have nI := noIs28
  have nU := noUnwrap28
  have nV := noUnwraps28
  have heq := Lib.run_eql_iface_int (P := prog) w (k := .i64) a b underlying41 comp28 underlying28
  by_cases hab : a = b
  · subst hab
    rw [beq_self_eq_true] at heq ⊢
    go_enter func22, ntmps22
    go_wp2
    refine wp_loop_rounds 1 ?_
    rw [rounds_succ]
    go_wp2
    go_ret
    exact ⟨rfl, rfl⟩
  · rw [beq_false_of_ne hab] at heq ⊢
    go_enter func22, ntmps22
    go_wp2
    refine wp_loop_rounds 1 ?_
    rw [rounds_succ]
    go_wp2
    go_ret
    exact ⟨rfl, rfl⟩
end Go.Proofs.YtcbagjhbmdmjfaaDoor
