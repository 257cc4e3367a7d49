/-
  errors.Is by contracts: of an api.Errno, of a fault around one, of errors.New's make; the target an api.Errno. (Lines of the kit's worked proof, turned.) errors.Is of a fault around a number, and of errors.New's make. errors.As: what the model's entries for internal/reflectlite give at this program's types. (Lines of the kit's worked proof, turned by a program: gen07e.py.) errors.As by contracts: of a fault, of a number; the target a variable of a fault's type, or of a number's. (Lines of the kit's worked proof, turned by a program: gen07f.py.) errors.Is and errors.As as calls on names.
-/
import Derived.Test.YtmnemfeofhinaaaDoorChecked
import Derived.WalkKit
import Derived.LaidEql
import Derived.Stop.Asserts
import Derived.RowKitTokens
import Derived.Lib.IfaceEq
import Derived.Test.YtmnemfeofhinaaaDoorM28
import Derived.Test.YtmnemfeofhinaaaDoorM29
set_option linter.unusedSimpArgs false
set_option linter.unusedVariables false
set_option linter.unusedSectionVars false

namespace Go.Proofs.YtmnemfeofhinaaaDoor
open Go Go.Proofs.Tryd
open Go.RowKit Go.Extern.Stop Go.Stop Go.Extern

theorem typeOf28 (v : Value) (w : World) : (ReflectliteType.typeOf #[.iface 51 v]).run prog w = .ok (.iface 155 (.agg #[.pointer (some ⟨4, 51, none⟩)])) w := by kernel_rfl
theorem comparable28 (w : World) : ((ReflectliteType.method fun t => do Rtype.noPackHeld "Comparable" t; (fun a => Value.bool a.comparable) <$> typeInfo t) #[.agg #[.pointer (some ⟨4, 51, none⟩)]]).run prog w = .ok (.bool true) w := by kernel_rfl
theorem methodComparable (v : Value) (w : World) : (Go.method 311 155 v "Comparable").run prog w = .ok (122, v) w := by kernel_rfl
theorem comp28 : (prog.info? 51).map (·.comparable) = some true := by kernel_rfl

theorem noIs28 (v : Value) (xT : TypeId) (w : World) : (Instr.typeAssert (.iface 51 v) xT 167 true).run prog w = .ok (.tuple #[.nilIface, .bool false]) w := run_typeAssert_lacksB underlying167 (by kernel_rfl) (by kernel_rfl) v xT w
theorem noUnwrap28 (v : Value) (xT : TypeId) (w : World) : (Instr.typeAssert (.iface 51 v) xT 162 true).run prog w = .ok (.tuple #[.nilIface, .bool false]) w := run_typeAssert_lacksB underlying162 (by kernel_rfl) (by kernel_rfl) v xT w
theorem noUnwraps28 (v : Value) (xT : TypeId) (w : World) : (Instr.typeAssert (.iface 51 v) xT 163 true).run prog w = .ok (.tuple #[.nilIface, .bool false]) w := run_typeAssert_lacksB underlying163 (by kernel_rfl) (by kernel_rfl) v xT w
theorem noIs112 (v : Value) (xT : TypeId) (w : World) : (Instr.typeAssert (.iface 120 v) xT 167 true).run prog w = .ok (.tuple #[.nilIface, .bool false]) w := run_typeAssert_lacksB underlying167 (by kernel_rfl) (by kernel_rfl) v xT w
theorem noUnwrap112 (v : Value) (xT : TypeId) (w : World) : (Instr.typeAssert (.iface 120 v) xT 162 true).run prog w = .ok (.tuple #[.nilIface, .bool false]) w := run_typeAssert_lacksB underlying162 (by kernel_rfl) (by kernel_rfl) v xT w
theorem noUnwraps112 (v : Value) (xT : TypeId) (w : World) : (Instr.typeAssert (.iface 120 v) xT 163 true).run prog w = .ok (.tuple #[.nilIface, .bool false]) w := run_typeAssert_lacksB underlying163 (by kernel_rfl) (by kernel_rfl) v xT w
theorem noIs70 (v : Value) (xT : TypeId) (w : World) : (Instr.typeAssert (.iface 70 v) xT 167 true).run prog w = .ok (.tuple #[.nilIface, .bool false]) w := run_typeAssert_lacksB underlying167 (by kernel_rfl) (by kernel_rfl) v xT w
theorem hasUnwrap70 (v : Value) (xT : TypeId) (w : World) : (Instr.typeAssert (.iface 70 v) xT 162 true).run prog w = .ok (.tuple #[.iface 70 v, .bool true]) w := run_typeAssert_hasB underlying162 (by kernel_rfl) v xT w
theorem methodUnwrap (v : Value) (w : World) : (Go.method 311 70 v "Unwrap").run prog w = .ok (26, v) w := by kernel_rfl

set_option maxRecDepth 1000000 in
/-- errors.Is of two numbers. -/
theorem is_num (a b : Int) (w : World) : Calls prog 60 #[.iface 51 (.int .i64 a), .iface 51 (.int .i64 b)] w fun e w' => e = .returned (.bool (a == b)) ∧ w' = w := by
  have h48 := @run_callFunc_extern prog 79 _ ReflectliteType.typeOf func79 (by kernel_rfl) (by kernel_rfl) (by kernel_rfl) (by kernel_rfl)
  have h112 := @run_callFunc_extern prog 122 _ (ReflectliteType.method fun t => do Rtype.noPackHeld "Comparable" t; pure (.bool (← typeInfo t).comparable)) func122 (by kernel_rfl) (by kernel_rfl) (by kernel_rfl) (by kernel_rfl)
  have tT := typeOf28
  have cT := comparable28
  have mR := methodComparable
  have nI := noIs28
  have nU := noUnwrap28
  have nV := noUnwraps28
  have heq := Lib.run_eql_iface_int (P := prog) w (k := .i64) a b underlying29 comp28 underlying51
  by_cases hab : a = b
  · subst hab
    rw [beq_self_eq_true] at heq ⊢
    go_enter func60, ntmps60
    go_wp2
    refine wp_loop_rounds 1 ?_
    rw [rounds_succ]
    go_wp2
    go_ret
    exact ⟨rfl, rfl⟩
  · rw [beq_false_of_ne hab] at heq ⊢
    go_enter func60, ntmps60
    go_wp2
    refine wp_loop_rounds 1 ?_
    rw [rounds_succ]
    go_wp2
    go_ret
    exact ⟨rfl, rfl⟩
end Go.Proofs.YtmnemfeofhinaaaDoor
namespace Go.Proofs.YtmnemfeofhinaaaDoor
open Go Go.Proofs.Tryd
open Go.RowKit Go.Extern.Stop Go.Stop Go.Extern

set_option maxRecDepth 1000000 in
set_option maxHeartbeats 1000000 in
/-- errors.Is of a fault and a number. -/
theorem is_fault (pb po : Nat) (a b : Int) (w : World) (h1 : w.cell? ⟨pb, po + 2, none⟩ = some (.int .i64 a)) : Calls prog 60 #[.iface 70 (.pointer (some ⟨pb, po, none⟩)), .iface 51 (.int .i64 b)] w fun e w' => e = .returned (.bool (a == b)) ∧ w' = w := by
  have h48 := @run_callFunc_extern prog 79 _ ReflectliteType.typeOf func79 (by kernel_rfl) (by kernel_rfl) (by kernel_rfl) (by kernel_rfl)
  have h112 := @run_callFunc_extern prog 122 _ (ReflectliteType.method fun t => do Rtype.noPackHeld "Comparable" t; pure (.bool (← typeInfo t).comparable)) func122 (by kernel_rfl) (by kernel_rfl) (by kernel_rfl) (by kernel_rfl)
  have tT := typeOf28
  have cT := comparable28
  have mR := methodComparable
  have nI := noIs28
  have nU := noUnwrap28
  have nV := noUnwraps28
  have n7 := noIs70
  have u7 := hasUnwrap70
  have mU := methodUnwrap
  have hty := run_eql_iface_types (P := prog) 70 51 (.pointer (some ⟨pb, po, none⟩)) (.int .i64 b) underlying29 (by decide) w
  have heq := Lib.run_eql_iface_int (P := prog) w (k := .i64) a b underlying29 comp28 underlying51
  by_cases hab : a = b
  · subst hab
    rw [beq_self_eq_true] at heq ⊢
    go_enter func60, ntmps60
    go_wp2
    refine wp_loop_rounds 2 ?_
    rw [rounds_succ]
    go_wp2
    rw [rounds_succ]
    go_wp2
    go_ret
    exact ⟨rfl, rfl⟩
  · rw [beq_false_of_ne hab] at heq ⊢
    go_enter func60, ntmps60
    go_wp2
    refine wp_loop_rounds 2 ?_
    rw [rounds_succ]
    go_wp2
    rw [rounds_succ]
    go_wp2
    go_ret
    exact ⟨rfl, rfl⟩

set_option maxRecDepth 1000000 in
/-- errors.Is of an error of errors.New's make and a number. -/
theorem is_new (p : Addr) (b : Int) (w : World) : Calls prog 60 #[.iface 120 (.pointer (some p)), .iface 51 (.int .i64 b)] w fun e w' => e = .returned (.bool false) ∧ w' = w := by
  have h48 := @run_callFunc_extern prog 79 _ ReflectliteType.typeOf func79 (by kernel_rfl) (by kernel_rfl) (by kernel_rfl) (by kernel_rfl)
  have h112 := @run_callFunc_extern prog 122 _ (ReflectliteType.method fun t => do Rtype.noPackHeld "Comparable" t; pure (.bool (← typeInfo t).comparable)) func122 (by kernel_rfl) (by kernel_rfl) (by kernel_rfl) (by kernel_rfl)
  have tT := typeOf28
  have cT := comparable28
  have mR := methodComparable
  have nI := noIs112
  have nU := noUnwrap112
  have nV := noUnwraps112
  have hty := run_eql_iface_types (P := prog) 120 51 (.pointer (some p)) (.int .i64 b) underlying29 (by decide) w
  go_enter func60, ntmps60
  go_wp2
  refine wp_loop_rounds 1 ?_
  rw [rounds_succ]
  go_wp2
  go_ret
  exact ⟨rfl, rfl⟩
end Go.Proofs.YtmnemfeofhinaaaDoor
namespace Go.Proofs.YtmnemfeofhinaaaDoor
open Go Go.Proofs.Tryd
open Go.RowKit Go.Extern.Stop Go.Stop Go.Extern

theorem rlm (z : Sem Value) (f : TypeId → Addr → Nat → Nat → Sem Value) (v : Value) :
    ReflectliteValue.method z f #[v] = (do match ← ReflectliteValue.parts v with | none => z | some (t, a, fl) => f t a fl (fl % 32)) := rfl
theorem rls (v x : Value) : ReflectliteValue.set #[v, x] = (do
    let (some (dst, a, fl), some (src, b, _)) := (← ReflectliteValue.parts v, ← ReflectliteValue.parts x)
      | unsupported (.noEntry "extern/(internal/reflectlite.Value).Set.zeroValue")
    if fl / ReflectliteValue.flagAddr % 2 == 0 then unsupported (.noEntry "extern/(internal/reflectlite.Value).Set.unaddressable")
    let val ← loadVar src b
    if ← Rtype.directlyAssignable dst src then storeVar dst a val
    else if ← Rtype.implements dst src then
      if (← Rtype.kind src) == 20 then
        match val with
        | .nilIface => unsupported (.noEntry "extern/reflectlite: a nil value of one interface type handed on as a value of another")
        | _ => storeVar dst a val
      else storeVar dst a (.iface src val)
    else panicString ("reflectlite.Set: value of type " ++ (← Rtype.spelt src) ++ " is not assignable to type " ++ (← Rtype.spelt dst))
    pure (.tuple #[])) := rfl
theorem methodKind (h : Value) (w : World) : (Go.method 311 155 (.agg #[h]) "Kind").run prog w = .ok (113, h) w := by kernel_rfl
theorem methodElem (h : Value) (w : World) : (Go.method 311 155 (.agg #[h]) "Elem").run prog w = .ok (123, .agg #[h]) w := by kernel_rfl
theorem methodImplements (h : Value) (w : World) : (Go.method 311 155 (.agg #[h]) "Implements").run prog w = .ok (124, .agg #[h]) w := by kernel_rfl
theorem methodAssignableTo (h : Value) (w : World) : (Go.method 311 155 (.agg #[h]) "AssignableTo").run prog w = .ok (121, .agg #[h]) w := by kernel_rfl
theorem typeOf70 (v : Value) (w : World) : (ReflectliteType.typeOf #[.iface 70 v]).run prog w = .ok (.iface 155 (.agg #[.pointer (some ⟨4, 70, none⟩)])) w := by kernel_rfl
theorem typeOf112 (v : Value) (w : World) : (ReflectliteType.typeOf #[.iface 120 v]).run prog w = .ok (.iface 155 (.agg #[.pointer (some ⟨4, 120, none⟩)])) w := by kernel_rfl
theorem assignableNo (w : World) : (ReflectliteType.relation "AssignableTo" ReflectliteType.assignableTo #[.agg #[.pointer (some ⟨4, 51, none⟩)], .iface 155 (.agg #[.pointer (some ⟨4, 70, none⟩)])]).run prog w = .ok (.bool false) w := by kernel_rfl
theorem assignableNo2 (w : World) : (ReflectliteType.relation "AssignableTo" ReflectliteType.assignableTo #[.agg #[.pointer (some ⟨4, 70, none⟩)], .iface 155 (.agg #[.pointer (some ⟨4, 51, none⟩)])]).run prog w = .ok (.bool false) w := by kernel_rfl
theorem assignableNo3 (w : World) : (ReflectliteType.relation "AssignableTo" ReflectliteType.assignableTo #[.agg #[.pointer (some ⟨4, 120, none⟩)], .iface 155 (.agg #[.pointer (some ⟨4, 51, none⟩)])]).run prog w = .ok (.bool false) w := by kernel_rfl
theorem noAs28 (v : Value) (xT : TypeId) (w : World) : (Instr.typeAssert (.iface 51 v) xT 159 true).run prog w = .ok (.tuple #[.nilIface, .bool false]) w := run_typeAssert_lacksB underlying159 (by kernel_rfl) (by kernel_rfl) v xT w
theorem noAs70 (v : Value) (xT : TypeId) (w : World) : (Instr.typeAssert (.iface 70 v) xT 159 true).run prog w = .ok (.tuple #[.nilIface, .bool false]) w := run_typeAssert_lacksB underlying159 (by kernel_rfl) (by kernel_rfl) v xT w
theorem noAs112 (v : Value) (xT : TypeId) (w : World) : (Instr.typeAssert (.iface 120 v) xT 159 true).run prog w = .ok (.tuple #[.nilIface, .bool false]) w := run_typeAssert_lacksB underlying159 (by kernel_rfl) (by kernel_rfl) v xT w

/-! ### A target of type 100, of 70 -/
theorem valueOf100 (t : Addr) (w : World) : (ReflectliteValue.unpack (.iface 108 (.pointer (some t)))).run prog w
    = .ok (.agg #[.pointer (some ⟨4, 108, none⟩), .pointer (some ⟨w.heap.size, 0, none⟩), .int .u64 150]) (w.alloc (.cells #[.pointer (some t)] 108)) := by kernel_rfl
theorem type100 (a : Addr) (w : World) : (ReflectliteValue.methodAny (ReflectliteValue.valueError "reflectlite.Value.Type" 0) (fun t _ _ _ => ReflectliteType.toType t) #[.agg #[.pointer (some ⟨4, 108, none⟩), .pointer (some a), .int .u64 150]]).run prog w
    = .ok (.iface 155 (.agg #[.pointer (some ⟨4, 108, none⟩)])) w := by kernel_rfl
theorem kind100 (w : World) : ((ReflectliteType.abiMethod fun t => (fun a : Nat => Value.int IntKind.u8 (a : Int)) <$> Rtype.kind t) #[.pointer (some ⟨4, 108, none⟩)]).run prog w = .ok (.int .u8 22) w := by kernel_rfl
theorem kind70 (w : World) : ((ReflectliteType.abiMethod fun t => (fun a : Nat => Value.int IntKind.u8 (a : Int)) <$> Rtype.kind t) #[.pointer (some ⟨4, 70, none⟩)]).run prog w = .ok (.int .u8 22) w := by kernel_rfl
theorem parts100 (a : Addr) (w : World) : (ReflectliteValue.parts (.agg #[.pointer (some ⟨4, 108, none⟩), .pointer (some a), .int .u64 150])).run prog w = .ok (some (108, a, 150)) w := by kernel_rfl
theorem isNil100 (a p : Addr) (W : World) (ha : W.cell? a = some (.pointer (some p))) :
    (ReflectliteValue.method (ReflectliteValue.valueError "reflectlite.Value.IsNil" 0) ReflectliteValue.isNil #[.agg #[.pointer (some ⟨4, 108, none⟩), .pointer (some a), .int .u64 150]]).run prog W = .ok (.bool false) W := by
  rw [rlm]
  simp only [Sem.run_bind, parts100, Result.andThen]
  simp [ReflectliteValue.isNil, loadVar, isAgg, underlying, underlying108, ha, Result.andThen]
theorem elem100 (w : World) : (ReflectliteType.method ReflectliteType.elem #[.agg #[.pointer (some ⟨4, 108, none⟩)]]).run prog w = .ok (.iface 155 (.agg #[.pointer (some ⟨4, 70, none⟩)])) w := by kernel_rfl
theorem implements70 (w : World) : (ReflectliteType.relation "Implements" ReflectliteType.implements_ #[.agg #[.pointer (some ⟨4, 70, none⟩)], .iface 155 (.agg #[.pointer (some ⟨4, 29, none⟩)])]).run prog w = .ok (.bool true) w := by kernel_rfl
theorem assignable70 (w : World) : (ReflectliteType.relation "AssignableTo" ReflectliteType.assignableTo #[.agg #[.pointer (some ⟨4, 70, none⟩)], .iface 155 (.agg #[.pointer (some ⟨4, 70, none⟩)])]).run prog w = .ok (.bool true) w := by kernel_rfl
theorem valueOf70 (p : Addr) (w : World) : (ReflectliteValue.unpack (.iface 70 (.pointer (some p)))).run prog w
    = .ok (.agg #[.pointer (some ⟨4, 70, none⟩), .pointer (some ⟨w.heap.size, 0, none⟩), .int .u64 150]) (w.alloc (.cells #[(.pointer (some p))] 70)) := by kernel_rfl
theorem elemOf100 (w : World) : (Rtype.elem? 108).run prog w = .ok (some 70) w := by kernel_rfl
theorem mk70 (q : Addr) (w : World) : (ReflectliteValue.mk 70 q ReflectliteValue.flagAddr).run prog w = .ok (.agg #[.pointer (some ⟨4, 70, none⟩), .pointer (some q), .int .u64 406]) w := by kernel_rfl
theorem elemV100 (a p : Addr) (W : World) (ha : W.cell? a = some (.pointer (some p))) :
    (ReflectliteValue.method (ReflectliteValue.valueError "reflectlite.Value.Elem" 0) ReflectliteValue.elem #[.agg #[.pointer (some ⟨4, 108, none⟩), .pointer (some a), .int .u64 150]]).run prog W
      = .ok (.agg #[.pointer (some ⟨4, 70, none⟩), .pointer (some p), .int .u64 406]) W := by
  rw [rlm]
  simp only [Sem.run_bind, parts100, Result.andThen]
  simp [ReflectliteValue.elem, loadVar, isAgg, underlying, underlying108, ha, Result.andThen, elemOf100, mk70]
theorem parts70a (a : Addr) (w : World) : (ReflectliteValue.parts (.agg #[.pointer (some ⟨4, 70, none⟩), .pointer (some a), .int .u64 406])).run prog w = .ok (some (70, a, 406)) w := by kernel_rfl
theorem parts70 (a : Addr) (w : World) : (ReflectliteValue.parts (.agg #[.pointer (some ⟨4, 70, none⟩), .pointer (some a), .int .u64 150])).run prog w = .ok (some (70, a, 150)) w := by kernel_rfl
theorem direct70 (w : World) : (Rtype.directlyAssignable 70 70).run prog w = .ok true w := by kernel_rfl
theorem size70 (w : World) : (sizeOf 70).run prog w = .ok 1 w := by kernel_rfl
theorem set70 (ta b : Addr) (p : Addr) (old : Value) (W : World) (hb : W.cell? b = some (.pointer (some p))) (ht : W.cell? ta = some old) (hf : W.frozen? ta = false) :
    (ReflectliteValue.set #[.agg #[.pointer (some ⟨4, 70, none⟩), .pointer (some ta), .int .u64 406], .agg #[.pointer (some ⟨4, 70, none⟩), .pointer (some b), .int .u64 150]]).run prog W
      = .ok (.tuple #[]) (W.setCell ta (.pointer (some p))) := by
  rw [rls]
  simp only [Sem.run_bind, parts70a, parts70, Result.andThen]
  simp [ReflectliteValue.flagAddr, loadVar, isAgg, underlying, underlying70, hb, Result.andThen, direct70, storeVar, Value.cells, storeCells, Addr.add]
  rw [run_store prog W ta _ _ (by rfl)]
  simp [ht, hf]

/-! ### A target of type 101, of 28 -/
theorem valueOf101 (t : Addr) (w : World) : (ReflectliteValue.unpack (.iface 112 (.pointer (some t)))).run prog w
    = .ok (.agg #[.pointer (some ⟨4, 112, none⟩), .pointer (some ⟨w.heap.size, 0, none⟩), .int .u64 150]) (w.alloc (.cells #[.pointer (some t)] 112)) := by kernel_rfl
theorem type101 (a : Addr) (w : World) : (ReflectliteValue.methodAny (ReflectliteValue.valueError "reflectlite.Value.Type" 0) (fun t _ _ _ => ReflectliteType.toType t) #[.agg #[.pointer (some ⟨4, 112, none⟩), .pointer (some a), .int .u64 150]]).run prog w
    = .ok (.iface 155 (.agg #[.pointer (some ⟨4, 112, none⟩)])) w := by kernel_rfl
theorem kind101 (w : World) : ((ReflectliteType.abiMethod fun t => (fun a : Nat => Value.int IntKind.u8 (a : Int)) <$> Rtype.kind t) #[.pointer (some ⟨4, 112, none⟩)]).run prog w = .ok (.int .u8 22) w := by kernel_rfl
theorem kind28 (w : World) : ((ReflectliteType.abiMethod fun t => (fun a : Nat => Value.int IntKind.u8 (a : Int)) <$> Rtype.kind t) #[.pointer (some ⟨4, 51, none⟩)]).run prog w = .ok (.int .u8 2) w := by kernel_rfl
theorem parts101 (a : Addr) (w : World) : (ReflectliteValue.parts (.agg #[.pointer (some ⟨4, 112, none⟩), .pointer (some a), .int .u64 150])).run prog w = .ok (some (112, a, 150)) w := by kernel_rfl
theorem isNil101 (a p : Addr) (W : World) (ha : W.cell? a = some (.pointer (some p))) :
    (ReflectliteValue.method (ReflectliteValue.valueError "reflectlite.Value.IsNil" 0) ReflectliteValue.isNil #[.agg #[.pointer (some ⟨4, 112, none⟩), .pointer (some a), .int .u64 150]]).run prog W = .ok (.bool false) W := by
  rw [rlm]
  simp only [Sem.run_bind, parts101, Result.andThen]
  simp [ReflectliteValue.isNil, loadVar, isAgg, underlying, underlying112, ha, Result.andThen]
theorem elem101 (w : World) : (ReflectliteType.method ReflectliteType.elem #[.agg #[.pointer (some ⟨4, 112, none⟩)]]).run prog w = .ok (.iface 155 (.agg #[.pointer (some ⟨4, 51, none⟩)])) w := by kernel_rfl
theorem implements28 (w : World) : (ReflectliteType.relation "Implements" ReflectliteType.implements_ #[.agg #[.pointer (some ⟨4, 51, none⟩)], .iface 155 (.agg #[.pointer (some ⟨4, 29, none⟩)])]).run prog w = .ok (.bool true) w := by kernel_rfl
theorem assignable28 (w : World) : (ReflectliteType.relation "AssignableTo" ReflectliteType.assignableTo #[.agg #[.pointer (some ⟨4, 51, none⟩)], .iface 155 (.agg #[.pointer (some ⟨4, 51, none⟩)])]).run prog w = .ok (.bool true) w := by kernel_rfl
theorem valueOf28 (n : Int) (w : World) : (ReflectliteValue.unpack (.iface 51 (.int .i64 n))).run prog w
    = .ok (.agg #[.pointer (some ⟨4, 51, none⟩), .pointer (some ⟨w.heap.size, 0, none⟩), .int .u64 130]) (w.alloc (.cells #[(.int .i64 n)] 51)) := by kernel_rfl
theorem elemOf101 (w : World) : (Rtype.elem? 112).run prog w = .ok (some 51) w := by kernel_rfl
theorem mk28 (q : Addr) (w : World) : (ReflectliteValue.mk 51 q ReflectliteValue.flagAddr).run prog w = .ok (.agg #[.pointer (some ⟨4, 51, none⟩), .pointer (some q), .int .u64 386]) w := by kernel_rfl
theorem elemV101 (a p : Addr) (W : World) (ha : W.cell? a = some (.pointer (some p))) :
    (ReflectliteValue.method (ReflectliteValue.valueError "reflectlite.Value.Elem" 0) ReflectliteValue.elem #[.agg #[.pointer (some ⟨4, 112, none⟩), .pointer (some a), .int .u64 150]]).run prog W
      = .ok (.agg #[.pointer (some ⟨4, 51, none⟩), .pointer (some p), .int .u64 386]) W := by
  rw [rlm]
  simp only [Sem.run_bind, parts101, Result.andThen]
  simp [ReflectliteValue.elem, loadVar, isAgg, underlying, underlying112, ha, Result.andThen, elemOf101, mk28]
theorem parts28a (a : Addr) (w : World) : (ReflectliteValue.parts (.agg #[.pointer (some ⟨4, 51, none⟩), .pointer (some a), .int .u64 386])).run prog w = .ok (some (51, a, 386)) w := by kernel_rfl
theorem parts28 (a : Addr) (w : World) : (ReflectliteValue.parts (.agg #[.pointer (some ⟨4, 51, none⟩), .pointer (some a), .int .u64 130])).run prog w = .ok (some (51, a, 130)) w := by kernel_rfl
theorem direct28 (w : World) : (Rtype.directlyAssignable 51 51).run prog w = .ok true w := by kernel_rfl
theorem size28 (w : World) : (sizeOf 51).run prog w = .ok 1 w := by kernel_rfl
theorem set28 (ta b : Addr) (n : Int) (old : Value) (W : World) (hb : W.cell? b = some (.int .i64 n)) (ht : W.cell? ta = some old) (hf : W.frozen? ta = false) :
    (ReflectliteValue.set #[.agg #[.pointer (some ⟨4, 51, none⟩), .pointer (some ta), .int .u64 386], .agg #[.pointer (some ⟨4, 51, none⟩), .pointer (some b), .int .u64 130]]).run prog W
      = .ok (.tuple #[]) (W.setCell ta (.int .i64 n)) := by
  rw [rls]
  simp only [Sem.run_bind, parts28a, parts28, Result.andThen]
  simp [ReflectliteValue.flagAddr, loadVar, isAgg, underlying, underlying51, hb, Result.andThen, direct28, storeVar, Value.cells, storeCells, Addr.add]
  rw [run_store prog W ta _ _ (by rfl)]
  simp [ht, hf]
end Go.Proofs.YtmnemfeofhinaaaDoor
namespace Go.Proofs.YtmnemfeofhinaaaDoor
open Go Go.Proofs.Tryd
open Go.RowKit Go.Extern.Stop Go.Stop Go.Extern

/-- What errors.As makes of its own, ahead of the answer. -/
abbrev asV (T : TypeId) (w : World) : Obj := .cells #[.pointer (some ⟨4, T, none⟩), .pointer (some ⟨w.heap.size, 0, none⟩), .int .u64 150] 134
abbrev asW (T : TypeId) (t : Addr) (w : World) : World := ((w.alloc (.cells #[.pointer (some t)] T)).alloc (asV T w)).alloc (asV T w)
abbrev errTy : Value := .iface 155 (.agg #[.pointer (some ⟨4, 29, none⟩)])
theorem cell_lt {w : World} {t : Addr} {v : Value} (h : w.cell? t = some v) : t.block < w.heap.size := by
  rcases Nat.lt_or_ge t.block w.heap.size with h1 | h1
  · exact h1
  · simp [World.cell?, Array.getElem?_eq_none h1] at h

set_option maxRecDepth 1000000 in
set_option maxHeartbeats 4000000 in
/-- A fault is a fault. -/
theorem as_fault (p : Addr) (t : Addr) (old : Value) (w : World) (hg : w.cell? ⟨0, 0, none⟩ = some errTy) (ht0 : w.cell? t = some old) (hf0 : w.frozen? t = false) :
    Calls prog 52 #[.iface 70 (.pointer (some p)), .iface 108 (.pointer (some t))] w fun e w' => e = .returned (.bool true) ∧ w' = ((asW 108 t w).alloc (.cells #[(.pointer (some p))] 70)).setCell t (.pointer (some p)) := by
  have h66 := @run_callFunc_extern prog 70 _ (fun args => ReflectliteValue.unpack (args.getD 0 (.tuple #[]))) func70 (by kernel_rfl) (by kernel_rfl) (by kernel_rfl) (by kernel_rfl)
  have h67 := @run_callFunc_extern prog 71 _ (ReflectliteValue.methodAny (ReflectliteValue.valueError "reflectlite.Value.Type" 0) (fun t _ _ _ => ReflectliteType.toType t)) func71 (by kernel_rfl) (by kernel_rfl) (by kernel_rfl) (by kernel_rfl)
  have h68 := @run_callFunc_extern prog 72 _ (ReflectliteValue.method (ReflectliteValue.valueError "reflectlite.Value.IsNil" 0) ReflectliteValue.isNil) func72 (by kernel_rfl) (by kernel_rfl) (by kernel_rfl) (by kernel_rfl)
  have h103 := @run_callFunc_extern prog 113 _ (ReflectliteType.abiMethod fun t => do pure (.int .u8 (← Rtype.kind t))) func113 (by kernel_rfl) (by kernel_rfl) (by kernel_rfl) (by kernel_rfl)
  have h113 := @run_callFunc_extern prog 123 _ (ReflectliteType.method ReflectliteType.elem) func123 (by kernel_rfl) (by kernel_rfl) (by kernel_rfl) (by kernel_rfl)
  have h114 := @run_callFunc_extern prog 124 _ (ReflectliteType.relation "Implements" ReflectliteType.implements_) func124 (by kernel_rfl) (by kernel_rfl) (by kernel_rfl) (by kernel_rfl)
  have h48 := @run_callFunc_extern prog 79 _ ReflectliteType.typeOf func79 (by kernel_rfl) (by kernel_rfl) (by kernel_rfl) (by kernel_rfl)
  have h111 := @run_callFunc_extern prog 121 _ (ReflectliteType.relation "AssignableTo" ReflectliteType.assignableTo) func121 (by kernel_rfl) (by kernel_rfl) (by kernel_rfl) (by kernel_rfl)
  have h75 := @run_callFunc_extern prog 84 _ (ReflectliteValue.method (ReflectliteValue.valueError "reflectlite.Value.Elem" 0) ReflectliteValue.elem) func84 (by kernel_rfl) (by kernel_rfl) (by kernel_rfl) (by kernel_rfl)
  have h76 := @run_callFunc_extern prog 85 _ ReflectliteValue.set func85 (by kernel_rfl) (by kernel_rfl) (by kernel_rfl) (by kernel_rfl)
  have z0 := typeOf70
  have z1 := methodAssignableTo
  have z2 := valueOf100
  have z3 := type100
  have z4 := methodKind
  have z5 := methodElem
  have z6 := methodImplements
  have z7 := kind100
  have z8 := kind70
  have z9 := elem100
  have z10 := implements70
  have z11 := valueOf70
  have z12 := assignable70
  have n8 := isNil100 ⟨w.heap.size, 0, none⟩ t ((w.alloc (.cells #[.pointer (some t)] 108)).alloc (asV 108 w)) (by simp)
  have hlt : 0 < w.heap.size := cell_lt hg
  have htl : t.block < w.heap.size := cell_lt ht0
  have hg2 : ((w.alloc (.cells #[.pointer (some t)] 108)).alloc (asV 108 w)).cell? ⟨0, 0, none⟩ = some errTy := by
    rw [World.cell?_alloc_lt _ _ ⟨0, 0, none⟩ (by simp), World.cell?_alloc_lt _ _ ⟨0, 0, none⟩ hlt]; exact hg
  have el := elemV100 ⟨w.heap.size, 0, none⟩ t (asW 108 t w) (by rw [World.cell?_alloc_lt _ _ ⟨w.heap.size, 0, none⟩ (by simp; omega)]; simp)
  have st := set70 t ⟨w.heap.size + 1 + 1 + 1, 0, none⟩ p old ((asW 108 t w).alloc (.cells #[(.pointer (some p))] 70))
    (by rw [World.cell?_alloc_at _ _ _ _ (by simp)]; rfl)
    (by rw [World.cell?_alloc_lt _ _ t (by simp; omega), World.cell?_alloc_lt _ _ t (by simp; omega), World.cell?_alloc_lt _ _ t (by simp; omega), World.cell?_alloc_lt _ _ t htl]; exact ht0)
    (by rw [World.frozen?_alloc_old _ _ t (by simp; omega), World.frozen?_alloc_old _ _ t (by simp; omega), World.frozen?_alloc_old _ _ t (by simp; omega), World.frozen?_alloc_old _ _ t (Nat.ne_of_lt htl)]; exact hf0)
  go_enter func52, ntmps52
  go_wp2
  refine wp_loop_rounds 1 ?_
  rw [rounds_succ]
  go_wp2
  go_ret
  exact ⟨rfl, rfl⟩

set_option maxRecDepth 1000000 in
set_option maxHeartbeats 4000000 in
/-- A number is a number. -/
theorem as_num (n : Int) (t : Addr) (old : Value) (w : World) (hg : w.cell? ⟨0, 0, none⟩ = some errTy) (ht0 : w.cell? t = some old) (hf0 : w.frozen? t = false) :
    Calls prog 52 #[.iface 51 (.int .i64 n), .iface 112 (.pointer (some t))] w fun e w' => e = .returned (.bool true) ∧ w' = ((asW 112 t w).alloc (.cells #[(.int .i64 n)] 51)).setCell t (.int .i64 n) := by
  have h66 := @run_callFunc_extern prog 70 _ (fun args => ReflectliteValue.unpack (args.getD 0 (.tuple #[]))) func70 (by kernel_rfl) (by kernel_rfl) (by kernel_rfl) (by kernel_rfl)
  have h67 := @run_callFunc_extern prog 71 _ (ReflectliteValue.methodAny (ReflectliteValue.valueError "reflectlite.Value.Type" 0) (fun t _ _ _ => ReflectliteType.toType t)) func71 (by kernel_rfl) (by kernel_rfl) (by kernel_rfl) (by kernel_rfl)
  have h68 := @run_callFunc_extern prog 72 _ (ReflectliteValue.method (ReflectliteValue.valueError "reflectlite.Value.IsNil" 0) ReflectliteValue.isNil) func72 (by kernel_rfl) (by kernel_rfl) (by kernel_rfl) (by kernel_rfl)
  have h103 := @run_callFunc_extern prog 113 _ (ReflectliteType.abiMethod fun t => do pure (.int .u8 (← Rtype.kind t))) func113 (by kernel_rfl) (by kernel_rfl) (by kernel_rfl) (by kernel_rfl)
  have h113 := @run_callFunc_extern prog 123 _ (ReflectliteType.method ReflectliteType.elem) func123 (by kernel_rfl) (by kernel_rfl) (by kernel_rfl) (by kernel_rfl)
  have h114 := @run_callFunc_extern prog 124 _ (ReflectliteType.relation "Implements" ReflectliteType.implements_) func124 (by kernel_rfl) (by kernel_rfl) (by kernel_rfl) (by kernel_rfl)
  have h48 := @run_callFunc_extern prog 79 _ ReflectliteType.typeOf func79 (by kernel_rfl) (by kernel_rfl) (by kernel_rfl) (by kernel_rfl)
  have h111 := @run_callFunc_extern prog 121 _ (ReflectliteType.relation "AssignableTo" ReflectliteType.assignableTo) func121 (by kernel_rfl) (by kernel_rfl) (by kernel_rfl) (by kernel_rfl)
  have h75 := @run_callFunc_extern prog 84 _ (ReflectliteValue.method (ReflectliteValue.valueError "reflectlite.Value.Elem" 0) ReflectliteValue.elem) func84 (by kernel_rfl) (by kernel_rfl) (by kernel_rfl) (by kernel_rfl)
  have h76 := @run_callFunc_extern prog 85 _ ReflectliteValue.set func85 (by kernel_rfl) (by kernel_rfl) (by kernel_rfl) (by kernel_rfl)
  have z0 := typeOf28
  have z1 := methodAssignableTo
  have z2 := valueOf101
  have z3 := type101
  have z4 := methodKind
  have z5 := methodElem
  have z6 := methodImplements
  have z7 := kind101
  have z8 := kind28
  have z9 := elem101
  have z10 := implements28
  have z11 := valueOf28
  have z12 := assignable28
  have n8 := isNil101 ⟨w.heap.size, 0, none⟩ t ((w.alloc (.cells #[.pointer (some t)] 112)).alloc (asV 112 w)) (by simp)
  have hlt : 0 < w.heap.size := cell_lt hg
  have htl : t.block < w.heap.size := cell_lt ht0
  have hg2 : ((w.alloc (.cells #[.pointer (some t)] 112)).alloc (asV 112 w)).cell? ⟨0, 0, none⟩ = some errTy := by
    rw [World.cell?_alloc_lt _ _ ⟨0, 0, none⟩ (by simp), World.cell?_alloc_lt _ _ ⟨0, 0, none⟩ hlt]; exact hg
  have el := elemV101 ⟨w.heap.size, 0, none⟩ t (asW 112 t w) (by rw [World.cell?_alloc_lt _ _ ⟨w.heap.size, 0, none⟩ (by simp; omega)]; simp)
  have st := set28 t ⟨w.heap.size + 1 + 1 + 1, 0, none⟩ n old ((asW 112 t w).alloc (.cells #[(.int .i64 n)] 51))
    (by rw [World.cell?_alloc_at _ _ _ _ (by simp)]; rfl)
    (by rw [World.cell?_alloc_lt _ _ t (by simp; omega), World.cell?_alloc_lt _ _ t (by simp; omega), World.cell?_alloc_lt _ _ t (by simp; omega), World.cell?_alloc_lt _ _ t htl]; exact ht0)
    (by rw [World.frozen?_alloc_old _ _ t (by simp; omega), World.frozen?_alloc_old _ _ t (by simp; omega), World.frozen?_alloc_old _ _ t (by simp; omega), World.frozen?_alloc_old _ _ t (Nat.ne_of_lt htl)]; exact hf0)
  go_enter func52, ntmps52
  go_wp2
  refine wp_loop_rounds 1 ?_
  rw [rounds_succ]
  go_wp2
  go_ret
  exact ⟨rfl, rfl⟩

set_option maxRecDepth 1000000 in
set_option maxHeartbeats 4000000 in
/-- A number is no fault. -/
theorem as_num_not (n : Int) (t : Addr) (old : Value) (w : World) (hg : w.cell? ⟨0, 0, none⟩ = some errTy) (ht0 : w.cell? t = some old) (hf0 : w.frozen? t = false) :
    Calls prog 52 #[.iface 51 (.int .i64 n), .iface 108 (.pointer (some t))] w fun e w' => e = .returned (.bool false) ∧ w' = asW 108 t w := by
  have h66 := @run_callFunc_extern prog 70 _ (fun args => ReflectliteValue.unpack (args.getD 0 (.tuple #[]))) func70 (by kernel_rfl) (by kernel_rfl) (by kernel_rfl) (by kernel_rfl)
  have h67 := @run_callFunc_extern prog 71 _ (ReflectliteValue.methodAny (ReflectliteValue.valueError "reflectlite.Value.Type" 0) (fun t _ _ _ => ReflectliteType.toType t)) func71 (by kernel_rfl) (by kernel_rfl) (by kernel_rfl) (by kernel_rfl)
  have h68 := @run_callFunc_extern prog 72 _ (ReflectliteValue.method (ReflectliteValue.valueError "reflectlite.Value.IsNil" 0) ReflectliteValue.isNil) func72 (by kernel_rfl) (by kernel_rfl) (by kernel_rfl) (by kernel_rfl)
  have h103 := @run_callFunc_extern prog 113 _ (ReflectliteType.abiMethod fun t => do pure (.int .u8 (← Rtype.kind t))) func113 (by kernel_rfl) (by kernel_rfl) (by kernel_rfl) (by kernel_rfl)
  have h113 := @run_callFunc_extern prog 123 _ (ReflectliteType.method ReflectliteType.elem) func123 (by kernel_rfl) (by kernel_rfl) (by kernel_rfl) (by kernel_rfl)
  have h114 := @run_callFunc_extern prog 124 _ (ReflectliteType.relation "Implements" ReflectliteType.implements_) func124 (by kernel_rfl) (by kernel_rfl) (by kernel_rfl) (by kernel_rfl)
  have h48 := @run_callFunc_extern prog 79 _ ReflectliteType.typeOf func79 (by kernel_rfl) (by kernel_rfl) (by kernel_rfl) (by kernel_rfl)
  have h111 := @run_callFunc_extern prog 121 _ (ReflectliteType.relation "AssignableTo" ReflectliteType.assignableTo) func121 (by kernel_rfl) (by kernel_rfl) (by kernel_rfl) (by kernel_rfl)
  have z0 := typeOf28
  have z1 := methodAssignableTo
  have z2 := valueOf100
  have z3 := type100
  have z4 := methodKind
  have z5 := methodElem
  have z6 := methodImplements
  have z7 := kind100
  have z8 := kind70
  have z9 := elem100
  have z10 := implements70
  have z11 := assignableNo
  have z12 := noAs28
  have z13 := noUnwrap28
  have z14 := noUnwraps28
  have n8 := isNil100 ⟨w.heap.size, 0, none⟩ t ((w.alloc (.cells #[.pointer (some t)] 108)).alloc (asV 108 w)) (by simp)
  have hlt : 0 < w.heap.size := cell_lt hg
  have htl : t.block < w.heap.size := cell_lt ht0
  have hg2 : ((w.alloc (.cells #[.pointer (some t)] 108)).alloc (asV 108 w)).cell? ⟨0, 0, none⟩ = some errTy := by
    rw [World.cell?_alloc_lt _ _ ⟨0, 0, none⟩ (by simp), World.cell?_alloc_lt _ _ ⟨0, 0, none⟩ hlt]; exact hg
  go_enter func52, ntmps52
  go_wp2
  refine wp_loop_rounds 1 ?_
  rw [rounds_succ]
  go_wp2
  go_ret
  exact ⟨rfl, rfl⟩

set_option maxRecDepth 1000000 in
set_option maxHeartbeats 4000000 in
/-- An error of errors.New's make is no number. -/
theorem as_new_not (p : Addr) (t : Addr) (old : Value) (w : World) (hg : w.cell? ⟨0, 0, none⟩ = some errTy) (ht0 : w.cell? t = some old) (hf0 : w.frozen? t = false) :
    Calls prog 52 #[.iface 120 (.pointer (some p)), .iface 112 (.pointer (some t))] w fun e w' => e = .returned (.bool false) ∧ w' = asW 112 t w := by
  have h66 := @run_callFunc_extern prog 70 _ (fun args => ReflectliteValue.unpack (args.getD 0 (.tuple #[]))) func70 (by kernel_rfl) (by kernel_rfl) (by kernel_rfl) (by kernel_rfl)
  have h67 := @run_callFunc_extern prog 71 _ (ReflectliteValue.methodAny (ReflectliteValue.valueError "reflectlite.Value.Type" 0) (fun t _ _ _ => ReflectliteType.toType t)) func71 (by kernel_rfl) (by kernel_rfl) (by kernel_rfl) (by kernel_rfl)
  have h68 := @run_callFunc_extern prog 72 _ (ReflectliteValue.method (ReflectliteValue.valueError "reflectlite.Value.IsNil" 0) ReflectliteValue.isNil) func72 (by kernel_rfl) (by kernel_rfl) (by kernel_rfl) (by kernel_rfl)
  have h103 := @run_callFunc_extern prog 113 _ (ReflectliteType.abiMethod fun t => do pure (.int .u8 (← Rtype.kind t))) func113 (by kernel_rfl) (by kernel_rfl) (by kernel_rfl) (by kernel_rfl)
  have h113 := @run_callFunc_extern prog 123 _ (ReflectliteType.method ReflectliteType.elem) func123 (by kernel_rfl) (by kernel_rfl) (by kernel_rfl) (by kernel_rfl)
  have h114 := @run_callFunc_extern prog 124 _ (ReflectliteType.relation "Implements" ReflectliteType.implements_) func124 (by kernel_rfl) (by kernel_rfl) (by kernel_rfl) (by kernel_rfl)
  have h48 := @run_callFunc_extern prog 79 _ ReflectliteType.typeOf func79 (by kernel_rfl) (by kernel_rfl) (by kernel_rfl) (by kernel_rfl)
  have h111 := @run_callFunc_extern prog 121 _ (ReflectliteType.relation "AssignableTo" ReflectliteType.assignableTo) func121 (by kernel_rfl) (by kernel_rfl) (by kernel_rfl) (by kernel_rfl)
  have z0 := typeOf112
  have z1 := methodAssignableTo
  have z2 := valueOf101
  have z3 := type101
  have z4 := methodKind
  have z5 := methodElem
  have z6 := methodImplements
  have z7 := kind101
  have z8 := kind28
  have z9 := elem101
  have z10 := implements28
  have z11 := assignableNo3
  have z12 := noAs112
  have z13 := noUnwrap112
  have z14 := noUnwraps112
  have n8 := isNil101 ⟨w.heap.size, 0, none⟩ t ((w.alloc (.cells #[.pointer (some t)] 112)).alloc (asV 112 w)) (by simp)
  have hlt : 0 < w.heap.size := cell_lt hg
  have htl : t.block < w.heap.size := cell_lt ht0
  have hg2 : ((w.alloc (.cells #[.pointer (some t)] 112)).alloc (asV 112 w)).cell? ⟨0, 0, none⟩ = some errTy := by
    rw [World.cell?_alloc_lt _ _ ⟨0, 0, none⟩ (by simp), World.cell?_alloc_lt _ _ ⟨0, 0, none⟩ hlt]; exact hg
  go_enter func52, ntmps52
  go_wp2
  refine wp_loop_rounds 1 ?_
  rw [rounds_succ]
  go_wp2
  go_ret
  exact ⟨rfl, rfl⟩

set_option maxRecDepth 1000000 in
set_option maxHeartbeats 4000000 in
/-- A fault's number. -/
theorem as_wrap (pb po : Nat) (n : Int) (t : Addr) (old : Value) (w : World) (hg : w.cell? ⟨0, 0, none⟩ = some errTy) (ht0 : w.cell? t = some old) (hf0 : w.frozen? t = false) (h1 : w.cell? ⟨pb, po + 2, none⟩ = some (.int .i64 n)) :
    Calls prog 52 #[.iface 70 (.pointer (some ⟨pb, po, none⟩)), .iface 112 (.pointer (some t))] w fun e w' => e = .returned (.bool true) ∧ w' = ((asW 112 t w).alloc (.cells #[(.int .i64 n)] 51)).setCell t (.int .i64 n) := by
  have h66 := @run_callFunc_extern prog 70 _ (fun args => ReflectliteValue.unpack (args.getD 0 (.tuple #[]))) func70 (by kernel_rfl) (by kernel_rfl) (by kernel_rfl) (by kernel_rfl)
  have h67 := @run_callFunc_extern prog 71 _ (ReflectliteValue.methodAny (ReflectliteValue.valueError "reflectlite.Value.Type" 0) (fun t _ _ _ => ReflectliteType.toType t)) func71 (by kernel_rfl) (by kernel_rfl) (by kernel_rfl) (by kernel_rfl)
  have h68 := @run_callFunc_extern prog 72 _ (ReflectliteValue.method (ReflectliteValue.valueError "reflectlite.Value.IsNil" 0) ReflectliteValue.isNil) func72 (by kernel_rfl) (by kernel_rfl) (by kernel_rfl) (by kernel_rfl)
  have h103 := @run_callFunc_extern prog 113 _ (ReflectliteType.abiMethod fun t => do pure (.int .u8 (← Rtype.kind t))) func113 (by kernel_rfl) (by kernel_rfl) (by kernel_rfl) (by kernel_rfl)
  have h113 := @run_callFunc_extern prog 123 _ (ReflectliteType.method ReflectliteType.elem) func123 (by kernel_rfl) (by kernel_rfl) (by kernel_rfl) (by kernel_rfl)
  have h114 := @run_callFunc_extern prog 124 _ (ReflectliteType.relation "Implements" ReflectliteType.implements_) func124 (by kernel_rfl) (by kernel_rfl) (by kernel_rfl) (by kernel_rfl)
  have h48 := @run_callFunc_extern prog 79 _ ReflectliteType.typeOf func79 (by kernel_rfl) (by kernel_rfl) (by kernel_rfl) (by kernel_rfl)
  have h111 := @run_callFunc_extern prog 121 _ (ReflectliteType.relation "AssignableTo" ReflectliteType.assignableTo) func121 (by kernel_rfl) (by kernel_rfl) (by kernel_rfl) (by kernel_rfl)
  have h75 := @run_callFunc_extern prog 84 _ (ReflectliteValue.method (ReflectliteValue.valueError "reflectlite.Value.Elem" 0) ReflectliteValue.elem) func84 (by kernel_rfl) (by kernel_rfl) (by kernel_rfl) (by kernel_rfl)
  have h76 := @run_callFunc_extern prog 85 _ ReflectliteValue.set func85 (by kernel_rfl) (by kernel_rfl) (by kernel_rfl) (by kernel_rfl)
  have z0 := typeOf70
  have z1 := methodAssignableTo
  have z2 := valueOf101
  have z3 := type101
  have z4 := methodKind
  have z5 := methodElem
  have z6 := methodImplements
  have z7 := kind101
  have z8 := kind28
  have z9 := elem101
  have z10 := implements28
  have z11 := typeOf28
  have z12 := valueOf28
  have z13 := assignable28
  have z14 := assignableNo2
  have z15 := noAs70
  have z16 := hasUnwrap70
  have z17 := methodUnwrap
  have n8 := isNil101 ⟨w.heap.size, 0, none⟩ t ((w.alloc (.cells #[.pointer (some t)] 112)).alloc (asV 112 w)) (by simp)
  have hlt : 0 < w.heap.size := cell_lt hg
  have htl : t.block < w.heap.size := cell_lt ht0
  have hg2 : ((w.alloc (.cells #[.pointer (some t)] 112)).alloc (asV 112 w)).cell? ⟨0, 0, none⟩ = some errTy := by
    rw [World.cell?_alloc_lt _ _ ⟨0, 0, none⟩ (by simp), World.cell?_alloc_lt _ _ ⟨0, 0, none⟩ hlt]; exact hg
  have hpl : pb < w.heap.size := cell_lt h1
  have h2 : (asW 112 t w).cell? ⟨pb, po + 2, none⟩ = some (.int .i64 n) := by
    rw [World.cell?_alloc_lt _ _ ⟨pb, po + 2, none⟩ (by simp; omega), World.cell?_alloc_lt _ _ ⟨pb, po + 2, none⟩ (by simp; omega), World.cell?_alloc_lt _ _ ⟨pb, po + 2, none⟩ hpl]; exact h1
  have el := elemV101 ⟨w.heap.size, 0, none⟩ t (asW 112 t w) (by rw [World.cell?_alloc_lt _ _ ⟨w.heap.size, 0, none⟩ (by simp; omega)]; simp)
  have st := set28 t ⟨w.heap.size + 1 + 1 + 1, 0, none⟩ n old ((asW 112 t w).alloc (.cells #[(.int .i64 n)] 51))
    (by rw [World.cell?_alloc_at _ _ _ _ (by simp)]; rfl)
    (by rw [World.cell?_alloc_lt _ _ t (by simp; omega), World.cell?_alloc_lt _ _ t (by simp; omega), World.cell?_alloc_lt _ _ t (by simp; omega), World.cell?_alloc_lt _ _ t htl]; exact ht0)
    (by rw [World.frozen?_alloc_old _ _ t (by simp; omega), World.frozen?_alloc_old _ _ t (by simp; omega), World.frozen?_alloc_old _ _ t (by simp; omega), World.frozen?_alloc_old _ _ t (Nat.ne_of_lt htl)]; exact hf0)
  go_enter func52, ntmps52
  go_wp2
  refine wp_loop_rounds 2 ?_
  rw [rounds_succ]
  go_wp2
  rw [rounds_succ]
  go_wp2
  go_ret
  exact ⟨rfl, rfl⟩

end Go.Proofs.YtmnemfeofhinaaaDoor
namespace Go.Proofs.YtmnemfeofhinaaaDoor
open Go Go.Mini Go.Proofs.Tryd
variable [E : REnv]

/-- errors.errorType, as the heap has it: variable 0; a type's handle leads to block 4. -/
def errN : Value := .iface 155 (.agg #[.pointer (some ⟨104, 29, none⟩)])
def HasErr (h : Hp) : Prop := h.blks 100 = some ⟨#[errN], 0, false⟩
/-- A fault of a field, at a place, of a number. -/
def faultB (f : ByteArray) (at_ e : Int) : Blk := ⟨#[.string f, .int .i64 at_, .int .i64 e], 1, true⟩
theorem mem_own {i : Nat} {b : Blk} {h : Hp} {B : Bd} {w0 w : World} {ρ : Rn} (hs : Sim B w0 ρ h w) (hb : h.blks i = some b) (ho : b.own = true) (hj : 0 < b.cells.size) : (ρ i).base = 0 ∧ w.frozen? ⟨(ρ i).blk, 0, none⟩ = false := by
  obtain ⟨cs, e, fr, hr⟩ := hs.real i b hb
  obtain ⟨hB, hbase, hsz, hfr⟩ := hr.own ho
  have hlt : 0 < cs.size := by rw [hsz]; exact Nat.lt_of_lt_of_le hj (Nat.le_add_right _ _)
  have := hfr 0 hlt
  refine ⟨hbase, ?_⟩
  simp only [World.frozen?, hr.at_]
  simp only [Bool.and_eq_false_iff, decide_eq_false_iff_not]
  omega
theorem err_cell {h : Hp} {B : Bd} {w0 w : World} {ρ : Rn} (hs : Sim B w0 ρ h w) (he : HasErr h) : w.cell? ⟨0, 0, none⟩ = some errTy := by
  have h1 := hs.cell he (j := 0) (by simp)
  have g0 := hs.gl 0 (by omega)
  have g4 := hs.gl 4 (by omega)
  rw [show ρ 100 = ⟨0, 0, 0⟩ from g0] at h1
  have g4' : ρ 104 = ⟨4, 0, 0⟩ := g4
  rw [h1]
  simp [errN, rl, rlL, rlAddr, g4']
theorem is_num_call {a b : Int} {h : Hp} {K : Value → Hp → Prop} (hK : K (.bool (a == b)) h) : ACall prog 60 [.iface 51 (.int .i64 a), .iface 51 (.int .i64 b)] h K :=
  ACall.of_calls (r := .bool (a == b)) ⟨_, _, func60, rfl, rfl⟩ (by simp [vtop]) rfl (fun w => (is_num a b w).mono fun _ _ ⟨he, hw⟩ => ⟨he, by rw [hw]; exact RowKit.Below.refl _ _⟩) hK
theorem is_fault_call {p : Nat} {f : ByteArray} {at_ a b : Int} {h : Hp} {K : Value → Hp → Prop} (hp : h.blks p = some (faultB f at_ a)) (hK : K (.bool (a == b)) h) : ACall prog 60 [.iface 70 (.pointer (some ⟨p, 0, none⟩)), .iface 51 (.int .i64 b)] h K :=
  ACall.of_world (r := .bool (a == b)) ⟨_, _, func60, rfl, rfl⟩ rfl (fun B w0 ρ w hs => by
    have h1 := hs.cell hp (j := 2) (by simp [faultB])
    have h2 : w.cell? ⟨(ρ p).blk, (ρ p).base + 0 + 2, none⟩ = some (.int .i64 a) := by rw [Nat.add_zero, h1]; simp [faultB, rl]
    have := is_fault (ρ p).blk ((ρ p).base + 0) a b w h2
    simp only [List.map_cons, List.map_nil, rl, rlAddr]
    exact this.mono fun _ _ ⟨he, hw⟩ => ⟨he, by rw [hw]; exact RowKit.Below.refl _ _⟩) hK
theorem is_new_call {p : Nat} {b : Int} {h : Hp} {K : Value → Hp → Prop} (hK : K (.bool false) h) : ACall prog 60 [.iface 120 (.pointer (some ⟨p, 0, none⟩)), .iface 51 (.int .i64 b)] h K :=
  ACall.of_world (r := .bool false) ⟨_, _, func60, rfl, rfl⟩ rfl (fun B w0 ρ w hs => by
    simp only [List.map_cons, List.map_nil, rl, rlAddr]
    exact (is_new _ b w).mono fun _ _ ⟨he, hw⟩ => ⟨he, by rw [hw]; exact RowKit.Below.refl _ _⟩) hK

/-- A call that makes blocks of its own, and sets a cell of ours. -/
theorem ACall.of_set {P : Program} {f : FuncId} {args : List Value} {h : Hp} {K : Value → Hp → Prop} {r old v : Value} {t : Nat} (hcl : Callable P f) (hr : vtop r = 0) (ht : h.blks t = some ⟨#[old], 1, true⟩) (hv : vtop v ≤ h.next) (h1 : v.oneCell' = true)
    (hc : ∀ (B : Bd) (w0 : World) (ρ : Rn) (w : World), Sim B w0 ρ h w → Calls P f (args.map (rl ρ)).toArray w fun e w' => e = .returned r ∧ ∃ w1, RowKit.Below w.heap.size w w1 ∧ w' = w1.setCell ⟨(ρ t).blk, 0, none⟩ (rl ρ v)) (hK : K r (h.set t ⟨#[v], 1, true⟩)) : ACall P f args h K :=
  ⟨hcl, fun B w0 ρ w hs _ => (hc B w0 ρ w hs.sim).mono fun ex w' ⟨he, w1, hb, hw⟩ => by
    have g := hs.grown hb
    have st := (g.open_.store_one (P := P) ht rfl (off := 0) (by simp) hv h1 .plain none).2
    refine ⟨r, _, ρ, by rw [he, rl_id r hr], hK, ?_, by omega, Nat.le_refl _, Goes.refl _ _, fun _ => rfl⟩
    rw [hw]
    exact g.close_ st rfl (Nat.le_refl _) (Goes.refl _ _)⟩
theorem asW_below (T : TypeId) (t : Addr) (w : World) : RowKit.Below w.heap.size w (asW T t w) :=
  (((RowKit.Below.refl _ _).alloc (Nat.le_refl _) _).alloc (by simp) _).alloc (by simp; omega) _
theorem asW_below2 (T : TypeId) (t : Addr) (w : World) (o : Obj) : RowKit.Below w.heap.size w ((asW T t w).alloc o) := (asW_below T t w).alloc (by simp; omega) _
theorem as_fault_call {p t : Nat} {h : Hp} {K : Value → Hp → Prop} {old : Value} (he : HasErr h) (hp : p < h.next) (ht : h.blks t = some ⟨#[old], 1, true⟩) (hK : K (.bool true) (h.set t ⟨#[.pointer (some ⟨p, 0, none⟩)], 1, true⟩)) : ACall prog 52 [.iface 70 (.pointer (some ⟨p, 0, none⟩)), .iface 108 (.pointer (some ⟨t, 0, none⟩))] h K :=
  ACall.of_set ⟨_, _, func52, rfl, rfl⟩ rfl ht (by simp [vtop]; omega) rfl (fun B w0 ρ w hs => by
    obtain ⟨h0, hf⟩ := mem_own hs ht rfl (by simp)
    have hc := hs.cell ht (j := 0) (by simp)
    rw [h0] at hc
    simp only [List.map_cons, List.map_nil, rl, rlAddr, h0]
    exact (as_fault _ _ _ w (err_cell hs he) hc hf).mono fun _ _ ⟨he, hw⟩ => ⟨he, _, asW_below2 _ _ _ _, hw⟩) hK
theorem as_num_call {n : Int} {t : Nat} {h : Hp} {K : Value → Hp → Prop} {old : Value} (he : HasErr h) (ht : h.blks t = some ⟨#[old], 1, true⟩) (hK : K (.bool true) (h.set t ⟨#[.int .i64 n], 1, true⟩)) : ACall prog 52 [.iface 51 (.int .i64 n), .iface 112 (.pointer (some ⟨t, 0, none⟩))] h K :=
  ACall.of_set ⟨_, _, func52, rfl, rfl⟩ rfl ht (by simp [vtop]) rfl (fun B w0 ρ w hs => by
    obtain ⟨h0, hf⟩ := mem_own hs ht rfl (by simp)
    have hc := hs.cell ht (j := 0) (by simp)
    rw [h0] at hc
    simp only [List.map_cons, List.map_nil, rl, rlAddr, h0]
    exact (as_num n _ _ w (err_cell hs he) hc hf).mono fun _ _ ⟨he, hw⟩ => ⟨he, _, asW_below2 _ _ _ _, hw⟩) hK
theorem as_wrap_call {p t : Nat} {f : ByteArray} {at_ n : Int} {h : Hp} {K : Value → Hp → Prop} {old : Value} (he : HasErr h) (hp : h.blks p = some (faultB f at_ n)) (ht : h.blks t = some ⟨#[old], 1, true⟩) (hK : K (.bool true) (h.set t ⟨#[.int .i64 n], 1, true⟩)) : ACall prog 52 [.iface 70 (.pointer (some ⟨p, 0, none⟩)), .iface 112 (.pointer (some ⟨t, 0, none⟩))] h K :=
  ACall.of_set ⟨_, _, func52, rfl, rfl⟩ rfl ht (by simp [vtop]) rfl (fun B w0 ρ w hs => by
    obtain ⟨h0, hf⟩ := mem_own hs ht rfl (by simp)
    have hc := hs.cell ht (j := 0) (by simp)
    rw [h0] at hc
    have h1 := hs.cell hp (j := 2) (by simp [faultB])
    have h2 : w.cell? ⟨(ρ p).blk, (ρ p).base + 0 + 2, none⟩ = some (.int .i64 n) := by rw [Nat.add_zero, h1]; simp [faultB, rl]
    simp only [List.map_cons, List.map_nil, rl, rlAddr, h0]
    exact (as_wrap _ _ n _ _ w (err_cell hs he) hc hf h2).mono fun _ _ ⟨he, hw⟩ => ⟨he, _, asW_below2 _ _ _ _, hw⟩) hK
theorem as_num_not_call {n : Int} {t : Nat} {h : Hp} {K : Value → Hp → Prop} {old : Value} (he : HasErr h) (ht : h.blks t = some ⟨#[old], 1, true⟩) (hK : K (.bool false) h) : ACall prog 52 [.iface 51 (.int .i64 n), .iface 108 (.pointer (some ⟨t, 0, none⟩))] h K :=
  ACall.of_world (r := .bool false) ⟨_, _, func52, rfl, rfl⟩ rfl (fun B w0 ρ w hs => by
    obtain ⟨h0, hf⟩ := mem_own hs ht rfl (by simp)
    have hc := hs.cell ht (j := 0) (by simp)
    rw [h0] at hc
    simp only [List.map_cons, List.map_nil, rl, rlAddr, h0]
    exact (as_num_not n _ _ w (err_cell hs he) hc hf).mono fun _ _ ⟨he, hw⟩ => ⟨he, by rw [hw]; exact asW_below _ _ _⟩) hK
theorem as_new_not_call {p t : Nat} {h : Hp} {K : Value → Hp → Prop} {old : Value} (he : HasErr h) (ht : h.blks t = some ⟨#[old], 1, true⟩) (hK : K (.bool false) h) : ACall prog 52 [.iface 120 (.pointer (some ⟨p, 0, none⟩)), .iface 112 (.pointer (some ⟨t, 0, none⟩))] h K :=
  ACall.of_world (r := .bool false) ⟨_, _, func52, rfl, rfl⟩ rfl (fun B w0 ρ w hs => by
    obtain ⟨h0, hf⟩ := mem_own hs ht rfl (by simp)
    have hc := hs.cell ht (j := 0) (by simp)
    rw [h0] at hc
    simp only [List.map_cons, List.map_nil, rl, rlAddr, h0]
    exact (as_new_not _ _ _ w (err_cell hs he) hc hf).mono fun _ _ ⟨he, hw⟩ => ⟨he, by rw [hw]; exact asW_below _ _ _⟩) hK
end Go.Proofs.YtmnemfeofhinaaaDoor
