/-
  errors.As: what the model's entries for internal/reflectlite give at this program's types. (Lines of the kit's worked proof, turned by a program: gen07e.py.)
-/
import Derived.Test.YtcbagjhbmdmjfaaDoorE1
set_option linter.unusedSimpArgs false
set_option linter.unusedVariables false
set_option linter.unusedSectionVars false
namespace Go.Proofs.YtcbagjhbmdmjfaaDoor
open Go Go.Proofs.Tryd
open Go.RowKit Go.Extern.Stop Go.Stop Go.Extern

theorem rlm (z : Sem Value) (f : TypeId → Addr → Nat → Nat → Sem Value) (v : Value) :
    ReflectliteValue.method z f #[v] = (do match ← ReflectliteValue.parts v with | none => z | some (t, a, fl) => f t a fl (fl % 32)) := rfl
theorem rls (v x : Value) : ReflectliteValue.set #[v, x] = (do
    let (some (dst, a, fl), some (src, b, _)) := (← ReflectliteValue.parts v, ← ReflectliteValue.parts x)
      | unsupported (.noEntry "extern/(internal/reflectlite.Value).Set.zeroValue")
    if fl / ReflectliteValue.flagAddr % 2 == 0 then unsupported (.noEntry "extern/(internal/reflectlite.Value).Set.unaddressable")
    let val ← loadVar src b
    if ← Rtype.directlyAssignable dst src then storeVar dst a val
    else if ← Rtype.implements dst src then
      if (← Rtype.kind src) == 20 then
        match val with
        | .nilIface => unsupported (.noEntry "extern/reflectlite: a nil value of one interface type handed on as a value of another")
        | _ => storeVar dst a val
      else storeVar dst a (.iface src val)
    else panicString ("reflectlite.Set: value of type " ++ (← Rtype.spelt src) ++ " is not assignable to type " ++ (← Rtype.spelt dst))
    pure (.tuple #[])) := rfl
theorem methodKind (h : Value) (w : World) : (Go.method 297 138 (.agg #[h]) "Kind").run prog w = .ok (103, h) w := by kernel_rfl
theorem methodElem (h : Value) (w : World) : (Go.method 297 138 (.agg #[h]) "Elem").run prog w = .ok (113, .agg #[h]) w := by kernel_rfl
theorem methodImplements (h : Value) (w : World) : (Go.method 297 138 (.agg #[h]) "Implements").run prog w = .ok (114, .agg #[h]) w := by kernel_rfl
theorem methodAssignableTo (h : Value) (w : World) : (Go.method 297 138 (.agg #[h]) "AssignableTo").run prog w = .ok (111, .agg #[h]) w := by kernel_rfl
theorem typeOf70 (v : Value) (w : World) : (ReflectliteType.typeOf #[.iface 70 v]).run prog w = .ok (.iface 138 (.agg #[.pointer (some ⟨4, 70, none⟩)])) w := by kernel_rfl
theorem typeOf112 (v : Value) (w : World) : (ReflectliteType.typeOf #[.iface 112 v]).run prog w = .ok (.iface 138 (.agg #[.pointer (some ⟨4, 112, none⟩)])) w := by kernel_rfl
theorem assignableNo (w : World) : (ReflectliteType.relation "AssignableTo" ReflectliteType.assignableTo #[.agg #[.pointer (some ⟨4, 28, none⟩)], .iface 138 (.agg #[.pointer (some ⟨4, 70, none⟩)])]).run prog w = .ok (.bool false) w := by kernel_rfl
theorem assignableNo2 (w : World) : (ReflectliteType.relation "AssignableTo" ReflectliteType.assignableTo #[.agg #[.pointer (some ⟨4, 70, none⟩)], .iface 138 (.agg #[.pointer (some ⟨4, 28, none⟩)])]).run prog w = .ok (.bool false) w := by kernel_rfl
theorem assignableNo3 (w : World) : (ReflectliteType.relation "AssignableTo" ReflectliteType.assignableTo #[.agg #[.pointer (some ⟨4, 112, none⟩)], .iface 138 (.agg #[.pointer (some ⟨4, 28, none⟩)])]).run prog w = .ok (.bool false) w := by kernel_rfl
theorem noAs28 (v : Value) (xT : TypeId) (w : World) : (Instr.typeAssert (.iface 28 v) xT 152 true).run prog w = .ok (.tuple #[.nilIface, .bool false]) w := run_typeAssert_lacksB underlying152 (by kernel_rfl) (by kernel_rfl) v xT w
theorem noAs70 (v : Value) (xT : TypeId) (w : World) : (Instr.typeAssert (.iface 70 v) xT 152 true).run prog w = .ok (.tuple #[.nilIface, .bool false]) w := run_typeAssert_lacksB underlying152 (by kernel_rfl) (by kernel_rfl) v xT w
theorem noAs112 (v : Value) (xT : TypeId) (w : World) : (Instr.typeAssert (.iface 112 v) xT 152 true).run prog w = .ok (.tuple #[.nilIface, .bool false]) w := run_typeAssert_lacksB underlying152 (by kernel_rfl) (by kernel_rfl) v xT w

/-! ### A target of type 100, of 70 -/
theorem valueOf100 (t : Addr) (w : World) : (ReflectliteValue.unpack (.iface 100 (.pointer (some t)))).run prog w
    = .ok (.agg #[.pointer (some ⟨4, 100, none⟩), .pointer (some ⟨w.heap.size, 0, none⟩), .int .u64 150]) (w.alloc (.cells #[.pointer (some t)] 100)) := by kernel_rfl
theorem type100 (a : Addr) (w : World) : (ReflectliteValue.methodAny (ReflectliteValue.valueError "reflectlite.Value.Type" 0) (fun t _ _ _ => ReflectliteType.toType t) #[.agg #[.pointer (some ⟨4, 100, none⟩), .pointer (some a), .int .u64 150]]).run prog w
    = .ok (.iface 138 (.agg #[.pointer (some ⟨4, 100, none⟩)])) w := by kernel_rfl
theorem kind100 (w : World) : ((ReflectliteType.abiMethod fun t => (fun a : Nat => Value.int IntKind.u8 (a : Int)) <$> Rtype.kind t) #[.pointer (some ⟨4, 100, none⟩)]).run prog w = .ok (.int .u8 22) w := by kernel_rfl
theorem kind70 (w : World) : ((ReflectliteType.abiMethod fun t => (fun a : Nat => Value.int IntKind.u8 (a : Int)) <$> Rtype.kind t) #[.pointer (some ⟨4, 70, none⟩)]).run prog w = .ok (.int .u8 22) w := by kernel_rfl
theorem parts100 (a : Addr) (w : World) : (ReflectliteValue.parts (.agg #[.pointer (some ⟨4, 100, none⟩), .pointer (some a), .int .u64 150])).run prog w = .ok (some (100, a, 150)) w := by kernel_rfl
theorem isNil100 (a p : Addr) (W : World) (ha : W.cell? a = some (.pointer (some p))) :
    (ReflectliteValue.method (ReflectliteValue.valueError "reflectlite.Value.IsNil" 0) ReflectliteValue.isNil #[.agg #[.pointer (some ⟨4, 100, none⟩), .pointer (some a), .int .u64 150]]).run prog W = .ok (.bool false) W := by
  rw [rlm]
  simp only [Sem.run_bind, parts100, Result.andThen]
  simp [ReflectliteValue.isNil, loadVar, isAgg, underlying, underlying100, ha, Result.andThen]
theorem elem100 (w : World) : (ReflectliteType.method ReflectliteType.elem #[.agg #[.pointer (some ⟨4, 100, none⟩)]]).run prog w = .ok (.iface 138 (.agg #[.pointer (some ⟨4, 70, none⟩)])) w := by kernel_rfl
theorem implements70 (w : World) : (ReflectliteType.relation "Implements" ReflectliteType.implements_ #[.agg #[.pointer (some ⟨4, 70, none⟩)], .iface 138 (.agg #[.pointer (some ⟨4, 41, none⟩)])]).run prog w = .ok (.bool true) w := by kernel_rfl
theorem assignable70 (w : World) : (ReflectliteType.relation "AssignableTo" ReflectliteType.assignableTo #[.agg #[.pointer (some ⟨4, 70, none⟩)], .iface 138 (.agg #[.pointer (some ⟨4, 70, none⟩)])]).run prog w = .ok (.bool true) w := by kernel_rfl
theorem valueOf70 (p : Addr) (w : World) : (ReflectliteValue.unpack (.iface 70 (.pointer (some p)))).run prog w
    = .ok (.agg #[.pointer (some ⟨4, 70, none⟩), .pointer (some ⟨w.heap.size, 0, none⟩), .int .u64 150]) (w.alloc (.cells #[(.pointer (some p))] 70)) := by kernel_rfl
theorem elemOf100 (w : World) : (Rtype.elem? 100).run prog w = .ok (some 70) w := by kernel_rfl
theorem mk70 (q : Addr) (w : World) : (ReflectliteValue.mk 70 q ReflectliteValue.flagAddr).run prog w = .ok (.agg #[.pointer (some ⟨4, 70, none⟩), .pointer (some q), .int .u64 406]) w := by kernel_rfl
theorem elemV100 (a p : Addr) (W : World) (ha : W.cell? a = some (.pointer (some p))) :
    (ReflectliteValue.method (ReflectliteValue.valueError "reflectlite.Value.Elem" 0) ReflectliteValue.elem #[.agg #[.pointer (some ⟨4, 100, none⟩), .pointer (some a), .int .u64 150]]).run prog W
      = .ok (.agg #[.pointer (some ⟨4, 70, none⟩), .pointer (some p), .int .u64 406]) W := by
  rw [rlm]
  simp only [Sem.run_bind, parts100, Result.andThen]
  simp [ReflectliteValue.elem, loadVar, isAgg, underlying, underlying100, ha, Result.andThen, elemOf100, mk70]
theorem parts70a (a : Addr) (w : World) : (ReflectliteValue.parts (.agg #[.pointer (some ⟨4, 70, none⟩), .pointer (some a), .int .u64 406])).run prog w = .ok (some (70, a, 406)) w := by kernel_rfl
theorem parts70 (a : Addr) (w : World) : (ReflectliteValue.parts (.agg #[.pointer (some ⟨4, 70, none⟩), .pointer (some a), .int .u64 150])).run prog w = .ok (some (70, a, 150)) w := by kernel_rfl
theorem direct70 (w : World) : (Rtype.directlyAssignable 70 70).run prog w = .ok true w := by kernel_rfl
theorem size70 (w : World) : (sizeOf 70).run prog w = .ok 1 w := by kernel_rfl
theorem set70 (ta b : Addr) (p : Addr) (old : Value) (W : World) (hb : W.cell? b = some (.pointer (some p))) (ht : W.cell? ta = some old) (hf : W.frozen? ta = false) :
    (ReflectliteValue.set #[.agg #[.pointer (some ⟨4, 70, none⟩), .pointer (some ta), .int .u64 406], .agg #[.pointer (some ⟨4, 70, none⟩), .pointer (some b), .int .u64 150]]).run prog W
      = .ok (.tuple #[]) (W.setCell ta (.pointer (some p))) := by
  rw [rls]
  simp only [Sem.run_bind, parts70a, parts70, Result.andThen]
  simp [ReflectliteValue.flagAddr, loadVar, isAgg, underlying, underlying70, hb, Result.andThen, direct70, storeVar, Value.cells, storeCells, Addr.add]
  rw [run_store prog W ta _ _ (by rfl)]
  simp [ht, hf]

/-! ### A target of type 101, of 28 -/
theorem valueOf101 (t : Addr) (w : World) : (ReflectliteValue.unpack (.iface 101 (.pointer (some t)))).run prog w
    = .ok (.agg #[.pointer (some ⟨4, 101, none⟩), .pointer (some ⟨w.heap.size, 0, none⟩), .int .u64 150]) (w.alloc (.cells #[.pointer (some t)] 101)) := by kernel_rfl
theorem type101 (a : Addr) (w : World) : (ReflectliteValue.methodAny (ReflectliteValue.valueError "reflectlite.Value.Type" 0) (fun t _ _ _ => ReflectliteType.toType t) #[.agg #[.pointer (some ⟨4, 101, none⟩), .pointer (some a), .int .u64 150]]).run prog w
    = .ok (.iface 138 (.agg #[.pointer (some ⟨4, 101, none⟩)])) w := by kernel_rfl
theorem kind101 (w : World) : ((ReflectliteType.abiMethod fun t => (fun a : Nat => Value.int IntKind.u8 (a : Int)) <$> Rtype.kind t) #[.pointer (some ⟨4, 101, none⟩)]).run prog w = .ok (.int .u8 22) w := by kernel_rfl
theorem kind28 (w : World) : ((ReflectliteType.abiMethod fun t => (fun a : Nat => Value.int IntKind.u8 (a : Int)) <$> Rtype.kind t) #[.pointer (some ⟨4, 28, none⟩)]).run prog w = .ok (.int .u8 2) w := by kernel_rfl
theorem parts101 (a : Addr) (w : World) : (ReflectliteValue.parts (.agg #[.pointer (some ⟨4, 101, none⟩), .pointer (some a), .int .u64 150])).run prog w = .ok (some (101, a, 150)) w := by kernel_rfl
theorem isNil101 (a p : Addr) (W : World) (ha : W.cell? a = some (.pointer (some p))) :
    (ReflectliteValue.method (ReflectliteValue.valueError "reflectlite.Value.IsNil" 0) ReflectliteValue.isNil #[.agg #[.pointer (some ⟨4, 101, none⟩), .pointer (some a), .int .u64 150]]).run prog W = .ok (.bool false) W := by
  rw [rlm]
  simp only [Sem.run_bind, parts101, Result.andThen]
  simp [ReflectliteValue.isNil, loadVar, isAgg, underlying, underlying101, ha, Result.andThen]
theorem elem101 (w : World) : (ReflectliteType.method ReflectliteType.elem #[.agg #[.pointer (some ⟨4, 101, none⟩)]]).run prog w = .ok (.iface 138 (.agg #[.pointer (some ⟨4, 28, none⟩)])) w := by kernel_rfl
theorem implements28 (w : World) : (ReflectliteType.relation "Implements" ReflectliteType.implements_ #[.agg #[.pointer (some ⟨4, 28, none⟩)], .iface 138 (.agg #[.pointer (some ⟨4, 41, none⟩)])]).run prog w = .ok (.bool true) w := by kernel_rfl
theorem assignable28 (w : World) : (ReflectliteType.relation "AssignableTo" ReflectliteType.assignableTo #[.agg #[.pointer (some ⟨4, 28, none⟩)], .iface 138 (.agg #[.pointer (some ⟨4, 28, none⟩)])]).run prog w = .ok (.bool true) w := by kernel_rfl
theorem valueOf28 (n : Int) (w : World) : (ReflectliteValue.unpack (.iface 28 (.int .i64 n))).run prog w
    = .ok (.agg #[.pointer (some ⟨4, 28, none⟩), .pointer (some ⟨w.heap.size, 0, none⟩), .int .u64 130]) (w.alloc (.cells #[(.int .i64 n)] 28)) := by kernel_rfl
theorem elemOf101 (w : World) : (Rtype.elem? 101).run prog w = .ok (some 28) w := by kernel_rfl
theorem mk28 (q : Addr) (w : World) : (ReflectliteValue.mk 28 q ReflectliteValue.flagAddr).run prog w = .ok (.agg #[.pointer (some ⟨4, 28, none⟩), .pointer (some q), .int .u64 386]) w := by kernel_rfl
theorem elemV101 (a p : Addr) (W : World) (ha : W.cell? a = some (.pointer (some p))) :
    (ReflectliteValue.method (ReflectliteValue.valueError "reflectlite.Value.Elem" 0) ReflectliteValue.elem #[.agg #[.pointer (some ⟨4, 101, none⟩), .pointer (some a), .int .u64 150]]).run prog W
      = .ok (.agg #[.pointer (some ⟨4, 28, none⟩), .pointer (some p), .int .u64 386]) W := by
  rw [rlm]
  simp only [Sem.run_bind, parts101, Result.andThen]
  simp [ReflectliteValue.elem, loadVar, isAgg, underlying, underlying101, ha, Result.andThen, elemOf101, mk28]
theorem parts28a (a : Addr) (w : World) : (ReflectliteValue.parts (.agg #[.pointer (some ⟨4, 28, none⟩), .pointer (some a), .int .u64 386])).run prog w = .ok (some (28, a, 386)) w := by kernel_rfl
theorem parts28 (a : Addr) (w : World) : (ReflectliteValue.parts (.agg #[.pointer (some ⟨4, 28, none⟩), .pointer (some a), .int .u64 130])).run prog w = .ok (some (28, a, 130)) w := by kernel_rfl
theorem direct28 (w : World) : (Rtype.directlyAssignable 28 28).run prog w = .ok true w := by kernel_rfl
theorem size28 (w : World) : (sizeOf 28).run prog w = .ok 1 w := by kernel_rfl
theorem set28 (ta b : Addr) (n : Int) (old : Value) (W : World) (hb : W.cell? b = some (.int .i64 n)) (ht : W.cell? ta = some old) (hf : W.frozen? ta = false) :
    (ReflectliteValue.set #[.agg #[.pointer (some ⟨4, 28, none⟩), .pointer (some ta), .int .u64 386], .agg #[.pointer (some ⟨4, 28, none⟩), .pointer (some b), .int .u64 130]]).run prog W
      = .ok (.tuple #[]) (W.setCell ta (.int .i64 n)) := by
  rw [rls]
  simp only [Sem.run_bind, parts28a, parts28, Result.andThen]
  simp [ReflectliteValue.flagAddr, loadVar, isAgg, underlying, underlying28, hb, Result.andThen, direct28, storeVar, Value.cells, storeCells, Addr.add]
  rw [run_store prog W ta _ _ (by rfl)]
  simp [ht, hf]
end Go.Proofs.YtcbagjhbmdmjfaaDoor
