/-
  errors.As by contracts: of a fault, of a number; the target a variable of a fault's type, or of a number's. (Lines of the kit's worked proof, turned by a program: gen07f.py.)
-/
import Derived.Test.YtcbagjhbmdmjfaaDoorE2
import Derived.Test.YtcbagjhbmdmjfaaDoorE3
set_option linter.unusedSimpArgs false
set_option linter.unusedVariables false
set_option linter.unusedSectionVars false
namespace Go.Proofs.YtcbagjhbmdmjfaaDoor
open Go Go.Proofs.Tryd
open Go.RowKit Go.Extern.Stop Go.Stop Go.Extern

/-- What errors.As makes of its own, ahead of the answer. -/
abbrev asV (T : TypeId) (w : World) : Obj := .cells #[.pointer (some ⟨4, T, none⟩), .pointer (some ⟨w.heap.size, 0, none⟩), .int .u64 150] 130
abbrev asW (T : TypeId) (t : Addr) (w : World) : World := ((w.alloc (.cells #[.pointer (some t)] T)).alloc (asV T w)).alloc (asV T w)
abbrev errTy : Value := .iface 138 (.agg #[.pointer (some ⟨4, 41, none⟩)])
theorem cell_lt {w : World} {t : Addr} {v : Value} (h : w.cell? t = some v) : t.block < w.heap.size := by
  rcases Nat.lt_or_ge t.block w.heap.size with h1 | h1
  · exact h1
  · simp [World.cell?, Array.getElem?_eq_none h1] at h

set_option maxRecDepth 1000000 in
set_option maxHeartbeats 4000000 in
/-- A fault is a fault. -/
theorem as_fault (p : Addr) (t : Addr) (old : Value) (w : World) (hg : w.cell? ⟨0, 0, none⟩ = some errTy) (ht0 : w.cell? t = some old) (hf0 : w.frozen? t = false) :
    Calls prog 47 #[.iface 70 (.pointer (some p)), .iface 100 (.pointer (some t))] w fun e w' => e = .returned (.bool true) ∧ w' = ((asW 100 t w).alloc (.cells #[(.pointer (some p))] 70)).setCell t (.pointer (some p)) := by
  have h66 := @run_callFunc_extern prog 66 _ (fun args => ReflectliteValue.unpack (args.getD 0 (.tuple #[]))) func66 (by kernel_rfl) (by kernel_rfl) (by kernel_rfl) (by kernel_rfl)
  have h67 := @run_callFunc_extern prog 67 _ (ReflectliteValue.methodAny (ReflectliteValue.valueError "reflectlite.Value.Type" 0) (fun t _ _ _ => ReflectliteType.toType t)) func67 (by kernel_rfl) (by kernel_rfl) (by kernel_rfl) (by kernel_rfl)
  have h68 := @run_callFunc_extern prog 68 _ (ReflectliteValue.method (ReflectliteValue.valueError "reflectlite.Value.IsNil" 0) ReflectliteValue.isNil) func68 (by kernel_rfl) (by kernel_rfl) (by kernel_rfl) (by kernel_rfl)
  have h103 := @run_callFunc_extern prog 103 _ (ReflectliteType.abiMethod fun t => do pure (.int .u8 (← Rtype.kind t))) func103 (by kernel_rfl) (by kernel_rfl) (by kernel_rfl) (by kernel_rfl)
  have h113 := @run_callFunc_extern prog 113 _ (ReflectliteType.method ReflectliteType.elem) func113 (by kernel_rfl) (by kernel_rfl) (by kernel_rfl) (by kernel_rfl)
  have h114 := @run_callFunc_extern prog 114 _ (ReflectliteType.relation "Implements" ReflectliteType.implements_) func114 (by kernel_rfl) (by kernel_rfl) (by kernel_rfl) (by kernel_rfl)
  have h48 := @run_callFunc_extern prog 48 _ ReflectliteType.typeOf func48 (by kernel_rfl) (by kernel_rfl) (by kernel_rfl) (by kernel_rfl)
  have h111 := @run_callFunc_extern prog 111 _ (ReflectliteType.relation "AssignableTo" ReflectliteType.assignableTo) func111 (by kernel_rfl) (by kernel_rfl) (by kernel_rfl) (by kernel_rfl)
  have h75 := @run_callFunc_extern prog 75 _ (ReflectliteValue.method (ReflectliteValue.valueError "reflectlite.Value.Elem" 0) ReflectliteValue.elem) func75 (by kernel_rfl) (by kernel_rfl) (by kernel_rfl) (by kernel_rfl)
  have h76 := @run_callFunc_extern prog 76 _ ReflectliteValue.set func76 (by kernel_rfl) (by kernel_rfl) (by kernel_rfl) (by kernel_rfl)
  have z0 := typeOf70
  have z1 := methodAssignableTo
  have z2 := valueOf100
  have z3 := type100
  have z4 := methodKind
  have z5 := methodElem
  have z6 := methodImplements
  have z7 := kind100
  have z8 := kind70
  have z9 := elem100
  have z10 := implements70
  have z11 := valueOf70
  have z12 := assignable70
  have n8 := isNil100 ⟨w.heap.size, 0, none⟩ t ((w.alloc (.cells #[.pointer (some t)] 100)).alloc (asV 100 w)) (by simp)
  have hlt : 0 < w.heap.size := cell_lt hg
  have htl : t.block < w.heap.size := cell_lt ht0
  have hg2 : ((w.alloc (.cells #[.pointer (some t)] 100)).alloc (asV 100 w)).cell? ⟨0, 0, none⟩ = some errTy := by
    rw [World.cell?_alloc_lt _ _ ⟨0, 0, none⟩ (by simp), World.cell?_alloc_lt _ _ ⟨0, 0, none⟩ hlt]; exact hg
  have el := elemV100 ⟨w.heap.size, 0, none⟩ t (asW 100 t w) (by rw [World.cell?_alloc_lt _ _ ⟨w.heap.size, 0, none⟩ (by simp; omega)]; simp)
  have st := set70 t ⟨w.heap.size + 1 + 1 + 1, 0, none⟩ p old ((asW 100 t w).alloc (.cells #[(.pointer (some p))] 70))
    (by rw [World.cell?_alloc_at _ _ _ _ (by simp)]; rfl)
    (by rw [World.cell?_alloc_lt _ _ t (by simp; omega), World.cell?_alloc_lt _ _ t (by simp; omega), World.cell?_alloc_lt _ _ t (by simp; omega), World.cell?_alloc_lt _ _ t htl]; exact ht0)
    (by rw [World.frozen?_alloc_old _ _ t (by simp; omega), World.frozen?_alloc_old _ _ t (by simp; omega), World.frozen?_alloc_old _ _ t (by simp; omega), World.frozen?_alloc_old _ _ t (Nat.ne_of_lt htl)]; exact hf0)
  go_enter func47, ntmps47
  go_wp2
  refine wp_loop_rounds 1 ?_
  rw [rounds_succ]
  go_wp2
  go_ret
  exact ⟨rfl, rfl⟩

set_option maxRecDepth 1000000 in
set_option maxHeartbeats 4000000 in
/-- A number is a number. -/
theorem as_num (n : Int) (t : Addr) (old : Value) (w : World) (hg : w.cell? ⟨0, 0, none⟩ = some errTy) (ht0 : w.cell? t = some old) (hf0 : w.frozen? t = false) :
    Calls prog 47 #[.iface 28 (.int .i64 n), .iface 101 (.pointer (some t))] w fun e w' => e = .returned (.bool true) ∧ w' = ((asW 101 t w).alloc (.cells #[(.int .i64 n)] 28)).setCell t (.int .i64 n) := by
  have h66 := @run_callFunc_extern prog 66 _ (fun args => ReflectliteValue.unpack (args.getD 0 (.tuple #[]))) func66 (by kernel_rfl) (by kernel_rfl) (by kernel_rfl) (by kernel_rfl)
  have h67 := @run_callFunc_extern prog 67 _ (ReflectliteValue.methodAny (ReflectliteValue.valueError "reflectlite.Value.Type" 0) (fun t _ _ _ => ReflectliteType.toType t)) func67 (by kernel_rfl) (by kernel_rfl) (by kernel_rfl) (by kernel_rfl)
  have h68 := @run_callFunc_extern prog 68 _ (ReflectliteValue.method (ReflectliteValue.valueError "reflectlite.Value.IsNil" 0) ReflectliteValue.isNil) func68 (by kernel_rfl) (by kernel_rfl) (by kernel_rfl) (by kernel_rfl)
  have h103 := @run_callFunc_extern prog 103 _ (ReflectliteType.abiMethod fun t => do pure (.int .u8 (← Rtype.kind t))) func103 (by kernel_rfl) (by kernel_rfl) (by kernel_rfl) (by kernel_rfl)
  have h113 := @run_callFunc_extern prog 113 _ (ReflectliteType.method ReflectliteType.elem) func113 (by kernel_rfl) (by kernel_rfl) (by kernel_rfl) (by kernel_rfl)
  have h114 := @run_callFunc_extern prog 114 _ (ReflectliteType.relation "Implements" ReflectliteType.implements_) func114 (by kernel_rfl) (by kernel_rfl) (by kernel_rfl) (by kernel_rfl)
  have h48 := @run_callFunc_extern prog 48 _ ReflectliteType.typeOf func48 (by kernel_rfl) (by kernel_rfl) (by kernel_rfl) (by kernel_rfl)
  have h111 := @run_callFunc_extern prog 111 _ (ReflectliteType.relation "AssignableTo" ReflectliteType.assignableTo) func111 (by kernel_rfl) (by kernel_rfl) (by kernel_rfl) (by kernel_rfl)
  have h75 := @run_callFunc_extern prog 75 _ (ReflectliteValue.method (ReflectliteValue.valueError "reflectlite.Value.Elem" 0) ReflectliteValue.elem) func75 (by kernel_rfl) (by kernel_rfl) (by kernel_rfl) (by kernel_rfl)
  have h76 := @run_callFunc_extern prog 76 _ ReflectliteValue.set func76 (by kernel_rfl) (by kernel_rfl) (by kernel_rfl) (by kernel_rfl)
  have z0 := typeOf28
  have z1 := methodAssignableTo
  have z2 := valueOf101
  have z3 := type101
  have z4 := methodKind
  have z5 := methodElem
  have z6 := methodImplements
  have z7 := kind101
  have z8 := kind28
  have z9 := elem101
  have z10 := implements28
  have z11 := valueOf28
  have z12 := assignable28
  have n8 := isNil101 ⟨w.heap.size, 0, none⟩ t ((w.alloc (.cells #[.pointer (some t)] 101)).alloc (asV 101 w)) (by simp)
  have hlt : 0 < w.heap.size := cell_lt hg
  have htl : t.block < w.heap.size := cell_lt ht0
  have hg2 : ((w.alloc (.cells #[.pointer (some t)] 101)).alloc (asV 101 w)).cell? ⟨0, 0, none⟩ = some errTy := by
    rw [World.cell?_alloc_lt _ _ ⟨0, 0, none⟩ (by simp), World.cell?_alloc_lt _ _ ⟨0, 0, none⟩ hlt]; exact hg
  have el := elemV101 ⟨w.heap.size, 0, none⟩ t (asW 101 t w) (by rw [World.cell?_alloc_lt _ _ ⟨w.heap.size, 0, none⟩ (by simp; omega)]; simp)
  have st := set28 t ⟨w.heap.size + 1 + 1 + 1, 0, none⟩ n old ((asW 101 t w).alloc (.cells #[(.int .i64 n)] 28))
    (by rw [World.cell?_alloc_at _ _ _ _ (by simp)]; rfl)
    (by rw [World.cell?_alloc_lt _ _ t (by simp; omega), World.cell?_alloc_lt _ _ t (by simp; omega), World.cell?_alloc_lt _ _ t (by simp; omega), World.cell?_alloc_lt _ _ t htl]; exact ht0)
    (by rw [World.frozen?_alloc_old _ _ t (by simp; omega), World.frozen?_alloc_old _ _ t (by simp; omega), World.frozen?_alloc_old _ _ t (by simp; omega), World.frozen?_alloc_old _ _ t (Nat.ne_of_lt htl)]; exact hf0)
  go_enter func47, ntmps47
  go_wp2
  refine wp_loop_rounds 1 ?_
  rw [rounds_succ]
  go_wp2
  go_ret
  exact ⟨rfl, rfl⟩

set_option maxRecDepth 1000000 in
set_option maxHeartbeats 4000000 in
/-- A number is no fault. -/
theorem as_num_not (n : Int) (t : Addr) (old : Value) (w : World) (hg : w.cell? ⟨0, 0, none⟩ = some errTy) (ht0 : w.cell? t = some old) (hf0 : w.frozen? t = false) :
    Calls prog 47 #[.iface 28 (.int .i64 n), .iface 100 (.pointer (some t))] w fun e w' => e = .returned (.bool false) ∧ w' = asW 100 t w := by
  have h66 := @run_callFunc_extern prog 66 _ (fun args => ReflectliteValue.unpack (args.getD 0 (.tuple #[]))) func66 (by kernel_rfl) (by kernel_rfl) (by kernel_rfl) (by kernel_rfl)
  have h67 := @run_callFunc_extern prog 67 _ (ReflectliteValue.methodAny (ReflectliteValue.valueError "reflectlite.Value.Type" 0) (fun t _ _ _ => ReflectliteType.toType t)) func67 (by kernel_rfl) (by kernel_rfl) (by kernel_rfl) (by kernel_rfl)
  have h68 := @run_callFunc_extern prog 68 _ (ReflectliteValue.method (ReflectliteValue.valueError "reflectlite.Value.IsNil" 0) ReflectliteValue.isNil) func68 (by kernel_rfl) (by kernel_rfl) (by kernel_rfl) (by kernel_rfl)
  have h103 := @run_callFunc_extern prog 103 _ (ReflectliteType.abiMethod fun t => do pure (.int .u8 (← Rtype.kind t))) func103 (by kernel_rfl) (by kernel_rfl) (by kernel_rfl) (by kernel_rfl)
  have h113 := @run_callFunc_extern prog 113 _ (ReflectliteType.method ReflectliteType.elem) func113 (by kernel_rfl) (by kernel_rfl) (by kernel_rfl) (by kernel_rfl)
  have h114 := @run_callFunc_extern prog 114 _ (ReflectliteType.relation "Implements" ReflectliteType.implements_) func114 (by kernel_rfl) (by kernel_rfl) (by kernel_rfl) (by kernel_rfl)
  have h48 := @run_callFunc_extern prog 48 _ ReflectliteType.typeOf func48 (by kernel_rfl) (by kernel_rfl) (by kernel_rfl) (by kernel_rfl)
  have h111 := @run_callFunc_extern prog 111 _ (ReflectliteType.relation "AssignableTo" ReflectliteType.assignableTo) func111 (by kernel_rfl) (by kernel_rfl) (by kernel_rfl) (by kernel_rfl)
  have z0 := typeOf28
  have z1 := methodAssignableTo
  have z2 := valueOf100
  have z3 := type100
  have z4 := methodKind
  have z5 := methodElem
  have z6 := methodImplements
  have z7 := kind100
  have z8 := kind70
  have z9 := elem100
  have z10 := implements70
  have z11 := assignableNo
  have z12 := noAs28
  have z13 := noUnwrap28
  have z14 := noUnwraps28
  have n8 := isNil100 ⟨w.heap.size, 0, none⟩ t ((w.alloc (.cells #[.pointer (some t)] 100)).alloc (asV 100 w)) (by simp)
  have hlt : 0 < w.heap.size := cell_lt hg
  have htl : t.block < w.heap.size := cell_lt ht0
  have hg2 : ((w.alloc (.cells #[.pointer (some t)] 100)).alloc (asV 100 w)).cell? ⟨0, 0, none⟩ = some errTy := by
    rw [World.cell?_alloc_lt _ _ ⟨0, 0, none⟩ (by simp), World.cell?_alloc_lt _ _ ⟨0, 0, none⟩ hlt]; exact hg
  go_enter func47, ntmps47
  go_wp2
  refine wp_loop_rounds 1 ?_
  rw [rounds_succ]
  go_wp2
  go_ret
  exact ⟨rfl, rfl⟩

set_option maxRecDepth 1000000 in
set_option maxHeartbeats 4000000 in
/-- An error of errors.New's make is no number. -/
theorem as_new_not (p : Addr) (t : Addr) (old : Value) (w : World) (hg : w.cell? ⟨0, 0, none⟩ = some errTy) (ht0 : w.cell? t = some old) (hf0 : w.frozen? t = false) :
    Calls prog 47 #[.iface 112 (.pointer (some p)), .iface 101 (.pointer (some t))] w fun e w' => e = .returned (.bool false) ∧ w' = asW 101 t w := by
  have h66 := @run_callFunc_extern prog 66 _ (fun args => ReflectliteValue.unpack (args.getD 0 (.tuple #[]))) func66 (by kernel_rfl) (by kernel_rfl) (by kernel_rfl) (by kernel_rfl)
  have h67 := @run_callFunc_extern prog 67 _ (ReflectliteValue.methodAny (ReflectliteValue.valueError "reflectlite.Value.Type" 0) (fun t _ _ _ => ReflectliteType.toType t)) func67 (by kernel_rfl) (by kernel_rfl) (by kernel_rfl) (by kernel_rfl)
  have h68 := @run_callFunc_extern prog 68 _ (ReflectliteValue.method (ReflectliteValue.valueError "reflectlite.Value.IsNil" 0) ReflectliteValue.isNil) func68 (by kernel_rfl) (by kernel_rfl) (by kernel_rfl) (by kernel_rfl)
  have h103 := @run_callFunc_extern prog 103 _ (ReflectliteType.abiMethod fun t => do pure (.int .u8 (← Rtype.kind t))) func103 (by kernel_rfl) (by kernel_rfl) (by kernel_rfl) (by kernel_rfl)
  have h113 := @run_callFunc_extern prog 113 _ (ReflectliteType.method ReflectliteType.elem) func113 (by kernel_rfl) (by kernel_rfl) (by kernel_rfl) (by kernel_rfl)
  have h114 := @run_callFunc_extern prog 114 _ (ReflectliteType.relation "Implements" ReflectliteType.implements_) func114 (by kernel_rfl) (by kernel_rfl) (by kernel_rfl) (by kernel_rfl)
  have h48 := @run_callFunc_extern prog 48 _ ReflectliteType.typeOf func48 (by kernel_rfl) (by kernel_rfl) (by kernel_rfl) (by kernel_rfl)
  have h111 := @run_callFunc_extern prog 111 _ (ReflectliteType.relation "AssignableTo" ReflectliteType.assignableTo) func111 (by kernel_rfl) (by kernel_rfl) (by kernel_rfl) (by kernel_rfl)
  have z0 := typeOf112
  have z1 := methodAssignableTo
  have z2 := valueOf101
  have z3 := type101
  have z4 := methodKind
  have z5 := methodElem
  have z6 := methodImplements
  have z7 := kind101
  have z8 := kind28
  have z9 := elem101
  have z10 := implements28
  have z11 := assignableNo3
  have z12 := noAs112
  have z13 := noUnwrap112
  have z14 := noUnwraps112
  have n8 := isNil101 ⟨w.heap.size, 0, none⟩ t ((w.alloc (.cells #[.pointer (some t)] 101)).alloc (asV 101 w)) (by simp)
  have hlt : 0 < w.heap.size := cell_lt hg
  have htl : t.block < w.heap.size := cell_lt ht0
  have hg2 : ((w.alloc (.cells #[.pointer (some t)] 101)).alloc (asV 101 w)).cell? ⟨0, 0, none⟩ = some errTy := by
    rw [World.cell?_alloc_lt _ _ ⟨0, 0, none⟩ (by simp), World.cell?_alloc_lt _ _ ⟨0, 0, none⟩ hlt]; exact hg
  go_enter func47, ntmps47
  go_wp2
  refine wp_loop_rounds 1 ?_
  rw [rounds_succ]
  go_wp2
  go_ret
  exact ⟨rfl, rfl⟩

set_option maxRecDepth 1000000 in
set_option maxHeartbeats 4000000 in
/-- A fault's number. -/
theorem as_wrap (pb po : Nat) (n : Int) (t : Addr) (old : Value) (w : World) (hg : w.cell? ⟨0, 0, none⟩ = some errTy) (ht0 : w.cell? t = some old) (hf0 : w.frozen? t = false) (h1 : w.cell? ⟨pb, po + 2, none⟩ = some (.int .i64 n)) :
    Calls prog 47 #[.iface 70 (.pointer (some ⟨pb, po, none⟩)), .iface 101 (.pointer (some t))] w fun e w' => e = .returned (.bool true) ∧ w' = ((asW 101 t w).alloc (.cells #[(.int .i64 n)] 28)).setCell t (.int .i64 n) := by
  have h66 := @run_callFunc_extern prog 66 _ (fun args => ReflectliteValue.unpack (args.getD 0 (.tuple #[]))) func66 (by kernel_rfl) (by kernel_rfl) (by kernel_rfl) (by kernel_rfl)
  have h67 := @run_callFunc_extern prog 67 _ (ReflectliteValue.methodAny (ReflectliteValue.valueError "reflectlite.Value.Type" 0) (fun t _ _ _ => ReflectliteType.toType t)) func67 (by kernel_rfl) (by kernel_rfl) (by kernel_rfl) (by kernel_rfl)
  have h68 := @run_callFunc_extern prog 68 _ (ReflectliteValue.method (ReflectliteValue.valueError "reflectlite.Value.IsNil" 0) ReflectliteValue.isNil) func68 (by kernel_rfl) (by kernel_rfl) (by kernel_rfl) (by kernel_rfl)
  have h103 := @run_callFunc_extern prog 103 _ (ReflectliteType.abiMethod fun t => do pure (.int .u8 (← Rtype.kind t))) func103 (by kernel_rfl) (by kernel_rfl) (by kernel_rfl) (by kernel_rfl)
  have h113 := @run_callFunc_extern prog 113 _ (ReflectliteType.method ReflectliteType.elem) func113 (by kernel_rfl) (by kernel_rfl) (by kernel_rfl) (by kernel_rfl)
  have h114 := @run_callFunc_extern prog 114 _ (ReflectliteType.relation "Implements" ReflectliteType.implements_) func114 (by kernel_rfl) (by kernel_rfl) (by kernel_rfl) (by kernel_rfl)
  have h48 := @run_callFunc_extern prog 48 _ ReflectliteType.typeOf func48 (by kernel_rfl) (by kernel_rfl) (by kernel_rfl) (by kernel_rfl)
  have h111 := @run_callFunc_extern prog 111 _ (ReflectliteType.relation "AssignableTo" ReflectliteType.assignableTo) func111 (by kernel_rfl) (by kernel_rfl) (by kernel_rfl) (by kernel_rfl)
  have h75 := @run_callFunc_extern prog 75 _ (ReflectliteValue.method (ReflectliteValue.valueError "reflectlite.Value.Elem" 0) ReflectliteValue.elem) func75 (by kernel_rfl) (by kernel_rfl) (by kernel_rfl) (by kernel_rfl)
  have h76 := @run_callFunc_extern prog 76 _ ReflectliteValue.set func76 (by kernel_rfl) (by kernel_rfl) (by kernel_rfl) (by kernel_rfl)
  have z0 := typeOf70
  have z1 := methodAssignableTo
  have z2 := valueOf101
  have z3 := type101
  have z4 := methodKind
  have z5 := methodElem
  have z6 := methodImplements
  have z7 := kind101
  have z8 := kind28
  have z9 := elem101
  have z10 := implements28
  have z11 := typeOf28
  have z12 := valueOf28
  have z13 := assignable28
  have z14 := assignableNo2
  have z15 := noAs70
  have z16 := hasUnwrap70
  have z17 := methodUnwrap
  have n8 := isNil101 ⟨w.heap.size, 0, none⟩ t ((w.alloc (.cells #[.pointer (some t)] 101)).alloc (asV 101 w)) (by simp)
  have hlt : 0 < w.heap.size := cell_lt hg
  have htl : t.block < w.heap.size := cell_lt ht0
  have hg2 : ((w.alloc (.cells #[.pointer (some t)] 101)).alloc (asV 101 w)).cell? ⟨0, 0, none⟩ = some errTy := by
    rw [World.cell?_alloc_lt _ _ ⟨0, 0, none⟩ (by simp), World.cell?_alloc_lt _ _ ⟨0, 0, none⟩ hlt]; exact hg
  have hpl : pb < w.heap.size := cell_lt h1
  have h2 : (asW 101 t w).cell? ⟨pb, po + 2, none⟩ = some (.int .i64 n) := by
    rw [World.cell?_alloc_lt _ _ ⟨pb, po + 2, none⟩ (by simp; omega), World.cell?_alloc_lt _ _ ⟨pb, po + 2, none⟩ (by simp; omega), World.cell?_alloc_lt _ _ ⟨pb, po + 2, none⟩ hpl]; exact h1
  have el := elemV101 ⟨w.heap.size, 0, none⟩ t (asW 101 t w) (by rw [World.cell?_alloc_lt _ _ ⟨w.heap.size, 0, none⟩ (by simp; omega)]; simp)
  have st := set28 t ⟨w.heap.size + 1 + 1 + 1, 0, none⟩ n old ((asW 101 t w).alloc (.cells #[(.int .i64 n)] 28))
    (by rw [World.cell?_alloc_at _ _ _ _ (by simp)]; rfl)
    (by rw [World.cell?_alloc_lt _ _ t (by simp; omega), World.cell?_alloc_lt _ _ t (by simp; omega), World.cell?_alloc_lt _ _ t (by simp; omega), World.cell?_alloc_lt _ _ t htl]; exact ht0)
    (by rw [World.frozen?_alloc_old _ _ t (by simp; omega), World.frozen?_alloc_old _ _ t (by simp; omega), World.frozen?_alloc_old _ _ t (by simp; omega), World.frozen?_alloc_old _ _ t (Nat.ne_of_lt htl)]; exact hf0)
  go_enter func47, ntmps47
  go_wp2
  refine wp_loop_rounds 2 ?_
  rw [rounds_succ]
  go_wp2
  rw [rounds_succ]
  go_wp2
  go_ret
  exact ⟨rfl, rfl⟩

end Go.Proofs.YtcbagjhbmdmjfaaDoor
