/-
  Interfaces beside nil.
-/
import Derived.Test.YtmnemfeofhinaaaDoorM17
set_option linter.unusedSimpArgs false
set_option linter.unusedVariables false
set_option linter.unusedSectionVars false
namespace Go.Mini
open Go
section
variable {P : Program} {n : Nat}
theorem abin_iface_n (ty : TypeId) (xo : Operand) (c : Value) (eq : Bool) : abin P (eqop eq) ty xo (.const c) .nilIface .nilIface = if isIfaceT (P.underlying ty) = true then some (.bool eq) else abinX P (eqop eq) ty xo (.const c) .nilIface .nilIface := by
  have hg : ∀ op : BinOp, pureRun P (eqGuard op ty xo (.const c) .nilIface .nilIface) = some () := fun op => by
    unfold eqGuard
    cases op <;> cases xo <;> rfl
  split
  · rename_i h
    unfold isIfaceT at h; split at h
    · rename_i hd
      cases eq
      · exact abin_neq_run (b := true) rfl rfl hd (hg _) rfl (by rw [Op.equalIn, pure_und, hd]; rfl)
      · exact abin_eql_run (b := true) rfl rfl hd (hg _) rfl (by rw [Op.equalIn, pure_und, hd]; rfl)
    · cases h
  · rfl
theorem abin_iface_s (ty : TypeId) (xo yo : Operand) (eq : Bool) (t : TypeId) (v : Value) : abin P (eqop eq) ty xo yo (.iface t v) .nilIface = if isIfaceT (P.underlying ty) = true then some (.bool !eq) else abinX P (eqop eq) ty xo yo (.iface t v) .nilIface := by
  split
  · rename_i h
    unfold isIfaceT at h; split at h
    · rename_i hd
      by_cases hv : vtop (.iface t v) = 0
      · cases eq
        · exact abin_neq_run (b := false) hv rfl hd rfl rfl (by rw [Op.equalIn, pure_und, hd]; rfl)
        · exact abin_eql_run (b := false) hv rfl hd rfl rfl (by rw [Op.equalIn, pure_und, hd]; rfl)
      · unfold abin
        rw [if_neg (fun h => hv h.1)]
        cases eq <;> simp [eqop, nilEq, hd]
    · cases h
  · rfl
variable (ty : TypeId) (xo yo : Operand) (t : TypeId) (v c : Value)
theorem abin_iface_eql_n : abin P .eql ty xo (.const c) .nilIface .nilIface = if isIfaceT (P.underlying ty) = true then some (.bool true) else abinX P .eql ty xo (.const c) .nilIface .nilIface := abin_iface_n ty xo c true
theorem abin_iface_neq_n : abin P .neq ty xo (.const c) .nilIface .nilIface = if isIfaceT (P.underlying ty) = true then some (.bool false) else abinX P .neq ty xo (.const c) .nilIface .nilIface := abin_iface_n ty xo c false
theorem abin_iface_eql_s : abin P .eql ty xo yo (.iface t v) .nilIface = if isIfaceT (P.underlying ty) = true then some (.bool false) else abinX P .eql ty xo yo (.iface t v) .nilIface := abin_iface_s ty xo yo true t v
theorem abin_iface_neq_s : abin P .neq ty xo yo (.iface t v) .nilIface = if isIfaceT (P.underlying ty) = true then some (.bool true) else abinX P .neq ty xo yo (.iface t v) .nilIface := abin_iface_s ty xo yo false t v
end
attribute [simp] abin_iface_eql_n abin_iface_neq_n abin_iface_eql_s abin_iface_neq_s
end Go.Mini
