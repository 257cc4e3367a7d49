/-
  What the operations come to, on values that are told: rules by which a function's sentence is run.
-/
import Derived.Test.YtmnemfeofhinaaaDoorM14
import Derived.IntWalk
set_option linter.unusedSimpArgs false
set_option linter.unusedVariables false
set_option linter.unusedSectionVars false
namespace Go.Mini
open Go

section
variable {P : Program} {n : Nat}

theorem upd_some (t : Tm) (d : Tmp) (v : Value) (k : Nat) : upd t (some d) v k = if k = d then v else t k := _root_.id rfl
theorem upd_none (t : Tm) (v : Value) : upd t none v = t := _root_.id rfl
theorem ev_tmp (t : Tm) (k : Tmp) : ev t (.tmp k) = t k := _root_.id rfl
theorem ev_const (t : Tm) (v : Value) : ev t (.const v) = v := _root_.id rfl
theorem ev_func (t : Tm) (f : FuncId) : ev t (.func f) = .func (.func f) #[] #[] := _root_.id rfl
theorem tm0_def (args : List Value) (k : Nat) : tm0 args k = args.getD k undef := _root_.id rfl
theorem GuardK_if (b : Bool) (A C : Prop) : GuardK b A C = if b = true then A else C := _root_.id rfl
theorem asArg_some (x : Operand) (t : Tm) : asArg (some x) t = some (ev t x) := _root_.id rfl
theorem asArg_none (t : Tm) : asArg none t = none := _root_.id rfl

/-! ### Integers -/
section ints
variable (ty : TypeId) (xo yo : Operand) (k k' : IntKind) (a b : Int)
theorem abin_add : abin P .add ty xo yo (.int k a) (.int k b) = some (.int k (k.wrap (a + b))) := by simp [abin, vtop, eqGuard, binOp, Op.intArith]
theorem abin_sub : abin P .sub ty xo yo (.int k a) (.int k b) = some (.int k (k.wrap (a - b))) := by simp [abin, vtop, eqGuard, binOp, Op.intArith]
theorem abin_mul : abin P .mul ty xo yo (.int k a) (.int k b) = some (.int k (k.wrap (a * b))) := by simp [abin, vtop, eqGuard, binOp, Op.intArith]
theorem abin_quo (hb : b ≠ 0) : abin P .quo ty xo yo (.int k a) (.int k b) = some (.int k (k.wrap (a.tdiv b))) := by simp [abin, vtop, eqGuard, binOp, Op.intDiv, hb]
theorem abin_rem (hb : b ≠ 0) : abin P .rem ty xo yo (.int k a) (.int k b) = some (.int k (a.tmod b)) := by simp [abin, vtop, eqGuard, binOp, Op.intDiv, hb]
theorem abin_and : abin P .and ty xo yo (.int k a) (.int k b) = some (.int k (k.wrap (BitVec.ofInt k.bits a &&& BitVec.ofInt k.bits b).toNat)) := by simp [abin, vtop, eqGuard, binOp, Op.intBits]
theorem abin_or : abin P .or ty xo yo (.int k a) (.int k b) = some (.int k (k.wrap (BitVec.ofInt k.bits a ||| BitVec.ofInt k.bits b).toNat)) := by simp [abin, vtop, eqGuard, binOp, Op.intBits]
theorem abin_xor : abin P .xor ty xo yo (.int k a) (.int k b) = some (.int k (k.wrap (BitVec.ofInt k.bits a ^^^ BitVec.ofInt k.bits b).toNat)) := by simp [abin, vtop, eqGuard, binOp, Op.intBits]
theorem abin_andNot : abin P .andNot ty xo yo (.int k a) (.int k b) = some (.int k (k.wrap (BitVec.ofInt k.bits a &&& ~~~BitVec.ofInt k.bits b).toNat)) := by simp [abin, vtop, eqGuard, binOp, Op.intBits]
theorem abin_shl (hb : 0 ≤ b) : abin P .shl ty xo yo (.int k a) (.int k' b) = some (.int k (k.wrap (a * 2 ^ (min b.toNat k.bits)))) := by
  simp [abin, vtop, eqGuard, binOp, Op.shift, Int.not_lt.2 hb]
theorem abin_shr (hb : 0 ≤ b) : abin P .shr ty xo yo (.int k a) (.int k' b) = some (.int k (a.fdiv (2 ^ (min b.toNat k.bits)))) := by
  simp [abin, vtop, eqGuard, binOp, Op.shift, Int.not_lt.2 hb]
theorem abin_eql : abin P .eql ty xo yo (.int k a) (.int k b) = some (.bool (decide (a = b))) := by simp [abin, vtop, eqGuard, binOp, Op.intCmp]; rfl
theorem abin_neq : abin P .neq ty xo yo (.int k a) (.int k b) = some (.bool (!decide (a = b))) := by simp [abin, vtop, eqGuard, binOp, Op.intCmp, bne]; rfl
theorem abin_lss : abin P .lss ty xo yo (.int k a) (.int k b) = some (.bool (decide (a < b))) := by simp [abin, vtop, eqGuard, binOp, Op.intCmp]
theorem abin_leq : abin P .leq ty xo yo (.int k a) (.int k b) = some (.bool (decide (a ≤ b))) := by simp [abin, vtop, eqGuard, binOp, Op.intCmp]
theorem abin_gtr : abin P .gtr ty xo yo (.int k a) (.int k b) = some (.bool (decide (b < a))) := by simp [abin, vtop, eqGuard, binOp, Op.intCmp]
theorem abin_geq : abin P .geq ty xo yo (.int k a) (.int k b) = some (.bool (decide (b ≤ a))) := by simp [abin, vtop, eqGuard, binOp, Op.intCmp]
theorem aun_not (c : Bool) : aun P .not (.bool c) = some (.bool !c) := by simp [aun, vtop, Op.unary]
theorem aun_neg : aun P .neg (.int k a) = some (.int k (k.wrap (0 - a))) := by simp [aun, vtop, Op.unary, Op.intArith]
end ints

/-! ### Other comparisons -/
theorem pure_und {α : Type} (ty : TypeId) (f : TypeDesc → Sem α) : pureRun P (underlying ty >>= f) = (P.underlying ty).bind fun d => pureRun P (f d) := by
  rw [pureRun_bind]
  have : pureRun P (underlying ty) = P.underlying ty := by
    unfold underlying
    rw [pureRun_bind]
    simp only [pureRun_program, Option.bind_some]
    cases h : P.underlying ty <;> simp [stuck, pureRun]
  rw [this]

def abinX := @abin
def isPtrT : Option TypeDesc → Bool | some (.pointer _) => true | _ => false
def isSliceT : Option TypeDesc → Bool | some (.slice _) => true | _ => false
def isFuncT : Option TypeDesc → Bool | some (.func _ _ _) => true | _ => false
def isIfaceT : Option TypeDesc → Bool | some (.interface _) => true | _ => false
def isBoolT : Option TypeDesc → Bool | some .bool => true | _ => false


theorem abin_eql_run {ty : TypeId} {xo yo : Operand} {x y : Value} {d : TypeDesc} {b : Bool} (hx : vtop x = 0) (hy : vtop y = 0) (_hd : P.underlying ty = some d) (hg : pureRun P (eqGuard .eql ty xo yo x y) = some ()) (hb : binOp .eql ty x y = (do pure (.bool (← Op.equal ty x y))))
    (he : pureRun P (Op.equalIn (9999 + 1) ty x y) = some b) : abin P .eql ty xo yo x y = some (.bool b) := by
  unfold abin
  rw [if_pos ⟨hx, hy⟩, pureRun_bind, hg, Option.bind_some, hb, pureRun_bind, show Op.equal ty x y = Op.equalIn (9999 + 1) ty x y from rfl, he]
  rfl
theorem abin_neq_run {ty : TypeId} {xo yo : Operand} {x y : Value} {d : TypeDesc} {b : Bool} (hx : vtop x = 0) (hy : vtop y = 0) (_hd : P.underlying ty = some d) (hg : pureRun P (eqGuard .neq ty xo yo x y) = some ()) (hb : binOp .neq ty x y = (do pure (.bool (!(← Op.equal ty x y)))))
    (he : pureRun P (Op.equalIn (9999 + 1) ty x y) = some b) : abin P .neq ty xo yo x y = some (.bool !b) := by
  unfold abin
  rw [if_pos ⟨hx, hy⟩, pureRun_bind, hg, Option.bind_some, hb, pureRun_bind, show Op.equal ty x y = Op.equalIn (9999 + 1) ty x y from rfl, he]
  rfl

/-- Comparisons that need the type: the type's kind is asked for, and found by reckoning. -/
theorem abin_bool_eql (ty : TypeId) (xo yo : Operand) (a b : Bool) : abin P .eql ty xo yo (.bool a) (.bool b) = if isBoolT (P.underlying ty) = true then some (.bool (a == b)) else abinX P .eql ty xo yo (.bool a) (.bool b) := by
  split
  · rename_i h
    unfold isBoolT at h; split at h
    · rename_i hd
      exact abin_eql_run rfl rfl hd rfl rfl (by rw [Op.equalIn, pure_und, hd]; rfl)
    · cases h
  · rfl
theorem abin_bool_neq (ty : TypeId) (xo yo : Operand) (a b : Bool) : abin P .neq ty xo yo (.bool a) (.bool b) = if isBoolT (P.underlying ty) = true then some (.bool (!(a == b))) else abinX P .neq ty xo yo (.bool a) (.bool b) := by
  split
  · rename_i h
    unfold isBoolT at h; split at h
    · rename_i hd
      exact abin_neq_run rfl rfl hd rfl rfl (by rw [Op.equalIn, pure_und, hd]; rfl)
    · cases h
  · rfl
def eqop : Bool → BinOp | true => .eql | false => .neq
theorem abin_ptr_nn (ty : TypeId) (xo yo : Operand) (eq : Bool) : abin P (eqop eq) ty xo yo (.pointer none) (.pointer none) = if isPtrT (P.underlying ty) = true then some (.bool eq) else abinX P (eqop eq) ty xo yo (.pointer none) (.pointer none) := by
  split
  · rename_i h
    unfold isPtrT at h; split at h
    · rename_i hd
      cases eq
      · exact abin_neq_run (b := true) rfl rfl hd rfl rfl (by rw [Op.equalIn, pure_und, hd]; rfl)
      · exact abin_eql_run (b := true) rfl rfl hd rfl rfl (by rw [Op.equalIn, pure_und, hd]; rfl)
    · cases h
  · rfl
theorem vtop_ptr_ne (a : Addr) : ¬ vtop (.pointer (some a)) = 0 := by simp [vtop]
theorem vtop_slice_ne (a : Addr) (k c : Nat) : ¬ vtop (.slice (some a) k c) = 0 := by simp [vtop]
theorem abin_ptr_sn (ty : TypeId) (xo yo : Operand) (eq : Bool) (a : Addr) : abin P (eqop eq) ty xo yo (.pointer (some a)) (.pointer none) = if isPtrT (P.underlying ty) = true then some (.bool !eq) else abinX P (eqop eq) ty xo yo (.pointer (some a)) (.pointer none) := by
  split
  · rename_i h
    unfold isPtrT at h; split at h
    · rename_i hd
      unfold abin
      rw [if_neg (fun h => vtop_ptr_ne a h.1)]
      cases eq <;> simp [eqop, nilEq, hd]
    · cases h
  · rfl
theorem abin_ptr_ns (ty : TypeId) (xo yo : Operand) (eq : Bool) (a : Addr) : abin P (eqop eq) ty xo yo (.pointer none) (.pointer (some a)) = if isPtrT (P.underlying ty) = true then some (.bool !eq) else abinX P (eqop eq) ty xo yo (.pointer none) (.pointer (some a)) := by
  split
  · rename_i h
    unfold isPtrT at h; split at h
    · rename_i hd
      unfold abin
      rw [if_neg (fun h => vtop_ptr_ne a h.2)]
      cases eq <;> simp [eqop, nilEq, hd]
    · cases h
  · rfl
theorem abin_slice_n (ty : TypeId) (xo yo : Operand) (eq : Bool) (k c k' c' : Nat) : abin P (eqop eq) ty xo yo (.slice none k c) (.slice none k' c') = if isSliceT (P.underlying ty) = true then some (.bool eq) else abinX P (eqop eq) ty xo yo (.slice none k c) (.slice none k' c') := by
  split
  · rename_i h
    unfold isSliceT at h; split at h
    · rename_i hd
      cases eq
      · exact abin_neq_run (b := true) rfl rfl hd rfl rfl (by rw [Op.equalIn, pure_und, hd]; rfl)
      · exact abin_eql_run (b := true) rfl rfl hd rfl rfl (by rw [Op.equalIn, pure_und, hd]; rfl)
    · cases h
  · rfl
theorem abin_slice_s (ty : TypeId) (xo yo : Operand) (eq : Bool) (a : Addr) (k c k' c' : Nat) : abin P (eqop eq) ty xo yo (.slice (some a) k c) (.slice none k' c') = if isSliceT (P.underlying ty) = true then some (.bool !eq) else abinX P (eqop eq) ty xo yo (.slice (some a) k c) (.slice none k' c') := by
  split
  · rename_i h
    unfold isSliceT at h; split at h
    · rename_i hd
      unfold abin
      rw [if_neg (fun h => vtop_slice_ne a k c h.1)]
      cases eq <;> simp [eqop, nilEq, hd]
    · cases h
  · rfl
theorem abin_func_n (ty : TypeId) (xo yo : Operand) (eq : Bool) : abin P (eqop eq) ty xo yo .nilFunc .nilFunc = if isFuncT (P.underlying ty) = true then some (.bool eq) else abinX P (eqop eq) ty xo yo .nilFunc .nilFunc := by
  split
  · rename_i h
    unfold isFuncT at h; split at h
    · rename_i hd
      cases eq
      · exact abin_neq_run (b := true) rfl rfl hd rfl rfl (by rw [Op.equalIn, pure_und, hd]; rfl)
      · exact abin_eql_run (b := true) rfl rfl hd rfl rfl (by rw [Op.equalIn, pure_und, hd]; rfl)
    · cases h
  · rfl
theorem abin_func_s (ty : TypeId) (xo yo : Operand) (eq : Bool) (f : Fn) (a b : Array Value) : abin P (eqop eq) ty xo yo (.func f a b) .nilFunc = if isFuncT (P.underlying ty) = true then some (.bool !eq) else abinX P (eqop eq) ty xo yo (.func f a b) .nilFunc := by
  split
  · rename_i h
    unfold isFuncT at h; split at h
    · rename_i hd
      by_cases hv : vtop (.func f a b) = 0
      · cases eq
        · exact abin_neq_run (b := false) hv rfl hd rfl rfl (by rw [Op.equalIn, pure_und, hd]; rfl)
        · exact abin_eql_run (b := false) hv rfl hd rfl rfl (by rw [Op.equalIn, pure_und, hd]; rfl)
      · unfold abin
        rw [if_neg (fun h => hv h.1)]
        cases eq <;> simp [eqop, nilEq, hd]
    · cases h
  · rfl

section
variable (ty : TypeId) (xo yo : Operand) (a : Addr) (k c k' c' : Nat) (f : Fn) (u v : Array Value)
theorem abin_ptr_eql_nn : abin P .eql ty xo yo (.pointer none) (.pointer none) = if isPtrT (P.underlying ty) = true then some (.bool true) else abinX P .eql ty xo yo (.pointer none) (.pointer none) := abin_ptr_nn ty xo yo true
theorem abin_ptr_neq_nn : abin P .neq ty xo yo (.pointer none) (.pointer none) = if isPtrT (P.underlying ty) = true then some (.bool false) else abinX P .neq ty xo yo (.pointer none) (.pointer none) := abin_ptr_nn ty xo yo false
theorem abin_ptr_eql_sn : abin P .eql ty xo yo (.pointer (some a)) (.pointer none) = if isPtrT (P.underlying ty) = true then some (.bool false) else abinX P .eql ty xo yo (.pointer (some a)) (.pointer none) := abin_ptr_sn ty xo yo true a
theorem abin_ptr_neq_sn : abin P .neq ty xo yo (.pointer (some a)) (.pointer none) = if isPtrT (P.underlying ty) = true then some (.bool true) else abinX P .neq ty xo yo (.pointer (some a)) (.pointer none) := abin_ptr_sn ty xo yo false a
theorem abin_slice_eql_n : abin P .eql ty xo yo (.slice none k c) (.slice none k' c') = if isSliceT (P.underlying ty) = true then some (.bool true) else abinX P .eql ty xo yo (.slice none k c) (.slice none k' c') := abin_slice_n ty xo yo true k c k' c'
theorem abin_slice_neq_n : abin P .neq ty xo yo (.slice none k c) (.slice none k' c') = if isSliceT (P.underlying ty) = true then some (.bool false) else abinX P .neq ty xo yo (.slice none k c) (.slice none k' c') := abin_slice_n ty xo yo false k c k' c'
theorem abin_slice_eql_s : abin P .eql ty xo yo (.slice (some a) k c) (.slice none k' c') = if isSliceT (P.underlying ty) = true then some (.bool false) else abinX P .eql ty xo yo (.slice (some a) k c) (.slice none k' c') := abin_slice_s ty xo yo true a k c k' c'
theorem abin_slice_neq_s : abin P .neq ty xo yo (.slice (some a) k c) (.slice none k' c') = if isSliceT (P.underlying ty) = true then some (.bool true) else abinX P .neq ty xo yo (.slice (some a) k c) (.slice none k' c') := abin_slice_s ty xo yo false a k c k' c'
theorem abin_func_eql_n : abin P .eql ty xo yo .nilFunc .nilFunc = if isFuncT (P.underlying ty) = true then some (.bool true) else abinX P .eql ty xo yo .nilFunc .nilFunc := abin_func_n ty xo yo true
theorem abin_func_neq_n : abin P .neq ty xo yo .nilFunc .nilFunc = if isFuncT (P.underlying ty) = true then some (.bool false) else abinX P .neq ty xo yo .nilFunc .nilFunc := abin_func_n ty xo yo false
theorem abin_func_eql_s : abin P .eql ty xo yo (.func f u v) .nilFunc = if isFuncT (P.underlying ty) = true then some (.bool false) else abinX P .eql ty xo yo (.func f u v) .nilFunc := abin_func_s ty xo yo true f u v
theorem abin_func_neq_s : abin P .neq ty xo yo (.func f u v) .nilFunc = if isFuncT (P.underlying ty) = true then some (.bool true) else abinX P .neq ty xo yo (.func f u v) .nilFunc := abin_func_s ty xo yo false f u v
end

/-! ### Strings -/
theorem abin_str_add (ty : TypeId) (xo yo : Operand) (a b : ByteArray) (h : (a.size : Int) + b.size ≤ 9223372036854775807) : abin P .add ty xo yo (.string a) (.string b) = some (.string (a ++ b)) := by
  have h' : ¬ ((a.size + b.size : Nat) : Int) > IntKind.i64.max := by
    have : IntKind.i64.max = 9223372036854775807 := by decide
    rw [this]; omega
  simp only [abin, vtop, eqGuard, binOp, Op.stringOp, if_neg h']
  simp [vtop]
end
end Go.Mini
