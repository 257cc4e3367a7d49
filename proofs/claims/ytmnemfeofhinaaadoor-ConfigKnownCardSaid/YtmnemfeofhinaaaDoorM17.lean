/-
  The rules by which a function's sentence is run, as one set.
-/
import Derived.Test.YtmnemfeofhinaaaDoorM16
set_option linter.unusedSimpArgs false
set_option linter.unusedVariables false
set_option linter.unusedSectionVars false
namespace Go.Mini
open Go
variable [E : REnv]

/-! Where a test is open, both ways are asked. -/
theorem CondV_bool (b : Bool) (A C : Prop) : CondV (.bool b) A C = ((b = true → A) ∧ (b = false → C)) := _root_.id rfl

theorem blks_set_eq (h : Hp) (i : Nat) (b : Blk) : (h.set i b).blks i = some b := by simp [Hp.blks_set]
theorem blks_set_ne (h : Hp) (i j : Nat) (b : Blk) (hj : j ≠ i) : (h.set i b).blks j = h.blks j := by simp [Hp.blks_set, hj]
theorem blks_alloc_eq (h : Hp) (b : Blk) : (h.alloc b).blks h.next = some b := by simp [Hp.blks_alloc]
theorem blks_alloc_ne (h : Hp) (j : Nat) (b : Blk) (hj : j ≠ h.next) : (h.alloc b).blks j = h.blks j := by simp [Hp.blks_alloc, hj]
theorem blks_alloc_at (h : Hp) (j : Nat) (b : Blk) (hj : j = h.next) : (h.alloc b).blks j = some b := by simp [Hp.blks_alloc, hj]
theorem Hp.set_alloc_ (h : Hp) (b c : Blk) : (h.alloc b).set h.next c = h.alloc c := Hp.set_alloc h b c _ rfl
theorem tm0_zero (v : Value) (l : List Value) : tm0 (v :: l) 0 = v := _root_.id rfl
theorem tm0_succ (v : Value) (l : List Value) (k : Nat) : tm0 (v :: l) (k + 1) = tm0 l k := _root_.id rfl
theorem tm0_nil (k : Nat) : tm0 [] k = undef := _root_.id rfl

theorem acallF_of {P : Program} {f : FuncId} {fn : Func} {c : Code} {args : List Value} {h : Hp} {K : Value → Hp → Prop} (tb : Nat → Marks) (hf : P.funcs[f]? = some fn) (hb : fn.body = some c) (hname : (fn.name == "runtime.NumGoroutine") = false) (hm : P.follows .mixedOrders = true)
    (hok : (okCode P fn.ntmps tb c && fn.results.all (okRes fn.ntmps) && decide (args.length ≤ fn.ntmps)) = true)
    (hv : Wf h args → vcF P fn.ntmps tb c (FnQ P fn.results.toList h K) (tm0 args) h (.mk _)) : ACall P f args h K := acall_of tb hf hb hname hm hok hv
theorem ACallF.gen {P : Program} {f : FuncId} {args : List Value} {h : Hp} {K : Value → Hp → Prop} {u : Tag K} (H : ∀ G, G = h → ACall P f args G K) : ACallF P f args h K u := H h rfl
theorem YCallF.gen {P : Program} {L : Nat} {args : List Value} {h : Hp} {K : Value → Hp → Prop} {u : Tag K} (H : ∀ G, G = h → YCall P L args G K) : YCallF P L args h K u := H h rfl
theorem RetF.all {P : Program} {rs : List ResultVar} {h h1 : Hp} {K : Value → Hp → Prop} {t : Tm} {u1 : Tag rs} {u2 : Tag h} {u3 : Tag K} {u4 : Tag t} {u5 : Tag h1} {r : Value} (hr : aresult P rs t h1 = Option.some r) (hK : K r h1) : RetF P rs h K t h1 u1 u2 u3 u4 u5 := RetK.all hr hK
theorem RetF.same {P : Program} {rs : List ResultVar} {args : List Value} {h h1 : Hp} {K : Value → Hp → Prop} {t : Tm} {u1 : Tag rs} {u2 : Tag h} {u3 : Tag K} {u4 : Tag t} {u5 : Tag h1} {r : Value} (hwf : Wf h args) (hr : aresult P rs t h1 = Option.some r) (hv : vtop r ≤ h.next) (hs : ∀ i, i < h.next → h1.blks i = h.blks i) (hK : K r h) (hc : E.can = false := by rfl) : RetF P rs h K t h1 u1 u2 u3 u4 u5 := RetK.same hwf hr hv hs hK hc
def setA (h : Hp) (b : Blk) (i : Nat) (c : Blk) : Hp := (h.alloc b).set i c
def setB (h : Hp) (b : Blk) (i : Nat) (c : Blk) : Hp := (h.alloc b).set i c
theorem Hp.set_allocA (h : Hp) (b : Blk) (i : Nat) (c : Blk) : (h.alloc b).set i c = setA h b i c := _root_.id rfl
theorem setA_def (h : Hp) (b : Blk) (i : Nat) (c : Blk) : setA h b i c = if i = h.next then h.alloc c else if i < h.next then (h.set i c).alloc b else setB h b i c := by
  unfold setA setB
  split
  · exact Hp.set_alloc h b c i (by assumption)
  · split
    · exact Hp.alloc_set h b c i (by assumption)
    · rfl
@[simp] theorem list_at_zero {α : Type} (a : α) (l : List α) : (a :: l)[0]? = Option.some a := _root_.id rfl
theorem PureF_true (R : Nat → Prop) (op : Op) (t : Tm) (h h' : Hp) (X : Prop) (u1 : Tag R) (u2 : Tag op) (u3 : Tag t) (u4 : Tag h) (u5 : Tag h') (u : Tag X) : PureF true R op t h h' X u1 u2 u3 u4 u5 u = ((SameR R h.next h h' ∧ ReadInF R op t (.mk _)) ∧ X) := by simp [PureF, PureK, ReadInF]
@[simp] theorem SameR_refl (R : Nat → Prop) (m : Nat) (h : Hp) : SameR R m h h := fun _ _ _ => rfl
@[simp] theorem SameR_set (R : Nat → Prop) (m : Nat) (h : Hp) (s : Nat) (b : Blk) : SameR R m h (h.set s b) = (s < m → R s → some b = h.blks s) := by
  apply propext
  constructor
  · intro q hs hR; have := q s hs hR; simpa [Hp.blks_set] using this
  · intro q j hj hR
    by_cases hjs : j = s
    · subst hjs; simp only [Hp.blks_set, if_pos]; exact q hj hR
    · simp [Hp.blks_set, hjs]
@[simp] theorem SameR_set2 (R : Nat → Prop) (m : Nat) (h : Hp) (s : Nat) (b b' : Blk) : SameR R m (h.set s b) (h.set s b') = (s < m → R s → b' = b) := by
  apply propext
  constructor
  · intro q hs hR; have := q s hs hR; simpa [Hp.blks_set] using this
  · intro q j hj hR
    by_cases hjs : j = s
    · subst hjs; simp only [Hp.blks_set, if_pos]; rw [q hj hR]
    · simp [Hp.blks_set, hjs]
theorem SameR_alloc (R : Nat → Prop) (h : Hp) (b : Blk) : SameR R h.next h (h.alloc b) := fun j hj _ => by simp [Hp.blks_alloc, Nat.ne_of_lt hj]
@[simp] theorem SameR_alloc' (R : Nat → Prop) (h : Hp) (b : Blk) : SameR R h.next h (h.alloc b) = True := by simp [SameR_alloc]
@[simp] theorem ReadIn_load (R : Nat → Prop) (ty : TypeId) (x : Operand) (t : Tm) : ReadInF R (.load ty x) t (.mk _) = inR R (evF t x (.mk _)) := _root_.id rfl
@[simp] theorem ReadIn_store (R : Nat → Prop) (ty : TypeId) (x y : Operand) (t : Tm) : ReadInF R (.store ty x y) t (.mk _) := by simp [ReadInF, ReadIn]
@[simp] theorem ReadIn_call (R : Nat → Prop) (c : Call) (t : Tm) : ReadInF R (.call c) t (.mk _) := by simp [ReadInF, ReadIn]
@[simp] theorem inR_ptr (R : Nat → Prop) (a : Addr) : inR R (.pointer (some a)) = R a.block := _root_.id rfl
@[simp] theorem inR_slice (R : Nat → Prop) (a : Addr) (k c : Nat) : inR R (.slice (some a) k c) = R a.block := _root_.id rfl
attribute [simp] PureF_true Marks.at_l Marks.at_R Marks.at_nv SelF_true SelF_false
attribute [simp] IntWalk.i64_in IntWalk.u64_in IntWalk.u32_in IntWalk.i32_in IntWalk.u8_in IntWalk.u16_in IntWalk.rem_in IntWalk.i64_quo IntWalk.u64_quo IntWalk.u32_quo IntWalk.i32_quo IntWalk.u8_quo
theorem Blk.put_def (cs : Array Value) (esz : Nat) (own : Bool) (off : Nat) (l : List Value) : Blk.put ⟨cs, esz, own⟩ off l = ⟨putL cs off l, esz, own⟩ := _root_.id rfl
theorem cells_int (k : IntKind) (m : Int) : Value.cells (.int k m) = #[.int k m] := _root_.id rfl
theorem cells_bool (b : Bool) : Value.cells (.bool b) = #[.bool b] := _root_.id rfl
theorem cells_string (b : ByteArray) : Value.cells (.string b) = #[.string b] := _root_.id rfl
theorem cells_pointer (b : Option Addr) : Value.cells (.pointer b) = #[.pointer b] := _root_.id rfl
theorem cells_slice (b : Option Addr) (k c : Nat) : Value.cells (.slice b k c) = #[.slice b k c] := _root_.id rfl
theorem cells_func (f : Fn) (a b : Array Value) : Value.cells (.func f a b) = #[.func f a b] := _root_.id rfl
theorem cells_nilFunc : Value.cells .nilFunc = #[.nilFunc] := _root_.id rfl
theorem cells_nilIface : Value.cells .nilIface = #[.nilIface] := _root_.id rfl
theorem cells_iface (t : TypeId) (v : Value) : Value.cells (.iface t v) = #[.iface t v] := _root_.id rfl
theorem cells_agg (cs : Array Value) : Value.cells (.agg cs) = cs := _root_.id rfl
theorem cok_int (k : IntKind) (m : Int) : cellsOk (.int k m) = true := by simp [cellsOk, Value.cells, Value.oneCell']
theorem cok_bool (b : Bool) : cellsOk (.bool b) = true := by simp [cellsOk, Value.cells, Value.oneCell']
theorem cok_string (b : ByteArray) : cellsOk (.string b) = true := by simp [cellsOk, Value.cells, Value.oneCell']
theorem cok_pointer (b : Option Addr) : cellsOk (.pointer b) = true := by simp [cellsOk, Value.cells, Value.oneCell']
theorem cok_slice (b : Option Addr) (k c : Nat) : cellsOk (.slice b k c) = true := by simp [cellsOk, Value.cells, Value.oneCell']
theorem cok_func (f : Fn) (a b : Array Value) : cellsOk (.func f a b) = true := by simp [cellsOk, Value.cells, Value.oneCell']
theorem cok_nilFunc : cellsOk .nilFunc = true := by simp [cellsOk, Value.cells, Value.oneCell']
theorem cok_nilIface : cellsOk .nilIface = true := by simp [cellsOk, Value.cells, Value.oneCell']
theorem cok_iface (t : TypeId) (v : Value) : cellsOk (.iface t v) = true := by simp [cellsOk, Value.cells, Value.oneCell']
def oneAll : List Value → Bool
  | [] => true
  | v :: l => v.oneCell' && oneAll l
theorem oneAll_nil : oneAll [] = true := _root_.id rfl
theorem oneAll_cons (v : Value) (l : List Value) : oneAll (v :: l) = (v.oneCell' && oneAll l) := _root_.id rfl
theorem oneAll_eq (l : List Value) : l.all (·.oneCell') = oneAll l := by
  induction l with
  | nil => rfl
  | cons v l ih => simp [oneAll, ih]
theorem all_one (cs : Array Value) : cs.all (·.oneCell') = oneAll cs.toList := by rw [← oneAll_eq]; simp
theorem cok_agg (cs : Array Value) : cellsOk (.agg cs) = oneAll cs.toList := by rw [← all_one]; simp [cellsOk, Value.cells]
theorem one_int (k : IntKind) (m : Int) : Value.oneCell' (.int k m) = true := _root_.id rfl
theorem one_bool (b : Bool) : Value.oneCell' (.bool b) = true := _root_.id rfl
theorem one_string (b : ByteArray) : Value.oneCell' (.string b) = true := _root_.id rfl
theorem one_pointer (b : Option Addr) : Value.oneCell' (.pointer b) = true := _root_.id rfl
theorem one_slice (b : Option Addr) (k c : Nat) : Value.oneCell' (.slice b k c) = true := _root_.id rfl
theorem one_func (f : Fn) (a b : Array Value) : Value.oneCell' (.func f a b) = true := _root_.id rfl
theorem one_nilFunc : Value.oneCell' .nilFunc = true := _root_.id rfl
theorem one_nilIface : Value.oneCell' .nilIface = true := _root_.id rfl
theorem one_iface (t : TypeId) (v : Value) : Value.oneCell' (.iface t v) = true := _root_.id rfl

attribute [simp] oneAll_nil oneAll_cons Blk.put_def cells_int cells_bool cells_string cells_pointer cells_slice cells_func cells_nilFunc cells_nilIface cells_iface cells_agg cok_int cok_bool cok_string cok_pointer cok_slice cok_func cok_nilFunc cok_nilIface cok_iface cok_agg
  one_int one_bool one_string one_pointer one_slice one_func one_nilFunc one_nilIface one_iface
attribute [simp] upd_some upd_none tm0_zero tm0_succ tm0_nil evF_tmp evF_const evF_global evF_func lkF_upd lkF_updn lkF_zero lkF_succ lkF_nil asArgF_some asArgF_none evPartsF_nil evPartsF_cons gdst_zero gdst_succ aops_nil aops_cons aops_consG aopsD_nil aopsD_cons aopsD_consG
  astep_move astep_assign astep_pick astep_alloc astep_box astep_load astep_store astep_nilCheck astep_binOp astep_unOp astep_convert astep_makeInterface astep_makeFunc astep_makeFuncM astep_slice astep_fieldAddr astep_field astep_indexAddr astep_index astep_build astep_extract astep_makeSlice astep_buildSlice astep_builtin astep_value astep_invoke
  vc_skip vc_label vc_seq vc_cond vc_block vc_scope vc_draw vc_plain vc_ret vc_exit vc_loop vc_range apQ_then_normal apQ_then_ret apQ_then_exit apQ_block_normal apQ_block_ret apQ_block_exit apQ_scope_normal apQ_scope_ret apQ_scope_exit apQ_fn_normal apQ_fn_ret
attribute [simp low] lkF_def
attribute [simp] callV_yield gcmp_some bcmp_bool GuardF_true GuardF_false CondF_true CondF_false PureF_false OptF_some callV_func callMK_some callM_iface
attribute [simp]
  abin_add abin_sub abin_mul abin_quo abin_rem abin_and abin_or abin_xor abin_andNot abin_shl abin_shr abin_eql abin_neq abin_lss abin_leq abin_gtr abin_geq aun_not aun_neg
  abin_bool_eql abin_bool_neq abin_ptr_eql_nn abin_ptr_neq_nn abin_ptr_eql_sn abin_ptr_neq_sn abin_slice_eql_n abin_slice_neq_n abin_slice_eql_s abin_slice_neq_s abin_func_eql_n abin_func_neq_n abin_func_eql_s abin_func_neq_s abin_str_add
  someV_some apick_bool aalloc_some storeR_some aconv_int aconv_str aconv_toBytes aconv_nil aconv_ofBytes ifK_true fldAddr_some
  anilCheck_ptr anilCheck_func anilCheck_iface anilCheck_method anilM_some aextract_tuple isPtrT_ptr isSliceT_slice isFuncT_func isIfaceT_iface isBoolT_bool
  loadB_some aload_ptr partOf_none partOf_some storeB_some astore_ptr rowB_some rowAt_def Hp.set_set
  aindexAddr_def ixA_arr ixA_slice aindex_str ixS_true aindex_agg ixG_some afield_def fldV_some bnd_int bndD_none bndD_some aslice_str sliceS_some sliceS2_some aslice_slice sliceR_some aslice_ptr sliceP_some
  abuiltin_len lenR_some alen_str alen_slice alen_junk alen_arr abuiltin_min2 abuiltin_max2 abuiltin_append appR_some
  Hp.blks_set Hp.blks_alloc if_pos if_neg Hp.set_allocA setA_def
attribute [simp] aresult aresL ares

@[simp] theorem bcmp_und (b : Bool) : bcmp undef b = false := _root_.id rfl
/-- A number, out of a value. -/
def ivN : Value → Nat | .int _ i => i.toNat | _ => 0
theorem ivN_int (k : IntKind) (i : Int) : ivN (.int k i) = i.toNat := _root_.id rfl

end Go.Mini
