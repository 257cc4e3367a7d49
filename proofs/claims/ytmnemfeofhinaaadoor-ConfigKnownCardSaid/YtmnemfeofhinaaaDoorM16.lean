/-
  What the operations come to: a rule for each.
-/
import Derived.Test.YtmnemfeofhinaaaDoorM15
set_option linter.unusedSimpArgs false
set_option linter.unusedVariables false
set_option linter.unusedSectionVars false
namespace Go.Mini
open Go
variable [E : REnv]


section
variable {P : Program} {n : Nat} (t : Tm) (h : Hp) (K : Value → Hp → Prop)

/-- What is to be carried out later is left alone meanwhile: nothing rewrites what a type hangs on. -/
inductive Tag.{u} {α : Sort u} : α → Type u where
  | mk (a : α) : Tag a
def OptF (r : Option (Value × Hp)) (K : Value → Hp → Prop) (_ : Tag K) : Prop := OptK r K
def GuardF (b : Bool) (A C : Prop) (_ : Tag A) (_ : Tag C) : Prop := GuardK b A C
def CondF (v : Value) (A C : Prop) (_ : Tag A) (_ : Tag C) : Prop := CondV v A C
def callVF (P : Program) (f : Value) (args : List Value) (h : Hp) (K : Value → Hp → Prop) (_ : Tag K) : Prop := callV P f args h K
def callMF (P : Program) (f : Value) (m : String) (args : List Value) (h : Hp) (K : Value → Hp → Prop) (_ : Tag K) : Prop := callM P f m args h K
def ACallF (P : Program) (f : FuncId) (args : List Value) (h : Hp) (K : Value → Hp → Prop) (_ : Tag K) : Prop := ACall P f args h K
def PureF (b : Bool) (R : Nat → Prop) (op : Op) (t : Tm) (h h' : Hp) (X : Prop) (_ : Tag R) (_ : Tag op) (_ : Tag t) (_ : Tag h) (_ : Tag h') (_ : Tag X) : Prop := PureK b R op t h h' X
def RetF (P : Program) (rs : List ResultVar) (h : Hp) (K : Value → Hp → Prop) (t : Tm) (h1 : Hp) (_ : Tag rs) (_ : Tag h) (_ : Tag K) (_ : Tag t) (_ : Tag h1) : Prop := RetK P rs h K t h1
def AwpF (P : Program) (n : Nat) (c : Code) (Q : APost) (t : Tm) (h : Hp) (_ : Tag c) (_ : Tag Q) (_ : Tag t) (_ : Tag h) : Prop := Awp P n c Q t h
def SelF (b : Bool) (A C : Prop) (_ : Tag A) (_ : Tag C) : Prop := SelK b A C
def NeuF (P : Program) (val : List Value → Value) (op : Op) (t : Tm) (h : Hp) (K : Value → Prop) (_ : Tag (val, op, t, h, K)) : Prop := NeuK P val op t h K
theorem SelF_true (A C : Prop) (u : Tag A) (u' : Tag C) : SelF true A C u u' = A := _root_.id rfl
theorem SelF_false (A C : Prop) (u : Tag A) (u' : Tag C) : SelF false A C u u' = C := _root_.id rfl
theorem isNeu_def (l : List Nat) (i : Nat) : isNeu l i = l.contains (3000000 + i) := _root_.id rfl
theorem OptF_some (v : Value) (u : Tag K) : OptF (some (v, h)) K u = K v h := _root_.id rfl
theorem GuardF_true (A C : Prop) (u : Tag A) (u' : Tag C) : GuardF true A C u u' = A := _root_.id rfl
theorem GuardF_false (A C : Prop) (u : Tag A) (u' : Tag C) : GuardF false A C u u' = C := _root_.id rfl
theorem CondF_true (A C : Prop) (u : Tag A) (u' : Tag C) : CondF (.bool true) A C u u' = A := CondV_true A C
theorem CondF_false (A C : Prop) (u : Tag A) (u' : Tag C) : CondF (.bool false) A C u u' = C := CondV_false A C
theorem CondF_intro {b : Bool} {A C : Prop} {u : Tag A} {u' : Tag C} (h1 : b = true → A) (h2 : b = false → C) : CondF (.bool b) A C u u' := ⟨h1, h2⟩
theorem CondF_dec {p : Prop} [Decidable p] {A C : Prop} {u : Tag A} {u' : Tag C} (h1 : p → A) (h2 : ¬ p → C) : CondF (.bool (decide p)) A C u u' := ⟨fun h => h1 (of_decide_eq_true h), fun h => h2 (of_decide_eq_false h)⟩
theorem CondF_not {p : Prop} [Decidable p] {A C : Prop} {u : Tag A} {u' : Tag C} (h1 : ¬ p → A) (h2 : p → C) : CondF (.bool (!decide p)) A C u u' := ⟨fun h => h1 (by simpa using h), fun h => h2 (by simpa using h)⟩
theorem PureF_false (R : Nat → Prop) (op : Op) (t : Tm) (h h' : Hp) (X : Prop) (u1 : Tag R) (u2 : Tag op) (u3 : Tag t) (u4 : Tag h) (u5 : Tag h') (u : Tag X) : PureF false R op t h h' X u1 u2 u3 u4 u5 u = X := PureK_false R op t h h' X
theorem PureF_intro {b : Bool} {R : Nat → Prop} {op : Op} {t : Tm} {h h' : Hp} {X : Prop} {u1 : Tag R} {u2 : Tag op} {u3 : Tag t} {u4 : Tag h} {u5 : Tag h'} {u : Tag X} (h1 : SameR R h.next h h') (h2 : ReadIn R op t) (h3 : X) : PureF b R op t h h' X u1 u2 u3 u4 u5 u := ⟨fun _ => ⟨h1, h2⟩, h3⟩

/-! Frozen forms: a type hangs on all that is to wait. -/
def vcF (P : Program) (n : Nat) (tb : Nat → Marks) (c : Code) (Q : APost) (t : Tm) (h : Hp) (_ : Tag (tb, c, Q, t, h)) : Prop := vc P n tb c Q t h
def apQ (Q : APost) (e : Exit) (t : Tm) (h : Hp) (_ : Tag (Q, t, h)) : Prop := Q e t h
def aopsF (P : Program) (all : Array Oper) (l : List Oper) (K : Tm → Hp → Prop) (t : Tm) (h : Hp) (_ : Tag (all, l, K, t, h)) : Prop := aops P all l K t h
def aopsDF (P : Program) (all : Array Oper) (p : Marks) (i : Nat) (l : List Oper) (K : Tm → Hp → Prop) (t : Tm) (h : Hp) (_ : Tag (all, p, l, K, t, h)) : Prop := aopsD P all p i l K t h
def astepF (P : Program) (op : Op) (t : Tm) (h : Hp) (K : Value → Hp → Prop) (_ : Tag (op, t, h, K)) : Prop := astep P op t h K
def evF (t : Tm) (x : Operand) (_ : Tag (t, x)) : Value := ev t x
def lkF (t : Tm) (k : Nat) (_ : Tag t) : Value := t k
def asArgF (x : Option Operand) (t : Tm) (_ : Tag (x, t)) : Option Value := asArg x t
def ReadInF (R : Nat → Prop) (op : Op) (t : Tm) (_ : Tag (R, op, t)) : Prop := ReadIn R op t
theorem evF_tmp (k : Tmp) (u : Tag (t, Operand.tmp k)) : evF t (.tmp k) u = lkF t k (.mk _) := _root_.id rfl
theorem evF_const (v : Value) (u : Tag (t, Operand.const v)) : evF t (.const v) u = v := _root_.id rfl
theorem evF_global (g : Nat) (u : Tag (t, Operand.global g)) : evF t (.global g) u = .pointer (some ⟨100 + g, 0, none⟩) := _root_.id rfl
theorem evF_func (f : FuncId) (u : Tag (t, Operand.func f)) : evF t (.func f) u = .func (.func f) #[] #[] := _root_.id rfl
theorem lkF_upd (d : Tmp) (v : Value) (k : Nat) (u : Tag (upd t (some d) v)) : lkF (upd t (some d) v) k u = if k = d then v else lkF t k (.mk _) := _root_.id rfl
theorem lkF_updn (v : Value) (k : Nat) (u : Tag (upd t none v)) : lkF (upd t none v) k u = lkF t k (.mk _) := _root_.id rfl
theorem lkF_zero (v : Value) (l : List Value) (u : Tag (tm0 (v :: l))) : lkF (tm0 (v :: l)) 0 u = v := _root_.id rfl
theorem lkF_succ (v : Value) (l : List Value) (k : Nat) (u : Tag (tm0 (v :: l))) : lkF (tm0 (v :: l)) (k + 1) u = lkF (tm0 l) k (.mk _) := _root_.id rfl
theorem lkF_nil (k : Nat) (u : Tag (tm0 [])) : lkF (tm0 []) k u = undef := _root_.id rfl
theorem lkF_def (k : Nat) (u : Tag t) : lkF t k u = t k := _root_.id rfl
theorem asArgF_some (x : Operand) (u : Tag (some x, t)) : asArgF (some x) t u = some (evF t x (.mk _)) := _root_.id rfl
theorem asArgF_none (u : Tag ((none : Option Operand), t)) : asArgF none t u = none := _root_.id rfl

section vcs
variable {tb : Nat → Marks} {Q : APost}
theorem vc_skip (u : Tag (tb, Code.skip, Q, t, h)) : vcF P n tb .skip Q t h u = apQ Q .normal t h (.mk _) := _root_.id rfl
theorem vc_label (l : Nat) (u : Tag (tb, Code.label l, Q, t, h)) : vcF P n tb (.label l) Q t h u = apQ Q .normal t h (.mk _) := _root_.id rfl
theorem vc_seq (a b : Code) (u : Tag (tb, Code.seq a b, Q, t, h)) : vcF P n tb (.seq a b) Q t h u = vcF P n tb a (thenQ (fun t h => vcF P n tb b Q t h (.mk _)) Q) t h (.mk _) := _root_.id rfl
theorem vc_cond (c : Operand) (a b : Code) (u : Tag (tb, Code.cond c a b, Q, t, h)) : vcF P n tb (.cond c a b) Q t h u = CondF (evF t c (.mk _)) (vcF P n tb a Q t h (.mk _)) (vcF P n tb b Q t h (.mk _)) (.mk _) (.mk _) := _root_.id rfl
theorem vc_block (id : Nat) (b : Code) (u : Tag (tb, Code.block id b, Q, t, h)) : vcF P n tb (.block id b) Q t h u = vcF P n tb b (blockQ id Q) t h (.mk _) := _root_.id rfl
theorem vc_scope (b : Code) (u : Tag (tb, Code.scope b, Q, t, h)) : vcF P n tb (.scope b) Q t h u = vcF P n tb b (scopeQ Q) t h (.mk _) := _root_.id rfl
theorem vc_draw (id : Nat) (ops : List Oper) (u : Tag (tb, Code.region id ops.toArray true, Q, t, h)) : vcF P n tb (.region id ops.toArray true) Q t h u = if (tb id).l.contains 4000000 = true then AwpF P n (.region id ops.toArray true) Q t h (.mk _) (.mk _) (.mk _) (.mk _) else aopsDF P ops.toArray ((tb id).at h.next) 0 ops (fun t h => apQ Q .normal t h (.mk _)) t h (.mk _) := _root_.id rfl
theorem vc_plain (id : Nat) (ops : List Oper) (u : Tag (tb, Code.region id ops.toArray false, Q, t, h)) : vcF P n tb (.region id ops.toArray false) Q t h u = aopsF P ops.toArray ops (fun t h => apQ Q .normal t h (.mk _)) t h (.mk _) := _root_.id rfl
theorem vc_ret (u : Tag (tb, Code.ret, Q, t, h)) : vcF P n tb .ret Q t h u = apQ Q .ret t h (.mk _) := _root_.id rfl
theorem vc_exit (id : Nat) (u : Tag (tb, Code.exit id, Q, t, h)) : vcF P n tb (.exit id) Q t h u = apQ Q (.exit id) t h (.mk _) := _root_.id rfl
theorem vc_loop (b : Code) (u : Tag (tb, Code.loop b, Q, t, h)) : vcF P n tb (.loop b) Q t h u = AwpF P n (.loop b) Q t h (.mk _) (.mk _) (.mk _) (.mk _) := _root_.id rfl
theorem vc_range (g : Operand) (ps : Array Tmp) (a b : Code) (u : Tag (tb, Code.rangeFunc g ps a b, Q, t, h)) : vcF P n tb (.rangeFunc g ps a b) Q t h u = AwpF P n (.rangeFunc g ps a b) Q t h (.mk _) (.mk _) (.mk _) (.mk _) := _root_.id rfl
theorem apQ_then_normal (N : Tm → Hp → Prop) (u : Tag (thenQ N Q, t, h)) : apQ (thenQ N Q) .normal t h u = N t h := _root_.id rfl
theorem apQ_then_ret (N : Tm → Hp → Prop) (u : Tag (thenQ N Q, t, h)) : apQ (thenQ N Q) .ret t h u = apQ Q .ret t h (.mk _) := _root_.id rfl
theorem apQ_then_exit (N : Tm → Hp → Prop) (k : Nat) (u : Tag (thenQ N Q, t, h)) : apQ (thenQ N Q) (.exit k) t h u = apQ Q (.exit k) t h (.mk _) := _root_.id rfl
theorem apQ_block_normal (id : Nat) (u : Tag (blockQ id Q, t, h)) : apQ (blockQ id Q) .normal t h u = apQ Q .normal t h (.mk _) := _root_.id rfl
theorem apQ_block_ret (id : Nat) (u : Tag (blockQ id Q, t, h)) : apQ (blockQ id Q) .ret t h u = apQ Q .ret t h (.mk _) := _root_.id rfl
theorem apQ_block_exit (id k : Nat) (u : Tag (blockQ id Q, t, h)) : apQ (blockQ id Q) (.exit k) t h u = if k = id then apQ Q .normal t h (.mk _) else apQ Q (.exit k) t h (.mk _) := _root_.id rfl
theorem apQ_scope_normal (u : Tag (scopeQ Q, t, h)) : apQ (scopeQ Q) .normal t h u = apQ Q .normal t h (.mk _) := _root_.id rfl
theorem apQ_scope_ret (u : Tag (scopeQ Q, t, h)) : apQ (scopeQ Q) .ret t h u = apQ Q .ret t h (.mk _) := _root_.id rfl
theorem apQ_scope_exit (k : Nat) (u : Tag (scopeQ Q, t, h)) : apQ (scopeQ Q) (.exit k) t h u = apQ Q (.exit k) t h (.mk _) := _root_.id rfl
theorem apQ_fn_normal (rs : List ResultVar) (h0 : Hp) (u : Tag (FnQ P rs h0 K, t, h)) : apQ (FnQ P rs h0 K) .normal t h u = RetF P rs h0 K t h (.mk _) (.mk _) (.mk _) (.mk _) (.mk _) := _root_.id rfl
theorem apQ_fn_ret (rs : List ResultVar) (h0 : Hp) (u : Tag (FnQ P rs h0 K, t, h)) : apQ (FnQ P rs h0 K) .ret t h u = RetF P rs h0 K t h (.mk _) (.mk _) (.mk _) (.mk _) (.mk _) := _root_.id rfl
theorem vcF_sound (hm : P.follows .mixedOrders = true) (c : Code) {t : Tm} {h : Hp} (hok : okCode P n tb c = true) (hv : vcF P n tb c Q t h (.mk _)) : Awp P n c Q t h := vc_sound hm c hok hv
end vcs

def someV (r : Option Value) (h : Hp) : Option (Value × Hp) := match r with | some v => some (v, h) | none => none
theorem someV_some (v : Value) : someV (some v) h = some (v, h) := _root_.id rfl

theorem astep_move (x : Operand) (u : Tag (((.move x) : Op), t, h, K)) : astepF P (.move x) t h K u = OptF (some (evF t x (.mk _), h)) K (.mk K) := _root_.id rfl
theorem astep_assign (x : Operand) (u : Tag (((.assign x) : Op), t, h, K)) : astepF P (.assign x) t h K u = OptF (some (evF t x (.mk _), h)) K (.mk K) := _root_.id rfl
def apick (c a b : Value) : Option Value := match c with | .bool q => some (if q = true then a else b) | _ => none
theorem apick_bool (q : Bool) (a b : Value) : apick (.bool q) a b = some (if q = true then a else b) := _root_.id rfl
theorem astep_pick (c a b : Operand) (u : Tag (((.pick c a b) : Op), t, h, K)) : astepF P (.pick c a b) t h K u = OptF (someV (apick (evF t c (.mk _)) (evF t a (.mk _)) (evF t b (.mk _))) h) K (.mk K) := by
  show OptK (match ev t c with | .bool q => some (if q = true then ev t a else ev t b, h) | _ => none) K = OptK (someV (apick (ev t c) (ev t a) (ev t b)) h) K
  cases ev t c <;> rfl
def aalloc (z : Option (Array Value)) (h : Hp) : Option (Value × Hp) := match z with | some z => some (.pointer (some ⟨h.next, 0, none⟩), h.alloc ⟨z, 1, true⟩) | none => none
theorem aalloc_some (z : Array Value) : aalloc (some z) h = some (.pointer (some ⟨h.next, 0, none⟩), h.alloc ⟨z, 1, true⟩) := _root_.id rfl
theorem astep_alloc (ty : TypeId) (u : Tag (((.alloc ty) : Op), t, h, K)) : astepF P (.alloc ty) t h K u = OptF (aalloc (zeroOf P ty) h) K (.mk K) := _root_.id rfl
theorem astep_box (ty : TypeId) (x : Operand) (u : Tag (((.box ty x) : Op), t, h, K)) : astepF P (.box ty x) t h K u = OptF (if cellsOk (evF t x (.mk _)) = true then some (.pointer (some ⟨h.next, 0, none⟩), h.alloc ⟨(evF t x (.mk _)).cells, 1, true⟩) else none) K (.mk K) := _root_.id rfl
theorem astep_load (ty : TypeId) (x : Operand) (u : Tag (((.load ty x) : Op), t, h, K)) : astepF P (.load ty x) t h K u = OptF (someV (aload P ty h (evF t x (.mk _))) h) K (.mk K) := _root_.id rfl
def storeR (r : Option Hp) : Option (Value × Hp) := match r with | some h => some (undef, h) | none => none
theorem storeR_some : storeR (some h) = some (undef, h) := _root_.id rfl
theorem astep_store (ty : TypeId) (x v : Operand) (u : Tag (((.store ty x v) : Op), t, h, K)) : astepF P (.store ty x v) t h K u = OptF (storeR (astore P ty h (evF t x (.mk _)) (evF t v (.mk _)))) K (.mk K) := _root_.id rfl
theorem astep_nilCheck (x : Operand) (u : Tag (((.nilCheck x) : Op), t, h, K)) : astepF P (.nilCheck x) t h K u = OptF (someV (anilCheckP P (evF t x (.mk _))) h) K (.mk K) := _root_.id rfl
theorem astep_binOp (op : BinOp) (ty ty' : TypeId) (x y : Operand) (u : Tag (((.binOp op ty x y ty') : Op), t, h, K)) : astepF P (.binOp op ty x y ty') t h K u = OptF (someV (abin P op ty x y (evF t x (.mk _)) (evF t y (.mk _))) h) K (.mk K) := _root_.id rfl
theorem astep_unOp (op : UnOp) (ty : TypeId) (x : Operand) (u : Tag (((.unOp op ty x) : Op), t, h, K)) : astepF P (.unOp op ty x) t h K u = OptF (someV (aun P op (evF t x (.mk _))) h) K (.mk K) := _root_.id rfl
def aconv (c : Cv) (x : Value) (h : Hp) : Option (Value × Hp) :=
  match c, x with
  | .int k, .int _ n => some (.int k (k.wrap n), h)
  | .str, .string s => some (.string s, h)
  | .toBytes _, .string s => some (.slice (some ⟨h.next, 0, none⟩) s.size (2 * s.size + 1), h.alloc ⟨(s.data.toList.map byteV).toArray, 1, true⟩)
  | .ofBytes, .slice none _ _ => some (.string ⟨#[]⟩, h)
  | .ofBytes, .slice (some a) n _ => match rowAt h a n with
    | some cs => match strOf cs.toList with
      | some l => some (.string ⟨l.toArray⟩, h)
      | none => none
    | none => none
  | _, _ => none
theorem astep_convert (s d : TypeId) (x : Operand) (u : Tag (((.convert s d x) : Op), t, h, K)) : astepF P (.convert s d x) t h K u = OptF (aconv (cvOf P s d) (evF t x (.mk _)) h) K (.mk K) := _root_.id rfl
theorem aconv_int (k k' : IntKind) (m : Int) : aconv (.int k) (.int k' m) h = some (.int k (k.wrap m), h) := _root_.id rfl
theorem aconv_str (s : ByteArray) : aconv .str (.string s) h = some (.string s, h) := _root_.id rfl
theorem aconv_toBytes (e : TypeId) (s : ByteArray) : aconv (.toBytes e) (.string s) h = some (.slice (some ⟨h.next, 0, none⟩) s.size (2 * s.size + 1), h.alloc ⟨(s.data.toList.map byteV).toArray, 1, true⟩) := _root_.id rfl
theorem aconv_nil (k c : Nat) : aconv .ofBytes (.slice none k c) h = some (.string ⟨#[]⟩, h) := _root_.id rfl
def ofBytes (r : Option (Array Value)) (h : Hp) : Option (Value × Hp) := match r with
    | some cs => match strOf cs.toList with
      | some l => some (.string ⟨l.toArray⟩, h)
      | none => none
    | none => none
theorem aconv_ofBytes (a : Addr) (k c : Nat) : aconv .ofBytes (.slice (some a) k c) h = ofBytes (rowAt h a k) h := _root_.id rfl
def ifK (b : Bool) (v : Value) (h : Hp) : Option (Value × Hp) := if b = true then some (v, h) else none
theorem ifK_true (v : Value) : ifK true v h = some (v, h) := _root_.id rfl
def ifaceOk (P : Program) (ty : TypeId) : Bool := (P.underlying ty).isSome && !isIface P ty
theorem astep_makeInterface (ty : TypeId) (x : Operand) (u : Tag (((.makeInterface ty x) : Op), t, h, K)) : astepF P (.makeInterface ty x) t h K u = OptF (ifK (ifaceOk P ty) (.iface ty (evF t x (.mk _))) h) K (.mk K) := by
  show OptK (if (P.underlying ty).isSome ∧ isIface P ty = false then some (.iface ty (ev t x), h) else none) K = OptK (ifK (ifaceOk P ty) (.iface ty (ev t x)) h) K
  unfold ifK ifaceOk
  cases (P.underlying ty).isSome <;> cases isIface P ty <;> simp
theorem astep_makeFunc (f : FuncId) (a b : Array Operand) (u : Tag (((.makeFunc (.func f) a b) : Op), t, h, K)) : astepF P (.makeFunc (.func f) a b) t h K u = OptF (some (.func (.func f) (a.map (fun x => evF t x (.mk _))) (b.map (fun x => evF t x (.mk _))), h)) K (.mk K) := _root_.id rfl
theorem astep_makeFuncM (f : String) (a b : Array Operand) (u : Tag (((.makeFunc (.method f) a b) : Op), t, h, K)) : astepF P (.makeFunc (.method f) a b) t h K u = OptF (some (.func (.method f) (a.map (fun x => evF t x (.mk _))) (b.map (fun x => evF t x (.mk _))), h)) K (.mk K) := _root_.id rfl
theorem astep_slice (ty : TypeId) (x : Operand) (lo hi mx : Option Operand) (u : Tag (((.slice ty x lo hi mx) : Op), t, h, K)) : astepF P (.slice ty x lo hi mx) t h K u = OptF (someV (aslice P ty (evF t x (.mk _)) (asArgF lo t (.mk _)) (asArgF hi t (.mk _)) (asArgF mx t (.mk _))) h) K (.mk K) := _root_.id rfl
def fldAddr (o : Option Nat) (x : Value) : Option Value := match o, x with | some off, .pointer (some a) => some (.pointer (some ⟨a.block, a.off + off, none⟩)) | _, _ => none
theorem fldAddr_some (off : Nat) (a : Addr) : fldAddr (some off) (.pointer (some a)) = some (.pointer (some ⟨a.block, a.off + off, none⟩)) := _root_.id rfl
theorem astep_fieldAddr (s : TypeId) (x : Operand) (f : Nat) (u : Tag (((.fieldAddr s x f) : Op), t, h, K)) : astepF P (.fieldAddr s x f) t h K u = OptF (someV (fldAddr (fldOff P s f) (evF t x (.mk _))) h) K (.mk K) := by
  show OptK (match fldOff P s f, ev t x with | some off, .pointer (some a) => some (.pointer (some ⟨a.block, a.off + off, none⟩), h) | _, _ => none) K = OptK (someV (fldAddr (fldOff P s f) (ev t x)) h) K
  cases fldOff P s f with
  | none => rfl
  | some o =>
    cases ev t x
    case pointer a => cases a <;> rfl
    all_goals rfl
theorem astep_field (s : TypeId) (x : Operand) (f : Nat) (u : Tag (((.field s x f) : Op), t, h, K)) : astepF P (.field s x f) t h K u = OptF (someV (afield P s (evF t x (.mk _)) f) h) K (.mk K) := _root_.id rfl
theorem astep_indexAddr (ty : TypeId) (x i : Operand) (u : Tag (((.indexAddr ty x i) : Op), t, h, K)) : astepF P (.indexAddr ty x i) t h K u = OptF (someV (aindexAddr P ty (evF t x (.mk _)) (evF t i (.mk _))) h) K (.mk K) := _root_.id rfl
theorem astep_index (ty : TypeId) (x i : Operand) (u : Tag (((.index ty x i) : Op), t, h, K)) : astepF P (.index ty x i) t h K u = OptF (someV (aindex P ty (evF t x (.mk _)) (evF t i (.mk _))) h) K (.mk K) := _root_.id rfl
def evParts (t : Tm) : List (Nat × Operand) → List (Nat × Value)
  | [] => []
  | (i, x) :: l => (i, ev t x) :: evParts t l
theorem evParts_eq (t : Tm) (l : List (Nat × Operand)) : l.map (fun p => (p.1, ev t p.2)) = evParts t l := by
  induction l with
  | nil => rfl
  | cons p l ih => simp only [List.map_cons, ih]; rfl
def evPartsF (t : Tm) (l : List (Nat × Operand)) (_ : Tag (t, l)) : List (Nat × Value) := evParts t l
theorem evPartsF_nil (t : Tm) (u : Tag (t, ([] : List (Nat × Operand)))) : evPartsF t [] u = [] := _root_.id rfl
theorem evPartsF_cons (t : Tm) (i : Nat) (x : Operand) (l : List (Nat × Operand)) (u : Tag (t, (i, x) :: l)) : evPartsF t ((i, x) :: l) u = (i, evF t x (.mk _)) :: evPartsF t l (.mk _) := _root_.id rfl
theorem astep_build (ty : TypeId) (ps : List (Nat × Operand)) (u : Tag (((.build ty ps.toArray) : Op), t, h, K)) : astepF P (.build ty ps.toArray) t h K u = OptF (someV (abuild P ty (evPartsF t ps (.mk _))) h) K (.mk K) := by
  show OptK (someV (abuild P ty (ps.map fun p => (p.1, ev t p.2))) h) K = OptK (someV (abuild P ty (evParts t ps)) h) K
  rw [evParts_eq]
theorem astep_extract (x : Operand) (i : Nat) (u : Tag (((.extract x i) : Op), t, h, K)) : astepF P (.extract x i) t h K u = OptF (someV (aextract (evF t x (.mk _)) i) h) K (.mk K) := _root_.id rfl
theorem astep_makeSlice (ty : TypeId) (l c : Operand) (u : Tag (((.makeSlice ty l c) : Op), t, h, K)) : astepF P (.makeSlice ty l c) t h K u = OptF (amake P ty (evF t l (.mk _)) (evF t c (.mk _)) h) K (.mk K) := _root_.id rfl
theorem astep_buildSlice (ty : TypeId) (len : Nat) (ps : List (Nat × Operand)) (u : Tag (((.buildSlice ty len ps.toArray) : Op), t, h, K)) : astepF P (.buildSlice ty len ps.toArray) t h K u = OptF (abuildSlice P ty len (evPartsF t ps (.mk _)) h) K (.mk K) := by
  show OptK (abuildSlice P ty len (ps.map fun p => (p.1, ev t p.2)) h) K = OptK (abuildSlice P ty len (evParts t ps) h) K
  rw [evParts_eq]
theorem astep_builtin (b : Builtin) (as : Array Operand) (tys : Array TypeId) (u : Tag (((.call ⟨.builtin b, as, tys⟩) : Op), t, h, K)) : astepF P (.call ⟨.builtin b, as, tys⟩) t h K u = OptF (abuiltin P b tys (as.toList.map (fun x => evF t x (.mk _))) h) K (.mk K) := _root_.id rfl
theorem astep_value (f : Operand) (as : Array Operand) (tys : Array TypeId) (u : Tag (((.call ⟨.value f, as, tys⟩) : Op), t, h, K)) : astepF P (.call ⟨.value f, as, tys⟩) t h K u = callVF P (evF t f (.mk _)) (as.toList.map (fun x => evF t x (.mk _))) h K (.mk K) := _root_.id rfl
theorem astep_invoke (r : Operand) (m : String) (as : Array Operand) (tys : Array TypeId) (u : Tag (((.call ⟨.invoke r m, as, tys⟩) : Op), t, h, K)) : astepF P (.call ⟨.invoke r m, as, tys⟩) t h K u = callMF P (evF t r (.mk _)) m (as.toList.map (fun x => evF t x (.mk _))) h K (.mk K) := _root_.id rfl
def YCallF (P : Program) (L : Nat) (args : List Value) (h : Hp) (K : Value → Hp → Prop) (_ : Tag K) : Prop := YCall P L args h K
theorem NeuF_intro {val : List Value → Value} {f : Operand} {as : Array Operand} {tys : Array TypeId} {t : Tm} {h : Hp} {K : Value → Prop} {u : Tag (val, (.call ⟨.value f, as, tys⟩ : Op), t, h, K)} (v : Value) (hv : val (as.toList.map (fun x => evF t x (.mk _))) = v) (h0 : vtop v = 0)
    (hc : ∀ h', astepF P (.call ⟨.value f, as, tys⟩) t h' (fun u h'' => u = v ∧ h'' = h') (.mk _)) (hk : K v) : NeuF P val (.call ⟨.value f, as, tys⟩) t h K u := by
  have e : val ((argsOf (.call ⟨.value f, as, tys⟩)).map (ev t)) = v := hv
  refine ⟨by rw [e]; exact h0, ?_, by rw [e]; exact hk⟩
  rw [e]; exact hc
theorem callV_yield (L : Nat) (as : List Value) (u : Tag K) : callVF P (.func (.yield L) #[] #[]) as h K u = (E.can = true ∧ YCallF P L as h K (.mk K)) := _root_.id rfl
theorem callV_func (f : FuncId) (a b : Array Value) (as : List Value) (u : Tag K) : callVF P (.func (.func f) a b) as h K u = ACallF P f (a.toList ++ as ++ b.toList) h K (.mk K) := _root_.id rfl
def callMK (P : Program) (g : Option FuncId) (v : Value) (as : List Value) (h : Hp) (K : Value → Hp → Prop) (_ : Tag K) : Prop := match g with | some g => ACall P g (v :: as) h K | none => False
theorem callMK_some (g : FuncId) (v : Value) (as : List Value) (u : Tag K) : callMK P (some g) v as h K u = ACallF P g (v :: as) h K (.mk K) := _root_.id rfl
theorem callM_iface (ty : TypeId) (v : Value) (m : String) (as : List Value) (u : Tag K) : callMF P (.iface ty v) m as h K u = callMK P (methOf P ty m) v as h K (.mk K) := _root_.id rfl

theorem anilCheck_ptr (a : Addr) : anilCheckP P (.pointer (some a)) = some (.pointer (some a)) := _root_.id rfl
theorem anilCheck_func (f : FuncId) (a b : Array Value) : anilCheckP P (.func (.func f) a b) = some (.func (.func f) a b) := _root_.id rfl
theorem anilCheck_iface (ty : TypeId) (v : Value) : anilCheckP P (.iface ty v) = some (.iface ty v) := _root_.id rfl
def anilM (r : Option FuncId) (v : Value) : Option Value := if r.isSome = true then some v else none
theorem anilM_some (f : FuncId) (v : Value) : anilM (some f) v = some v := _root_.id rfl
theorem anilCheck_method (m : String) (ty : TypeId) (v : Value) (b : Array Value) : anilCheckP P (.func (.method m) #[.iface ty v] b) = anilM (methOf P ty m) (.func (.method m) #[.iface ty v] b) := _root_.id rfl
theorem aextract_tuple (vs : Array Value) (i : Nat) : aextract (.tuple vs) i = vs[i]? := _root_.id rfl

theorem isPtrT_ptr (e : TypeId) : isPtrT (some (.pointer e)) = true := _root_.id rfl
theorem isSliceT_slice (e : TypeId) : isSliceT (some (.slice e)) = true := _root_.id rfl
theorem isFuncT_func (a b : Array TypeId) (c : Bool) : isFuncT (some (.func a b c)) = true := _root_.id rfl
theorem isIfaceT_iface (e : Array (String × TypeId)) : isIfaceT (some (.interface e)) = true := _root_.id rfl
theorem isBoolT_bool : isBoolT (some .bool) = true := _root_.id rfl

/-! ### Guards -/
def gdst : List Oper → Nat → Option Tmp
  | [], _ => none
  | o :: _, 0 => o.dst
  | _ :: l, k + 1 => gdst l k
theorem gdst_eq (l : List Oper) (k : Nat) : gdst l k = (l[k]?).bind (·.dst) := by
  induction l generalizing k with
  | nil => simp [gdst]
  | cons o l ih => cases k with
    | zero => simp [gdst]
    | succ k => simp [gdst, ih]
def gdstF (l : List Oper) (k : Nat) (_ : Tag l) : Option Tmp := gdst l k
theorem gdst_zero (d : Option Tmp) (op : Op) (ty : TypeId) (pos : String) (af : Array Edge) (g : Option (Nat × Bool)) (l : List Oper) (u : Tag ((⟨d, op, ty, pos, af, g⟩ : Oper) :: l)) : gdstF (⟨d, op, ty, pos, af, g⟩ :: l) 0 u = d := _root_.id rfl
theorem gdst_succ (o : Oper) (l : List Oper) (k : Nat) (u : Tag (o :: l)) : gdstF (o :: l) (k + 1) u = gdstF l k (.mk _) := _root_.id rfl
def bcmp (v : Value) (w : Bool) : Bool := match v with | .bool b => b == w | _ => false
theorem bcmp_bool (b w : Bool) : bcmp (.bool b) w = (b == w) := _root_.id rfl
def gcmp (d : Option Tmp) (t : Tm) (w : Bool) (_ : Tag t) : Bool := match d with | some d => bcmp (t d) w | none => false
theorem gcmp_some (d : Tmp) (w : Bool) (u : Tag t) : gcmp (some d) t w u = bcmp (lkF t d (.mk _)) w := _root_.id rfl
theorem wantedA_some (all : List Oper) (d : Option Tmp) (op : Op) (ty : TypeId) (pos : String) (af : Array Edge) (j : Nat) (w : Bool) : wantedA all.toArray ⟨d, op, ty, pos, af, some (j, w)⟩ t = gcmp (gdst all j) t w (.mk t) := by
  unfold wantedA gval gcmp
  simp only [gdst_eq, List.getElem?_toArray]
  cases (all[j]?.bind (·.dst)) with
  | none => rfl
  | some d =>
    simp only [bcmp]
    cases t d <;> rfl
section
variable (KT : Tm → Hp → Prop)
theorem aops_nil (all : Array Oper) (u : Tag (all, ([] : List Oper), KT, t, h)) : aopsF P all [] KT t h u = KT t h := _root_.id rfl
theorem aops_cons (all : Array Oper) (d : Option Tmp) (op : Op) (ty : TypeId) (pos : String) (af : Array Edge) (l : List Oper) (u : Tag (all, (⟨d, op, ty, pos, af, none⟩ : Oper) :: l, KT, t, h)) : aopsF P all (⟨d, op, ty, pos, af, none⟩ :: l) KT t h u = astepF P op t h (fun v h' => aopsF P all l KT (upd t d v) h' (.mk _)) (.mk _) := _root_.id rfl
theorem aops_consG (all : List Oper) (d : Option Tmp) (op : Op) (ty : TypeId) (pos : String) (af : Array Edge) (j : Nat) (w : Bool) (l : List Oper) (u : Tag (all.toArray, (⟨d, op, ty, pos, af, some (j, w)⟩ : Oper) :: l, KT, t, h)) : aopsF P all.toArray (⟨d, op, ty, pos, af, some (j, w)⟩ :: l) KT t h u =
    GuardF (gcmp (gdstF all j (.mk _)) t w (.mk t)) (astepF P op t h (fun v h' => aopsF P all.toArray l KT (upd t d v) h' (.mk _)) (.mk _)) (aopsF P all.toArray l KT (upd t d undef) h (.mk _)) (.mk _) (.mk _) := by
  show GuardK (wantedA all.toArray ⟨d, op, ty, pos, af, some (j, w)⟩ t) _ _ = _
  rw [wantedA_some t all d op ty pos af j w]; rfl
theorem aopsD_nil (all : Array Oper) (p : Marks) (i : Nat) (u : Tag (all, p, ([] : List Oper), KT, t, h)) : aopsDF P all p i [] KT t h u = KT t h := _root_.id rfl
theorem aopsD_cons (all : Array Oper) (p : Marks) (i : Nat) (d : Option Tmp) (op : Op) (ty : TypeId) (pos : String) (af : Array Edge) (l : List Oper) (u : Tag (all, p, (⟨d, op, ty, pos, af, none⟩ : Oper) :: l, KT, t, h)) : aopsDF P all p i (⟨d, op, ty, pos, af, none⟩ :: l) KT t h u = SelF (p.l.contains (3000000 + i)) (NeuF P (p.nv.f i) op t h (fun v => aopsDF P all p (i + 1) l KT (upd t d v) h (.mk _)) (.mk _)) (astepF P op t h (fun v h' => PureF (p.l.contains i) p.R op t h h' (aopsDF P all p (i + 1) l KT (upd t d v) h' (.mk _)) (.mk _) (.mk _) (.mk _) (.mk _) (.mk _) (.mk _)) (.mk _)) (.mk _) (.mk _) := _root_.id rfl
theorem aopsD_consG (all : List Oper) (p : Marks) (i : Nat) (d : Option Tmp) (op : Op) (ty : TypeId) (pos : String) (af : Array Edge) (j : Nat) (w : Bool) (l : List Oper) (u : Tag (all.toArray, p, (⟨d, op, ty, pos, af, some (j, w)⟩ : Oper) :: l, KT, t, h)) : aopsDF P all.toArray p i (⟨d, op, ty, pos, af, some (j, w)⟩ :: l) KT t h u =
    GuardF (gcmp (gdstF all j (.mk _)) t w (.mk t)) (SelF (p.l.contains (3000000 + i)) (NeuF P (p.nv.f i) op t h (fun v => aopsDF P all.toArray p (i + 1) l KT (upd t d v) h (.mk _)) (.mk _)) (astepF P op t h (fun v h' => PureF (p.l.contains i) p.R op t h h' (aopsDF P all.toArray p (i + 1) l KT (upd t d v) h' (.mk _)) (.mk _) (.mk _) (.mk _) (.mk _) (.mk _) (.mk _)) (.mk _)) (.mk _) (.mk _)) (aopsDF P all.toArray p (i + 1) l KT (upd t d undef) h (.mk _)) (.mk _) (.mk _) := by
  show GuardK (wantedA all.toArray ⟨d, op, ty, pos, af, some (j, w)⟩ t) _ _ = _
  rw [wantedA_some t all d op ty pos af j w]; rfl
end
/-! ### Memory -/
def loadB (z : Option (Option Nat)) (b : Option Blk) (off : Nat) : Option Value := match z with | some z => (match b with | some b => partOf z b.cells off | none => none) | none => none
theorem loadB_some (z : Option Nat) (b : Blk) (off : Nat) : loadB (some z) (some b) off = partOf z b.cells off := _root_.id rfl
theorem aload_ptr (ty : TypeId) (a : Addr) : aload P ty h (.pointer (some a)) = loadB (aggSz P ty) (h.blks a.block) a.off := _root_.id rfl
theorem partOf_none (cs : Array Value) (off : Nat) : partOf none cs off = cs[off]? := _root_.id rfl
theorem partOf_some (k : Nat) (cs : Array Value) (off : Nat) : partOf (some k) cs off = if off + k ≤ cs.size then some (.agg (cs.extract off (off + k))) else none := _root_.id rfl
def storeB (z : Option Nat) (b : Option Blk) (h : Hp) (i off : Nat) (v : Value) : Option Hp := match b with
    | some b => if b.own = true ∧ z = some v.cells.size ∧ off + v.cells.size ≤ b.cells.size ∧ cellsOk v = true
      then some (h.set i (b.put off v.cells.toList)) else none
    | none => none
theorem storeB_some (z : Option Nat) (b : Blk) (i off : Nat) (v : Value) : storeB z (some b) h i off v = if b.own = true ∧ z = some v.cells.size ∧ off + v.cells.size ≤ b.cells.size ∧ cellsOk v = true
      then some (h.set i (b.put off v.cells.toList)) else none := rfl
theorem astore_ptr (ty : TypeId) (a : Addr) (v : Value) : astore P ty h (.pointer (some a)) v = storeB (szOf P ty) (h.blks a.block) h a.block a.off v := _root_.id rfl
def rowB (b : Option Blk) (off k : Nat) : Option (Array Value) := match b with | some b => if off + k ≤ b.cells.size then some (b.cells.extract off (off + k)) else none | none => none
theorem rowB_some (b : Blk) (off k : Nat) : rowB (some b) off k = if off + k ≤ b.cells.size then some (b.cells.extract off (off + k)) else none := _root_.id rfl
theorem rowAt_def (a : Addr) (k : Nat) : rowAt h a k = rowB (h.blks a.block) a.off k := _root_.id rfl

theorem Hp.set_alloc (b c : Blk) (i : Nat) (hi : i = h.next) : (h.alloc b).set i c = h.alloc c := by
  subst hi
  unfold Hp.set Hp.alloc; simp only; congr 1; funext j; by_cases hj : j = h.next <;> simp [hj]
theorem Hp.alloc_set (b c : Blk) (i : Nat) (hi : i < h.next) : (h.alloc b).set i c = (h.set i c).alloc b := by
  unfold Hp.set Hp.alloc; simp only; congr 1; funext j
  by_cases hj : j = i
  · have : j ≠ h.next := by omega
    simp [hj]; intro h'; omega
  · simp [hj]

/-! ### Indices -/
def ixA (r : Option (Option Nat × Nat × Option Nat)) (x i : Value) : Option Value :=
  match r with
  | some (some n, esz, _) => match x, i with
    | .pointer (some a), .int _ j => if 0 ≤ j ∧ j < n then some (.pointer (some ⟨a.block, a.off + j.toNat * esz, none⟩)) else none
    | _, _ => none
  | some (none, esz, _) => match x, i with
    | .slice (some a) len _, .int _ j => if 0 ≤ j ∧ j < len then some (.pointer (some ⟨a.block, a.off + j.toNat * esz, none⟩)) else none
    | _, _ => none
  | none => none
theorem aindexAddr_def (ty : TypeId) (x i : Value) : aindexAddr P ty x i = ixA (ixInfo P ty) x i := _root_.id rfl
theorem ixA_arr (m esz : Nat) (z : Option Nat) (a : Addr) (k : IntKind) (j : Int) (hj : 0 ≤ j ∧ j < m) : ixA (some (some m, esz, z)) (.pointer (some a)) (.int k j) = some (.pointer (some ⟨a.block, a.off + j.toNat * esz, none⟩)) := by
  unfold ixA; simp only; rw [if_pos hj]
theorem ixA_slice (esz : Nat) (z : Option Nat) (a : Addr) (len cap : Nat) (k : IntKind) (j : Int) (hj : 0 ≤ j ∧ j < len) : ixA (some (none, esz, z)) (.slice (some a) len cap) (.int k j) = some (.pointer (some ⟨a.block, a.off + j.toNat * esz, none⟩)) := by
  unfold ixA; simp only; rw [if_pos hj]
def ixS (b : Bool) (s : ByteArray) (i : Value) : Option Value := if b = true then match i with
      | .int _ j => if 0 ≤ j ∧ j < s.size then some (.int .u8 (bAt s j.toNat)) else none
      | _ => none
    else none
theorem aindex_str (ty : TypeId) (s : ByteArray) (i : Value) : aindex P ty (.string s) i = ixS (isStr P ty) s i := by unfold aindex ixS; rfl
theorem ixS_true (s : ByteArray) (k : IntKind) (j : Int) (hj : 0 ≤ j ∧ j < s.size) : ixS true s (.int k j) = some (.int .u8 (bAt s j.toNat)) := by
  unfold ixS; simp only [if_true]; rw [if_pos hj]
def ixG (r : Option (Option Nat × Nat × Option Nat)) (cs : Array Value) (i : Value) : Option Value :=
  match r with
    | some (some n, esz, z) => match i with
      | .int _ j => if 0 ≤ j ∧ j < n then partOf z cs (j.toNat * esz) else none
      | _ => none
    | _ => none
theorem aindex_agg (ty : TypeId) (cs : Array Value) (i : Value) : aindex P ty (.agg cs) i = ixG (ixInfo P ty) cs i := _root_.id rfl
theorem ixG_some (m esz : Nat) (z : Option Nat) (cs : Array Value) (k : IntKind) (j : Int) (hj : 0 ≤ j ∧ j < m) : ixG (some (some m, esz, z)) cs (.int k j) = partOf z cs (j.toNat * esz) := by
  unfold ixG; simp only; rw [if_pos hj]
def fldV (r : Option (Nat × Option Nat)) (x : Value) : Option Value := match r, x with | some (off, z), .agg cs => partOf z cs off | _, _ => none
theorem afield_def (ty : TypeId) (x : Value) (f : Nat) : afield P ty x f = fldV (fldPart P ty f) x := _root_.id rfl
theorem fldV_some (off : Nat) (z : Option Nat) (cs : Array Value) : fldV (some (off, z)) (.agg cs) = partOf z cs off := _root_.id rfl

/-! ### Slices -/
theorem bnd_int (k : IntKind) (i : Int) (y : Nat) (hi : 0 ≤ i ∧ i ≤ y) : bnd (.int k i) y = some i.toNat := by unfold bnd; simp only; rw [if_pos hi]
theorem bndD_none (y d : Nat) : bndD none y d = some d := _root_.id rfl
theorem bndD_some (v : Value) (y d : Nat) : bndD (some v) y d = bnd v y := _root_.id rfl
def sliceS2 (s : ByteArray) (m : Nat) (lo : Option Nat) : Option Value := match lo with
    | some l => some (.string (s.extract l m))
    | none => none
theorem sliceS2_some (s : ByteArray) (m l : Nat) : sliceS2 s m (some l) = some (.string (s.extract l m)) := _root_.id rfl
def sliceS (b : Bool) (s : ByteArray) (hi : Option Nat) (lo : Option Value) : Option Value := if b = true then match hi with
  | some h => sliceS2 s h (bndD lo h 0)
  | none => none else none
theorem aslice_str (ty : TypeId) (s : ByteArray) (lo hi : Option Value) : aslice P ty (.string s) lo hi none = sliceS (isStr P ty) s (bndD hi s.size s.size) lo := by
  unfold aslice sliceS asliceStr
  simp only [Option.isNone_none, and_true]
  rfl
theorem sliceS_some (s : ByteArray) (m : Nat) (lo : Option Value) : sliceS true s (some m) lo = sliceS2 s m (bndD lo m 0) := _root_.id rfl
def sliceR (r : Option (Option Nat × Nat × Option Nat)) (a : Addr) (len cap : Nat) (lo hi mx : Option Value) : Option Value := match r with
    | some (none, esz, _) => asliceRow a esz len cap lo hi mx
    | _ => none
theorem aslice_slice (ty : TypeId) (a : Addr) (len cap : Nat) (lo hi mx : Option Value) : aslice P ty (.slice (some a) len cap) lo hi mx = sliceR (ixInfo P ty) a len cap lo hi mx := _root_.id rfl
theorem sliceR_some (esz : Nat) (z : Option Nat) (a : Addr) (len cap : Nat) (lo hi mx : Option Value) : sliceR (some (none, esz, z)) a len cap lo hi mx = asliceRow a esz len cap lo hi mx := _root_.id rfl
def sliceP (r : Option (Option Nat × Nat × Option Nat)) (a : Addr) (lo hi mx : Option Value) : Option Value := match r with
    | some (some n, esz, _) => asliceRow a esz n (2 * n) lo hi mx
    | _ => none
theorem aslice_ptr (ty : TypeId) (a : Addr) (lo hi mx : Option Value) : aslice P ty (.pointer (some a)) lo hi mx = sliceP (ixInfo P ty) a lo hi mx := _root_.id rfl
theorem sliceP_some (m esz : Nat) (z : Option Nat) (a : Addr) (lo hi mx : Option Value) : sliceP (some (some m, esz, z)) a lo hi mx = asliceRow a esz m (2 * m) lo hi mx := _root_.id rfl

/-! ### Builtins -/
def lenR (tys : Option TypeId) (P : Program) (x : Value) (h : Hp) : Option (Value × Hp) := match tys with
    | some ty => match alen (lenK P ty) x with
      | some v => some (v, h)
      | none => none
    | none => none
theorem abuiltin_len (tys : Array TypeId) (x : Value) : abuiltin P .len tys [x] h = lenR tys[0]? P x h := _root_.id rfl
theorem lenR_some (ty : TypeId) (x : Value) : lenR (some ty) P x h = someV (alen (lenK P ty) x) h := by unfold lenR someV; rfl
theorem alen_str (s : ByteArray) : alen .str (.string s) = some (.int .i64 s.size) := _root_.id rfl
theorem alen_slice (a : Option Addr) (k c : Nat) : alen .slice (.slice a k c) = some (.int .i64 k) := _root_.id rfl
theorem alen_junk (k : FloatKind) (a b : Nat) : alen .slice (.complex k a b) = some (.int .i64 0) := _root_.id rfl
theorem alen_arr (k : Nat) (x : Value) : alen (.arr k) x = some (.int .i64 k) := by cases x <;> rfl
theorem abuiltin_min2 (tys : Array TypeId) (k : IntKind) (a b : Int) : abuiltin P .min tys [.int k a, .int k b] h = some (.int k (if b < a then b else a), h) := by
  simp [abuiltin, apure, vtopL, vtop, Builtin.min_, Builtin.min2]
theorem abuiltin_max2 (tys : Array TypeId) (k : IntKind) (a b : Int) : abuiltin P .max tys [.int k a, .int k b] h = some (.int k (if b > a then b else a), h) := by
  simp [abuiltin, apure, vtopL, vtop, Builtin.max_, Builtin.max2]
def appR (i : Option (Nat × Nat)) (s x : Value) (h : Hp) : Option (Value × Hp) := match i with
    | some (esz, bytes) => aappend h esz bytes s x
    | none => none
theorem abuiltin_append (tys : Array TypeId) (s x : Value) : abuiltin P .append tys [s, x] h = appR (apInfo P tys) s x h := _root_.id rfl
theorem appR_some (esz bytes : Nat) (s x : Value) : appR (some (esz, bytes)) s x h = aappend h esz bytes s x := _root_.id rfl

end
end Go.Mini
