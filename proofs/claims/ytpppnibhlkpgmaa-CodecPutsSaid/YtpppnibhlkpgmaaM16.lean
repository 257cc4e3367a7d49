/-
  What the operations come to: a rule for each.
-/
import Derived.Test.YtpppnibhlkpgmaaM15
namespace Go.Mini
open Go


section
variable {P : Program} {n : Nat} (t : Tm) (h : Hp) (K : Value → Hp → Prop)

/-- What is to be carried out later is left alone meanwhile: nothing rewrites what a type hangs on. -/
inductive Tag.{u} {α : Sort u} : α → Type u where
  | mk (a : α) : Tag a
def OptF (r : Option (Value × Hp)) (K : Value → Hp → Prop) (_ : Tag K) : Prop := OptK r K
def GuardF (b : Bool) (A C : Prop) (_ : Tag A) (_ : Tag C) : Prop := GuardK b A C
def CondF (v : Value) (A C : Prop) (_ : Tag A) (_ : Tag C) : Prop := CondV v A C
def callVF (P : Program) (f : Value) (args : List Value) (h : Hp) (K : Value → Hp → Prop) (_ : Tag K) : Prop := callV P f args h K
def callMF (P : Program) (f : Value) (m : String) (args : List Value) (h : Hp) (K : Value → Hp → Prop) (_ : Tag K) : Prop := callM P f m args h K
def ACallF (P : Program) (f : FuncId) (args : List Value) (h : Hp) (K : Value → Hp → Prop) (_ : Tag K) : Prop := ACall P f args h K
def PureF (b : Bool) (R : Nat → Prop) (op : Op) (t : Tm) (h h' : Hp) (X : Prop) (_ : Tag R) (_ : Tag op) (_ : Tag t) (_ : Tag h) (_ : Tag h') (_ : Tag X) : Prop := PureK b R op t h h' X
def RetF (P : Program) (rs : List ResultVar) (h : Hp) (K : Value → Hp → Prop) (t : Tm) (h1 : Hp) (_ : Tag rs) (_ : Tag h) (_ : Tag K) (_ : Tag t) (_ : Tag h1) : Prop := RetK P rs h K t h1
def AwpF (P : Program) (n : Nat) (c : Code) (Q : APost) (t : Tm) (h : Hp) (_ : Tag c) (_ : Tag Q) (_ : Tag t) (_ : Tag h) : Prop := Awp P n c Q t h
theorem OptF_some (v : Value) (u : Tag K) : OptF (some (v, h)) K u = K v h := _root_.id rfl
theorem GuardF_true (A C : Prop) (u : Tag A) (u' : Tag C) : GuardF true A C u u' = A := _root_.id rfl
theorem GuardF_false (A C : Prop) (u : Tag A) (u' : Tag C) : GuardF false A C u u' = C := _root_.id rfl
theorem CondF_true (A C : Prop) (u : Tag A) (u' : Tag C) : CondF (.bool true) A C u u' = A := CondV_true A C
theorem CondF_false (A C : Prop) (u : Tag A) (u' : Tag C) : CondF (.bool false) A C u u' = C := CondV_false A C
theorem CondF_intro {b : Bool} {A C : Prop} {u : Tag A} {u' : Tag C} (h1 : b = true → A) (h2 : b = false → C) : CondF (.bool b) A C u u' := ⟨h1, h2⟩
theorem CondF_dec {p : Prop} [Decidable p] {A C : Prop} {u : Tag A} {u' : Tag C} (h1 : p → A) (h2 : ¬ p → C) : CondF (.bool (decide p)) A C u u' := ⟨fun h => h1 (of_decide_eq_true h), fun h => h2 (of_decide_eq_false h)⟩
theorem CondF_not {p : Prop} [Decidable p] {A C : Prop} {u : Tag A} {u' : Tag C} (h1 : ¬ p → A) (h2 : p → C) : CondF (.bool (!decide p)) A C u u' := ⟨fun h => h1 (by simpa using h), fun h => h2 (by simpa using h)⟩
theorem PureF_false (R : Nat → Prop) (op : Op) (t : Tm) (h h' : Hp) (X : Prop) (u1 : Tag R) (u2 : Tag op) (u3 : Tag t) (u4 : Tag h) (u5 : Tag h') (u : Tag X) : PureF false R op t h h' X u1 u2 u3 u4 u5 u = X := PureK_false R op t h h' X
theorem PureF_intro {b : Bool} {R : Nat → Prop} {op : Op} {t : Tm} {h h' : Hp} {X : Prop} {u1 : Tag R} {u2 : Tag op} {u3 : Tag t} {u4 : Tag h} {u5 : Tag h'} {u : Tag X} (h1 : SameR R h.next h h') (h2 : ReadIn R op t) (h3 : X) : PureF b R op t h h' X u1 u2 u3 u4 u5 u := ⟨fun _ => ⟨h1, h2⟩, h3⟩

section vcs
variable {tb : Nat → Marks} {Q : APost}
theorem vc_skip : vc P n tb .skip Q t h = Q .normal t h := _root_.id rfl
theorem vc_label (l : Nat) : vc P n tb (.label l) Q t h = Q .normal t h := _root_.id rfl
theorem vc_seq (a b : Code) : vc P n tb (.seq a b) Q t h = vc P n tb a (thenQ (fun t h => vc P n tb b Q t h) Q) t h := _root_.id rfl
theorem vc_cond (c : Operand) (a b : Code) : vc P n tb (.cond c a b) Q t h = CondF (ev t c) (vc P n tb a Q t h) (vc P n tb b Q t h) (.mk _) (.mk _) := _root_.id rfl
theorem vc_block (id : Nat) (b : Code) : vc P n tb (.block id b) Q t h = vc P n tb b (blockQ id Q) t h := _root_.id rfl
theorem vc_scope (b : Code) : vc P n tb (.scope b) Q t h = vc P n tb b (scopeQ Q) t h := _root_.id rfl
theorem vc_draw (id : Nat) (ops : List Oper) : vc P n tb (.region id ops.toArray true) Q t h = aopsD P ops.toArray (tb id) 0 ops (fun t h => Q .normal t h) t h := _root_.id rfl
theorem vc_plain (id : Nat) (ops : List Oper) : vc P n tb (.region id ops.toArray false) Q t h = aops P ops.toArray ops (fun t h => Q .normal t h) t h := _root_.id rfl
theorem vc_ret : vc P n tb .ret Q t h = Q .ret t h := _root_.id rfl
theorem vc_exit (id : Nat) : vc P n tb (.exit id) Q t h = Q (.exit id) t h := _root_.id rfl
theorem vc_loop (b : Code) : vc P n tb (.loop b) Q t h = AwpF P n (.loop b) Q t h (.mk _) (.mk _) (.mk _) (.mk _) := _root_.id rfl
theorem blockQ_exit_eq (id : Nat) : blockQ id Q (.exit id) t h = Q .normal t h := by simp [blockQ]
theorem blockQ_exit_if (id k : Nat) : blockQ id Q (.exit k) t h = if k = id then Q .normal t h else Q (.exit k) t h := _root_.id rfl
theorem FnQ_normalF (rs : List ResultVar) (h0 : Hp) : FnQ P rs h0 K .normal t h = RetF P rs h0 K t h (.mk _) (.mk _) (.mk _) (.mk _) (.mk _) := _root_.id rfl
theorem FnQ_retF (rs : List ResultVar) (h0 : Hp) : FnQ P rs h0 K .ret t h = RetF P rs h0 K t h (.mk _) (.mk _) (.mk _) (.mk _) (.mk _) := _root_.id rfl
end vcs

def someV (r : Option Value) (h : Hp) : Option (Value × Hp) := match r with | some v => some (v, h) | none => none
theorem someV_some (v : Value) : someV (some v) h = some (v, h) := _root_.id rfl

theorem astep_move (x : Operand) : astep P (.move x) t h K = OptF (some (ev t x, h)) K (.mk K) := _root_.id rfl
theorem astep_assign (x : Operand) : astep P (.assign x) t h K = OptF (some (ev t x, h)) K (.mk K) := _root_.id rfl
def apick (c a b : Value) : Option Value := match c with | .bool q => some (if q = true then a else b) | _ => none
theorem apick_bool (q : Bool) (a b : Value) : apick (.bool q) a b = some (if q = true then a else b) := _root_.id rfl
theorem astep_pick (c a b : Operand) : astep P (.pick c a b) t h K = OptF (someV (apick (ev t c) (ev t a) (ev t b)) h) K (.mk K) := by
  show OptK (match ev t c with | .bool q => some (if q = true then ev t a else ev t b, h) | _ => none) K = _
  unfold apick; split <;> rfl
def aalloc (z : Option (Array Value)) (h : Hp) : Option (Value × Hp) := match z with | some z => some (.pointer (some ⟨h.next, 0, none⟩), h.alloc ⟨z, 1, true⟩) | none => none
theorem aalloc_some (z : Array Value) : aalloc (some z) h = some (.pointer (some ⟨h.next, 0, none⟩), h.alloc ⟨z, 1, true⟩) := _root_.id rfl
theorem astep_alloc (ty : TypeId) : astep P (.alloc ty) t h K = OptF (aalloc (zeroOf P ty) h) K (.mk K) := _root_.id rfl
theorem astep_box (ty : TypeId) (x : Operand) : astep P (.box ty x) t h K = OptF (if cellsOk (ev t x) = true then some (.pointer (some ⟨h.next, 0, none⟩), h.alloc ⟨(ev t x).cells, 1, true⟩) else none) K (.mk K) := _root_.id rfl
theorem astep_load (ty : TypeId) (x : Operand) : astep P (.load ty x) t h K = OptF (someV (aload P ty h (ev t x)) h) K (.mk K) := _root_.id rfl
def storeR (r : Option Hp) : Option (Value × Hp) := match r with | some h => some (undef, h) | none => none
theorem storeR_some : storeR (some h) = some (undef, h) := _root_.id rfl
theorem astep_store (ty : TypeId) (x v : Operand) : astep P (.store ty x v) t h K = OptF (storeR (astore P ty h (ev t x) (ev t v))) K (.mk K) := _root_.id rfl
theorem astep_nilCheck (x : Operand) : astep P (.nilCheck x) t h K = OptF (someV (anilCheck (ev t x)) h) K (.mk K) := _root_.id rfl
theorem astep_binOp (op : BinOp) (ty ty' : TypeId) (x y : Operand) : astep P (.binOp op ty x y ty') t h K = OptF (someV (abin P op ty x y (ev t x) (ev t y)) h) K (.mk K) := _root_.id rfl
theorem astep_unOp (op : UnOp) (ty : TypeId) (x : Operand) : astep P (.unOp op ty x) t h K = OptF (someV (aun P op (ev t x)) h) K (.mk K) := _root_.id rfl
def aconv (c : Cv) (x : Value) (h : Hp) : Option (Value × Hp) :=
  match c, x with
  | .int k, .int _ n => some (.int k (k.wrap n), h)
  | .str, .string s => some (.string s, h)
  | .toBytes _, .string s => some (.slice (some ⟨h.next, 0, none⟩) s.size (2 * s.size + 1), h.alloc ⟨(s.data.toList.map byteV).toArray, 1, true⟩)
  | .ofBytes, .slice none _ _ => some (.string ⟨#[]⟩, h)
  | .ofBytes, .slice (some a) n _ => match rowAt h a n with
    | some cs => match strOf cs.toList with
      | some l => some (.string ⟨l.toArray⟩, h)
      | none => none
    | none => none
  | _, _ => none
theorem astep_convert (s d : TypeId) (x : Operand) : astep P (.convert s d x) t h K = OptF (aconv (cvOf P s d) (ev t x) h) K (.mk K) := _root_.id rfl
theorem aconv_int (k k' : IntKind) (m : Int) : aconv (.int k) (.int k' m) h = some (.int k (k.wrap m), h) := _root_.id rfl
theorem aconv_str (s : ByteArray) : aconv .str (.string s) h = some (.string s, h) := _root_.id rfl
theorem aconv_toBytes (e : TypeId) (s : ByteArray) : aconv (.toBytes e) (.string s) h = some (.slice (some ⟨h.next, 0, none⟩) s.size (2 * s.size + 1), h.alloc ⟨(s.data.toList.map byteV).toArray, 1, true⟩) := _root_.id rfl
theorem aconv_nil (k c : Nat) : aconv .ofBytes (.slice none k c) h = some (.string ⟨#[]⟩, h) := _root_.id rfl
def ofBytes (r : Option (Array Value)) (h : Hp) : Option (Value × Hp) := match r with
    | some cs => match strOf cs.toList with
      | some l => some (.string ⟨l.toArray⟩, h)
      | none => none
    | none => none
theorem aconv_ofBytes (a : Addr) (k c : Nat) : aconv .ofBytes (.slice (some a) k c) h = ofBytes (rowAt h a k) h := _root_.id rfl
def ifK (b : Bool) (v : Value) (h : Hp) : Option (Value × Hp) := if b = true then some (v, h) else none
theorem ifK_true (v : Value) : ifK true v h = some (v, h) := _root_.id rfl
def ifaceOk (P : Program) (ty : TypeId) : Bool := (P.underlying ty).isSome && !isIface P ty
theorem astep_makeInterface (ty : TypeId) (x : Operand) : astep P (.makeInterface ty x) t h K = OptF (ifK (ifaceOk P ty) (.iface ty (ev t x)) h) K (.mk K) := by
  show OptK (if (P.underlying ty).isSome ∧ isIface P ty = false then some (.iface ty (ev t x), h) else none) K = _
  unfold ifK ifaceOk
  cases (P.underlying ty).isSome <;> cases isIface P ty <;> simp [OptF]
theorem astep_makeFunc (f : FuncId) (a b : Array Operand) : astep P (.makeFunc (.func f) a b) t h K = OptF (some (.func (.func f) (a.map (ev t)) (b.map (ev t)), h)) K (.mk K) := _root_.id rfl
theorem astep_slice (ty : TypeId) (x : Operand) (lo hi mx : Option Operand) : astep P (.slice ty x lo hi mx) t h K = OptF (someV (aslice P ty (ev t x) (asArg lo t) (asArg hi t) (asArg mx t)) h) K (.mk K) := _root_.id rfl
def fldAddr (o : Option Nat) (x : Value) : Option Value := match o, x with | some off, .pointer (some a) => some (.pointer (some ⟨a.block, a.off + off, none⟩)) | _, _ => none
theorem fldAddr_some (off : Nat) (a : Addr) : fldAddr (some off) (.pointer (some a)) = some (.pointer (some ⟨a.block, a.off + off, none⟩)) := _root_.id rfl
theorem astep_fieldAddr (s : TypeId) (x : Operand) (f : Nat) : astep P (.fieldAddr s x f) t h K = OptF (someV (fldAddr (fldOff P s f) (ev t x)) h) K (.mk K) := by
  show OptK (match fldOff P s f, ev t x with | some off, .pointer (some a) => some (.pointer (some ⟨a.block, a.off + off, none⟩), h) | _, _ => none) K = _
  unfold fldAddr; split <;> rfl
theorem astep_field (s : TypeId) (x : Operand) (f : Nat) : astep P (.field s x f) t h K = OptF (someV (afield P s (ev t x) f) h) K (.mk K) := _root_.id rfl
theorem astep_indexAddr (ty : TypeId) (x i : Operand) : astep P (.indexAddr ty x i) t h K = OptF (someV (aindexAddr P ty (ev t x) (ev t i)) h) K (.mk K) := _root_.id rfl
theorem astep_index (ty : TypeId) (x i : Operand) : astep P (.index ty x i) t h K = OptF (someV (aindex P ty (ev t x) (ev t i)) h) K (.mk K) := _root_.id rfl
theorem astep_build (ty : TypeId) (ps : Array (Nat × Operand)) : astep P (.build ty ps) t h K = OptF (someV (abuild P ty (ps.toList.map fun p => (p.1, ev t p.2))) h) K (.mk K) := _root_.id rfl
theorem astep_extract (x : Operand) (i : Nat) : astep P (.extract x i) t h K = OptF (someV (aextract (ev t x) i) h) K (.mk K) := _root_.id rfl
theorem astep_makeSlice (ty : TypeId) (l c : Operand) : astep P (.makeSlice ty l c) t h K = OptF (amake P ty (ev t l) (ev t c) h) K (.mk K) := _root_.id rfl
theorem astep_buildSlice (ty : TypeId) (len : Nat) (ps : Array (Nat × Operand)) : astep P (.buildSlice ty len ps) t h K = OptF (abuildSlice P ty len (ps.toList.map fun p => (p.1, ev t p.2)) h) K (.mk K) := _root_.id rfl
theorem astep_builtin (b : Builtin) (as : Array Operand) (tys : Array TypeId) : astep P (.call ⟨.builtin b, as, tys⟩) t h K = OptF (abuiltin P b tys (as.toList.map (ev t)) h) K (.mk K) := _root_.id rfl
theorem astep_value (f : Operand) (as : Array Operand) (tys : Array TypeId) : astep P (.call ⟨.value f, as, tys⟩) t h K = callVF P (ev t f) (as.toList.map (ev t)) h K (.mk K) := _root_.id rfl
theorem astep_invoke (r : Operand) (m : String) (as : Array Operand) (tys : Array TypeId) : astep P (.call ⟨.invoke r m, as, tys⟩) t h K = callMF P (ev t r) m (as.toList.map (ev t)) h K (.mk K) := _root_.id rfl
theorem callV_func (f : FuncId) (a b : Array Value) (as : List Value) (u : Tag K) : callVF P (.func (.func f) a b) as h K u = ACallF P f (a.toList ++ as ++ b.toList) h K (.mk K) := _root_.id rfl
def callMK (P : Program) (g : Option FuncId) (v : Value) (as : List Value) (h : Hp) (K : Value → Hp → Prop) (_ : Tag K) : Prop := match g with | some g => ACall P g (v :: as) h K | none => False
theorem callMK_some (g : FuncId) (v : Value) (as : List Value) (u : Tag K) : callMK P (some g) v as h K u = ACallF P g (v :: as) h K (.mk K) := _root_.id rfl
theorem callM_iface (ty : TypeId) (v : Value) (m : String) (as : List Value) (u : Tag K) : callMF P (.iface ty v) m as h K u = callMK P (methOf P ty m) v as h K (.mk K) := _root_.id rfl

theorem anilCheck_ptr (a : Addr) : anilCheck (.pointer (some a)) = some (.pointer (some a)) := _root_.id rfl
theorem anilCheck_func (f : FuncId) (a b : Array Value) : anilCheck (.func (.func f) a b) = some (.func (.func f) a b) := _root_.id rfl
theorem anilCheck_iface (ty : TypeId) (v : Value) : anilCheck (.iface ty v) = some (.iface ty v) := _root_.id rfl
theorem aextract_tuple (vs : Array Value) (i : Nat) : aextract (.tuple vs) i = vs[i]? := _root_.id rfl

theorem isPtrT_ptr (e : TypeId) : isPtrT (some (.pointer e)) = true := _root_.id rfl
theorem isSliceT_slice (e : TypeId) : isSliceT (some (.slice e)) = true := _root_.id rfl
theorem isFuncT_func (a b : Array TypeId) (c : Bool) : isFuncT (some (.func a b c)) = true := _root_.id rfl
theorem isIfaceT_iface (e : Array (String × TypeId)) : isIfaceT (some (.interface e)) = true := _root_.id rfl
theorem isBoolT_bool : isBoolT (some .bool) = true := _root_.id rfl

/-! ### Guards -/
def gdst : List Oper → Nat → Option Tmp
  | [], _ => none
  | o :: _, 0 => o.dst
  | _ :: l, k + 1 => gdst l k
theorem gdst_zero (d : Option Tmp) (op : Op) (ty : TypeId) (pos : String) (af : Array Edge) (g : Option (Nat × Bool)) (l : List Oper) : gdst (⟨d, op, ty, pos, af, g⟩ :: l) 0 = d := _root_.id rfl
theorem gdst_succ (o : Oper) (l : List Oper) (k : Nat) : gdst (o :: l) (k + 1) = gdst l k := _root_.id rfl
theorem gdst_eq (l : List Oper) (k : Nat) : gdst l k = (l[k]?).bind (·.dst) := by
  induction l generalizing k with
  | nil => simp [gdst]
  | cons o l ih => cases k with
    | zero => simp [gdst]
    | succ k => simp [gdst, ih]
def bcmp (v : Value) (w : Bool) : Bool := match v with | .bool b => b == w | _ => false
theorem bcmp_bool (b w : Bool) : bcmp (.bool b) w = (b == w) := _root_.id rfl
def gcmp (d : Option Tmp) (t : Tm) (w : Bool) (_ : Tag t) : Bool := match d with | some d => bcmp (t d) w | none => false
theorem gcmp_some (d : Tmp) (w : Bool) (u : Tag t) : gcmp (some d) t w u = bcmp (t d) w := _root_.id rfl
theorem wantedA_none (all : Array Oper) (d : Option Tmp) (op : Op) (ty : TypeId) (pos : String) (af : Array Edge) : wantedA all ⟨d, op, ty, pos, af, none⟩ t = true := _root_.id rfl
theorem wantedA_some (all : List Oper) (d : Option Tmp) (op : Op) (ty : TypeId) (pos : String) (af : Array Edge) (j : Nat) (w : Bool) : wantedA all.toArray ⟨d, op, ty, pos, af, some (j, w)⟩ t = gcmp (gdst all j) t w (.mk t) := by
  unfold wantedA gval gcmp
  simp only [gdst_eq, List.getElem?_toArray]
  cases (all[j]?.bind (·.dst)) with
  | none => rfl
  | some d =>
    simp only [bcmp]
    cases t d <;> rfl
theorem aops_nil (all : Array Oper) (K : Tm → Hp → Prop) : aops P all [] K t h = K t h := _root_.id rfl
theorem aops_cons (all : Array Oper) (d : Option Tmp) (op : Op) (ty : TypeId) (pos : String) (af : Array Edge) (l : List Oper) (K : Tm → Hp → Prop) : aops P all (⟨d, op, ty, pos, af, none⟩ :: l) K t h = astep P op t h fun v h' => aops P all l K (upd t d v) h' := _root_.id rfl
theorem aops_consG (all : List Oper) (d : Option Tmp) (op : Op) (ty : TypeId) (pos : String) (af : Array Edge) (j : Nat) (w : Bool) (l : List Oper) (K : Tm → Hp → Prop) : aops P all.toArray (⟨d, op, ty, pos, af, some (j, w)⟩ :: l) K t h =
    GuardF (gcmp (gdst all j) t w (.mk t)) (astep P op t h fun v h' => aops P all.toArray l K (upd t d v) h') (aops P all.toArray l K (upd t d undef) h) (.mk _) (.mk _) := by
  rw [← wantedA_some t all d op ty pos af j w]; rfl
theorem aopsD_nil (all : Array Oper) (p : Marks) (i : Nat) (K : Tm → Hp → Prop) : aopsD P all p i [] K t h = K t h := _root_.id rfl
theorem aopsD_cons (all : Array Oper) (p : Marks) (i : Nat) (d : Option Tmp) (op : Op) (ty : TypeId) (pos : String) (af : Array Edge) (l : List Oper) (K : Tm → Hp → Prop) : aopsD P all p i (⟨d, op, ty, pos, af, none⟩ :: l) K t h = astep P op t h fun v h' => PureF (p.l.contains i) p.R op t h h' (aopsD P all p (i + 1) l K (upd t d v) h') (.mk _) (.mk _) (.mk _) (.mk _) (.mk _) (.mk _) := _root_.id rfl
theorem aopsD_consG (all : List Oper) (p : Marks) (i : Nat) (d : Option Tmp) (op : Op) (ty : TypeId) (pos : String) (af : Array Edge) (j : Nat) (w : Bool) (l : List Oper) (K : Tm → Hp → Prop) : aopsD P all.toArray p i (⟨d, op, ty, pos, af, some (j, w)⟩ :: l) K t h =
    GuardF (gcmp (gdst all j) t w (.mk t)) (astep P op t h fun v h' => PureF (p.l.contains i) p.R op t h h' (aopsD P all.toArray p (i + 1) l K (upd t d v) h') (.mk _) (.mk _) (.mk _) (.mk _) (.mk _) (.mk _)) (aopsD P all.toArray p (i + 1) l K (upd t d undef) h) (.mk _) (.mk _) := by
  rw [← wantedA_some t all d op ty pos af j w]; rfl

/-! ### Memory -/
def loadB (z : Option (Option Nat)) (b : Option Blk) (off : Nat) : Option Value := match z with | some z => (match b with | some b => partOf z b.cells off | none => none) | none => none
theorem loadB_some (z : Option Nat) (b : Blk) (off : Nat) : loadB (some z) (some b) off = partOf z b.cells off := _root_.id rfl
theorem aload_ptr (ty : TypeId) (a : Addr) : aload P ty h (.pointer (some a)) = loadB (aggSz P ty) (h.blks a.block) a.off := _root_.id rfl
theorem partOf_none (cs : Array Value) (off : Nat) : partOf none cs off = cs[off]? := _root_.id rfl
theorem partOf_some (k : Nat) (cs : Array Value) (off : Nat) : partOf (some k) cs off = if off + k ≤ cs.size then some (.agg (cs.extract off (off + k))) else none := _root_.id rfl
def storeB (z : Option Nat) (b : Option Blk) (h : Hp) (i off : Nat) (v : Value) : Option Hp := match b with
    | some b => if b.own = true ∧ z = some v.cells.size ∧ off + v.cells.size ≤ b.cells.size ∧ cellsOk v = true
      then some (h.set i (b.put off v.cells.toList)) else none
    | none => none
theorem storeB_some (z : Option Nat) (b : Blk) (i off : Nat) (v : Value) : storeB z (some b) h i off v = if b.own = true ∧ z = some v.cells.size ∧ off + v.cells.size ≤ b.cells.size ∧ cellsOk v = true
      then some (h.set i (b.put off v.cells.toList)) else none := rfl
theorem astore_ptr (ty : TypeId) (a : Addr) (v : Value) : astore P ty h (.pointer (some a)) v = storeB (szOf P ty) (h.blks a.block) h a.block a.off v := _root_.id rfl
def rowB (b : Option Blk) (off k : Nat) : Option (Array Value) := match b with | some b => if off + k ≤ b.cells.size then some (b.cells.extract off (off + k)) else none | none => none
theorem rowB_some (b : Blk) (off k : Nat) : rowB (some b) off k = if off + k ≤ b.cells.size then some (b.cells.extract off (off + k)) else none := _root_.id rfl
theorem rowAt_def (a : Addr) (k : Nat) : rowAt h a k = rowB (h.blks a.block) a.off k := _root_.id rfl

theorem Hp.set_alloc (b c : Blk) (i : Nat) (hi : i = h.next) : (h.alloc b).set i c = h.alloc c := by
  subst hi
  unfold Hp.set Hp.alloc; simp only; congr 1; funext j; by_cases hj : j = h.next <;> simp [hj]
theorem Hp.alloc_set (b c : Blk) (i : Nat) (hi : i < h.next) : (h.alloc b).set i c = (h.set i c).alloc b := by
  unfold Hp.set Hp.alloc; simp only; congr 1; funext j
  by_cases hj : j = i
  · have : j ≠ h.next := by omega
    simp [hj]; intro h'; omega
  · simp [hj]

/-! ### Indices -/
def ixA (r : Option (Option Nat × Nat × Option Nat)) (x i : Value) : Option Value :=
  match r with
  | some (some n, esz, _) => match x, i with
    | .pointer (some a), .int _ j => if 0 ≤ j ∧ j < n then some (.pointer (some ⟨a.block, a.off + j.toNat * esz, none⟩)) else none
    | _, _ => none
  | some (none, esz, _) => match x, i with
    | .slice (some a) len _, .int _ j => if 0 ≤ j ∧ j < len then some (.pointer (some ⟨a.block, a.off + j.toNat * esz, none⟩)) else none
    | _, _ => none
  | none => none
theorem aindexAddr_def (ty : TypeId) (x i : Value) : aindexAddr P ty x i = ixA (ixInfo P ty) x i := _root_.id rfl
theorem ixA_arr (m esz : Nat) (z : Option Nat) (a : Addr) (k : IntKind) (j : Int) (hj : 0 ≤ j ∧ j < m) : ixA (some (some m, esz, z)) (.pointer (some a)) (.int k j) = some (.pointer (some ⟨a.block, a.off + j.toNat * esz, none⟩)) := by
  unfold ixA; simp only; rw [if_pos hj]
theorem ixA_slice (esz : Nat) (z : Option Nat) (a : Addr) (len cap : Nat) (k : IntKind) (j : Int) (hj : 0 ≤ j ∧ j < len) : ixA (some (none, esz, z)) (.slice (some a) len cap) (.int k j) = some (.pointer (some ⟨a.block, a.off + j.toNat * esz, none⟩)) := by
  unfold ixA; simp only; rw [if_pos hj]
def ixS (b : Bool) (s : ByteArray) (i : Value) : Option Value := if b = true then match i with
      | .int _ j => if 0 ≤ j ∧ j < s.size then some (.int .u8 (bAt s j.toNat)) else none
      | _ => none
    else none
theorem aindex_str (ty : TypeId) (s : ByteArray) (i : Value) : aindex P ty (.string s) i = ixS (isStr P ty) s i := by unfold aindex ixS; rfl
theorem ixS_true (s : ByteArray) (k : IntKind) (j : Int) (hj : 0 ≤ j ∧ j < s.size) : ixS true s (.int k j) = some (.int .u8 (bAt s j.toNat)) := by
  unfold ixS; simp only [if_true]; rw [if_pos hj]
def ixG (r : Option (Option Nat × Nat × Option Nat)) (cs : Array Value) (i : Value) : Option Value :=
  match r with
    | some (some n, esz, z) => match i with
      | .int _ j => if 0 ≤ j ∧ j < n then partOf z cs (j.toNat * esz) else none
      | _ => none
    | _ => none
theorem aindex_agg (ty : TypeId) (cs : Array Value) (i : Value) : aindex P ty (.agg cs) i = ixG (ixInfo P ty) cs i := _root_.id rfl
theorem ixG_some (m esz : Nat) (z : Option Nat) (cs : Array Value) (k : IntKind) (j : Int) (hj : 0 ≤ j ∧ j < m) : ixG (some (some m, esz, z)) cs (.int k j) = partOf z cs (j.toNat * esz) := by
  unfold ixG; simp only; rw [if_pos hj]
def fldV (r : Option (Nat × Option Nat)) (x : Value) : Option Value := match r, x with | some (off, z), .agg cs => partOf z cs off | _, _ => none
theorem afield_def (ty : TypeId) (x : Value) (f : Nat) : afield P ty x f = fldV (fldPart P ty f) x := _root_.id rfl
theorem fldV_some (off : Nat) (z : Option Nat) (cs : Array Value) : fldV (some (off, z)) (.agg cs) = partOf z cs off := _root_.id rfl

/-! ### Slices -/
theorem bnd_int (k : IntKind) (i : Int) (y : Nat) (hi : 0 ≤ i ∧ i ≤ y) : bnd (.int k i) y = some i.toNat := by unfold bnd; simp only; rw [if_pos hi]
theorem bndD_none (y d : Nat) : bndD none y d = some d := _root_.id rfl
theorem bndD_some (v : Value) (y d : Nat) : bndD (some v) y d = bnd v y := _root_.id rfl
def sliceS2 (s : ByteArray) (m : Nat) (lo : Option Nat) : Option Value := match lo with
    | some l => some (.string (s.extract l m))
    | none => none
theorem sliceS2_some (s : ByteArray) (m l : Nat) : sliceS2 s m (some l) = some (.string (s.extract l m)) := _root_.id rfl
def sliceS (b : Bool) (s : ByteArray) (hi : Option Nat) (lo : Option Value) : Option Value := if b = true then match hi with
  | some h => sliceS2 s h (bndD lo h 0)
  | none => none else none
theorem aslice_str (ty : TypeId) (s : ByteArray) (lo hi : Option Value) : aslice P ty (.string s) lo hi none = sliceS (isStr P ty) s (bndD hi s.size s.size) lo := by
  unfold aslice sliceS asliceStr
  simp only [Option.isNone_none, and_true]
  rfl
theorem sliceS_some (s : ByteArray) (m : Nat) (lo : Option Value) : sliceS true s (some m) lo = sliceS2 s m (bndD lo m 0) := _root_.id rfl
def sliceR (r : Option (Option Nat × Nat × Option Nat)) (a : Addr) (len cap : Nat) (lo hi mx : Option Value) : Option Value := match r with
    | some (none, esz, _) => asliceRow a esz len cap lo hi mx
    | _ => none
theorem aslice_slice (ty : TypeId) (a : Addr) (len cap : Nat) (lo hi mx : Option Value) : aslice P ty (.slice (some a) len cap) lo hi mx = sliceR (ixInfo P ty) a len cap lo hi mx := _root_.id rfl
theorem sliceR_some (esz : Nat) (z : Option Nat) (a : Addr) (len cap : Nat) (lo hi mx : Option Value) : sliceR (some (none, esz, z)) a len cap lo hi mx = asliceRow a esz len cap lo hi mx := _root_.id rfl
def sliceP (r : Option (Option Nat × Nat × Option Nat)) (a : Addr) (lo hi mx : Option Value) : Option Value := match r with
    | some (some n, esz, _) => asliceRow a esz n (2 * n) lo hi mx
    | _ => none
theorem aslice_ptr (ty : TypeId) (a : Addr) (lo hi mx : Option Value) : aslice P ty (.pointer (some a)) lo hi mx = sliceP (ixInfo P ty) a lo hi mx := _root_.id rfl
theorem sliceP_some (m esz : Nat) (z : Option Nat) (a : Addr) (lo hi mx : Option Value) : sliceP (some (some m, esz, z)) a lo hi mx = asliceRow a esz m (2 * m) lo hi mx := _root_.id rfl

/-! ### Builtins -/
def lenR (tys : Option TypeId) (P : Program) (x : Value) (h : Hp) : Option (Value × Hp) := match tys with
    | some ty => match alen (lenK P ty) x with
      | some v => some (v, h)
      | none => none
    | none => none
theorem abuiltin_len (tys : Array TypeId) (x : Value) : abuiltin P .len tys [x] h = lenR tys[0]? P x h := _root_.id rfl
theorem lenR_some (ty : TypeId) (x : Value) : lenR (some ty) P x h = someV (alen (lenK P ty) x) h := by unfold lenR someV; rfl
theorem alen_str (s : ByteArray) : alen .str (.string s) = some (.int .i64 s.size) := _root_.id rfl
theorem alen_slice (a : Option Addr) (k c : Nat) : alen .slice (.slice a k c) = some (.int .i64 k) := _root_.id rfl
theorem alen_arr (k : Nat) (x : Value) : alen (.arr k) x = some (.int .i64 k) := by cases x <;> rfl
theorem abuiltin_min2 (tys : Array TypeId) (k : IntKind) (a b : Int) : abuiltin P .min tys [.int k a, .int k b] h = some (.int k (if b < a then b else a), h) := by
  simp [abuiltin, apure, vtopL, vtop, Builtin.min_, Builtin.min2]
theorem abuiltin_max2 (tys : Array TypeId) (k : IntKind) (a b : Int) : abuiltin P .max tys [.int k a, .int k b] h = some (.int k (if b > a then b else a), h) := by
  simp [abuiltin, apure, vtopL, vtop, Builtin.max_, Builtin.max2]
def appR (i : Option (Nat × Nat)) (s x : Value) (h : Hp) : Option (Value × Hp) := match i with
    | some (esz, bytes) => aappend h esz bytes s x
    | none => none
theorem abuiltin_append (tys : Array TypeId) (s x : Value) : abuiltin P .append tys [s, x] h = appR (apInfo P tys) s x h := _root_.id rfl
theorem appR_some (esz bytes : Nat) (s x : Value) : appR (some (esz, bytes)) s x h = aappend h esz bytes s x := _root_.id rfl

end
end Go.Mini
