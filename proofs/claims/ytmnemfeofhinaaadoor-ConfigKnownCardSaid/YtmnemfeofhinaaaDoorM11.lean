/-
  Regions that draw their order: the walk in the order of the text serves every order, where operations that may be exchanged do not look at one another.
-/
import Derived.Test.YtmnemfeofhinaaaDoorM10
set_option linter.unusedSimpArgs false
set_option linter.unusedVariables false
set_option linter.unusedSectionVars false
namespace Go.Mini
open Go

section
variable {P : Program} {n : Nat} [E : REnv]

inductive Cls where
  | pure
  | read
  | alloc
  | write
  deriving DecidableEq

def clsOf (P : Program) : Op → Cls
  | .move _ | .assign _ | .pick .. | .nilCheck _ | .binOp .. | .unOp .. | .makeInterface .. | .makeFunc .. | .slice .. | .fieldAddr .. | .field .. | .indexAddr .. | .index .. | .build .. | .extract .. => .pure
  | .load .. => .read
  | .alloc _ | .box .. | .makeSlice .. | .buildSlice .. => .alloc
  | .convert src dst _ => match cvOf P src dst with
    | .int _ | .str => .pure
    | .ofBytes => .read
    | .toBytes _ => .alloc
    | .no => .write
  | .call c => match c.callee with
    | .builtin .len | .builtin .min | .builtin .max => .pure
    | _ => .write
  | _ => .write

/-- Where operations look alike at two heaps. -/
theorem aop_pure {op : Op} (hc : clsOf P op = .pure) (t : Tm) : ∃ r : Option Value, ∀ h, aop P op t h = r.map fun v => (v, h) := by
  cases op <;> simp only [clsOf, reduceCtorEq] at hc
  case move x => exact ⟨some (ev t x), fun h => rfl⟩
  case assign x => exact ⟨some (ev t x), fun h => rfl⟩
  case pick c x y => exact ⟨(match ev t c with | .bool q => some (if q = true then ev t x else ev t y) | _ => none), fun h => by simp only [aop]; split <;> simp_all⟩
  case nilCheck x => exact ⟨anilCheckP P (ev t x), fun h => by simp only [aop]; split <;> simp_all⟩
  case binOp op ty x y yt => exact ⟨abin P op ty x y (ev t x) (ev t y), fun h => by simp only [aop]; split <;> simp_all⟩
  case unOp op ty x => exact ⟨aun P op (ev t x), fun h => by simp only [aop]; split <;> simp_all⟩
  case makeInterface ty x => exact ⟨if (P.underlying ty).isSome ∧ isIface P ty = false then some (.iface ty (ev t x)) else none, fun h => by simp only [aop]; split <;> rfl⟩
  case makeFunc fn a b => cases fn <;> first | exact ⟨none, fun h => rfl⟩ | exact ⟨some _, fun h => rfl⟩
  case slice ty x lo hi mx => exact ⟨aslice P ty (ev t x) (asArg lo t) (asArg hi t) (asArg mx t), fun h => by simp only [aop]; split <;> simp_all⟩
  case fieldAddr s x f => exact ⟨(match fldOff P s f, ev t x with | some off, .pointer (some a) => some (.pointer (some ⟨a.block, a.off + off, none⟩)) | _, _ => none), fun h => by simp only [aop]; split <;> simp_all⟩
  case field s x f => exact ⟨afield P s (ev t x) f, fun h => by simp only [aop]; split <;> simp_all⟩
  case indexAddr ty x i => exact ⟨aindexAddr P ty (ev t x) (ev t i), fun h => by simp only [aop]; split <;> simp_all⟩
  case index ty x i => exact ⟨aindex P ty (ev t x) (ev t i), fun h => by simp only [aop]; split <;> simp_all⟩
  case build ty ps => exact ⟨abuild P ty (ps.toList.map fun p => (p.1, ev t p.2)), fun h => by simp only [aop]; split <;> simp_all⟩
  case extract x i => exact ⟨aextract (ev t x) i, fun h => by simp only [aop]; split <;> simp_all⟩
  case convert src dst x =>
    cases hcv : cvOf P src dst with
    | int k => exact ⟨(match ev t x with | .int _ m => some (.int k (k.wrap m)) | _ => none), fun h => by simp only [aop, aconvert, hcv]; cases ev t x <;> rfl⟩
    | str => exact ⟨(match ev t x with | .string s => some (.string s) | _ => none), fun h => by simp only [aop, aconvert, hcv]; cases ev t x <;> rfl⟩
    | _ => simp [hcv] at hc
  case call c =>
    obtain ⟨callee, args, ats⟩ := c
    cases callee <;> simp only [reduceCtorEq] at hc
    rename_i b
    cases b <;> simp only [reduceCtorEq] at hc
    · refine ⟨(match args.toList.map (ev t) with | [x] => (match ats[0]? with | some ty => alen (lenK P ty) x | none => none) | _ => none), fun h => ?_⟩
      simp only [aop, abuiltin]
      split
      all_goals first | (simp_all; done) | skip
      · rename_i x hx; simp only [hx]; cases ats[0]? <;> simp; split <;> simp_all
    · refine ⟨apure P (args.toList.map (ev t)) (Builtin.max_ #[] 0 (args.toList.map (ev t)).toArray), fun h => ?_⟩
      simp only [aop, abuiltin]
      split <;> simp_all
    · refine ⟨apure P (args.toList.map (ev t)) (Builtin.min_ #[] 0 (args.toList.map (ev t)).toArray), fun h => ?_⟩
      simp only [aop, abuiltin]
      split <;> simp_all

/-- Two heaps hold the same below a name. -/
def Same (m : Nat) (h h' : Hp) : Prop := ∀ j, j < m → h'.blks j = h.blks j

/-- The same, as far as names go that are watched. -/
def SameR (R : Nat → Prop) (m : Nat) (h h' : Hp) : Prop := ∀ j, j < m → R j → h'.blks j = h.blks j
def inR (R : Nat → Prop) : Value → Prop
  | .pointer (some a) => R a.block
  | .slice (some a) _ _ => R a.block
  | _ => True
/-- What is read is watched. -/
def ReadIn (R : Nat → Prop) (op : Op) (t : Tm) : Prop :=
  match op with
  | .load _ x => inR R (ev t x)
  | .convert _ _ x => inR R (ev t x)
  | _ => True

theorem rowAt_same {R : Nat → Prop} {m : Nat} {h h' : Hp} (hs : SameR R m h h') {a : Addr} (ha : a.block < m) (hR : R a.block) (k : Nat) : rowAt h' a k = rowAt h a k := by
  unfold rowAt; rw [hs _ ha hR]

theorem aop_readR {R : Nat → Prop} {op : Op} (hc : clsOf P op = .read) (t : Tm) {m : Nat} (hv : ∀ x ∈ op.operands, vtop (ev t x) ≤ m) (hR : ReadIn R op t) {h h' : Hp} (hs : SameR R m h h') : ∃ r : Option Value, aop P op t h = (r.map fun v => (v, h)) ∧ aop P op t h' = r.map fun v => (v, h') := by
  cases op <;> simp only [clsOf, reduceCtorEq] at hc
  case load ty x =>
    have hx := hv x (by simp [Op.operands])
    refine ⟨aload P ty h (ev t x), ?_, ?_⟩
    · simp only [aop]; split <;> simp_all
    · have : aload P ty h' (ev t x) = aload P ty h (ev t x) := by
        unfold aload
        cases hx' : ev t x with
        | pointer a =>
          cases a with
          | none => rfl
          | some a =>
            simp only [ReadIn] at hR
            rw [hx'] at hx hR
            simp only [vtop] at hx
            simp only [hs a.block (by omega) hR]
        | _ => rfl
      simp only [aop, this]; split <;> simp_all
  case convert src dst x =>
    have hx := hv x (by simp [Op.operands])
    cases hcv : cvOf P src dst with
    | ofBytes =>
      refine ⟨(match ev t x with
        | .slice none _ _ => some (.string ⟨#[]⟩)
        | .slice (some a) k _ => (match rowAt h a k with | some cs => (match strOf cs.toList with | some l => some (.string ⟨l.toArray⟩) | none => none) | none => none)
        | _ => none), ?_, ?_⟩
      · simp only [aop, aconvert, hcv]
        cases ev t x <;> try rfl
        rename_i a k c
        cases a with
        | none => rfl
        | some a => simp only; cases rowAt h a k with | none => rfl | some cs => simp only; cases strOf cs.toList <;> rfl
      · simp only [aop, aconvert, hcv]
        cases hx' : ev t x <;> try rfl
        rename_i a k c
        simp only [ReadIn] at hR
        rw [hx'] at hx hR
        cases a with
        | none => rfl
        | some a =>
          simp only [vtop] at hx
          simp only [rowAt_same hs (show a.block < m by omega) hR]
          cases rowAt h a k with | none => rfl | some cs => simp only; cases strOf cs.toList <;> rfl
    | _ => simp [hcv] at hc
  case call c =>
    obtain ⟨callee, args, ats⟩ := c
    cases callee <;> simp only [reduceCtorEq] at hc
    rename_i b
    cases b <;> simp only [reduceCtorEq] at hc

theorem inR_true (v : Value) : inR (fun _ => True) v := by
  cases v
  case pointer a => cases a <;> trivial
  case slice a _ _ => cases a <;> trivial
  all_goals trivial
theorem ReadIn_true (op : Op) (t : Tm) : ReadIn (fun _ => True) op t := by
  cases op <;> try trivial
  all_goals exact inR_true _
theorem aop_read {op : Op} (hc : clsOf P op = .read) (t : Tm) {m : Nat} (hv : ∀ x ∈ op.operands, vtop (ev t x) ≤ m) {h h' : Hp} (hs : Same m h h') : ∃ r : Option Value, aop P op t h = (r.map fun v => (v, h)) ∧ aop P op t h' = r.map fun v => (v, h') :=
  aop_readR (R := fun _ => True) hc t hv (ReadIn_true _ _) fun j hj _ => hs j hj

theorem same_alloc (h : Hp) (b : Blk) : Same h.next h (h.alloc b) := fun j hj => by simp [Hp.blks_alloc, Nat.ne_of_lt hj]

theorem aop_alloc {op : Op} (hc : clsOf P op = .alloc) {t : Tm} {h h' : Hp} {v : Value} (ha : aop P op t h = some (v, h')) : Same h.next h h' := by
  cases op <;> simp only [clsOf, reduceCtorEq] at hc
  case alloc ty => simp only [aop] at ha; split at ha <;> simp at ha; obtain ⟨_, rfl⟩ := ha; exact same_alloc _ _
  case box ty x => simp only [aop] at ha; split at ha <;> simp at ha; obtain ⟨_, rfl⟩ := ha; exact same_alloc _ _
  case makeSlice ty l c => simp only [aop, amake] at ha; split at ha <;> (try split at ha) <;> simp at ha; obtain ⟨_, rfl⟩ := ha; exact same_alloc _ _
  case buildSlice ty k ps => simp only [aop, abuildSlice] at ha; (repeat' (split at ha)) <;> simp at ha; obtain ⟨_, rfl⟩ := ha; exact same_alloc _ _
  case convert src dst x =>
    cases hcv : cvOf P src dst with
    | toBytes e =>
      simp only [aop, aconvert, hcv] at ha
      split at ha <;> simp_all
      obtain ⟨_, rfl⟩ := ha; exact same_alloc _ _
    | _ => simp [hcv] at hc
  case call c =>
    obtain ⟨callee, args, ats⟩ := c
    cases callee <;> simp only [reduceCtorEq] at hc
    rename_i b
    cases b <;> simp only [reduceCtorEq] at hc

/-! ### The order of the text, by numbers -/
/-- What may be exchanged with what stands behind it. -/
def opnds (all : Array Oper) (o : Oper) : List Tmp :=
  (o.op.operands.toList.filterMap fun | .tmp k => some k | _ => none) ++ (match o.guard with | some (g, _) => ((all[g]?).bind (·.dst)).toList | none => [])

/-! Calls that leave what is there alone, whatever is there, and give a value that leads nowhere: they change places with anything. 3000000 + i among the marks says so of operation i; the table tells what it gives. -/
def isNeu (pure : List Nat) (i : Nat) : Bool := pure.contains (3000000 + i)
class NVal where
  f : Nat → List Value → Value
instance (priority := low) NVal.none : NVal := ⟨fun _ _ => undef⟩
def argsOf : Op → List Operand
  | .call c => c.args.toList
  | _ => []
def swapOk (P : Program) (all : Array Oper) (pure : List Nat) (x i : Nat) (ox oi : Oper) : Bool :=
  ox.apart all oi &&
  (isNeu pure x || isNeu pure i) || ox.apart all oi &&
  match clsOf P ox.op, clsOf P oi.op with
  | .pure, _ | _, .pure | .read, .read | .read, .alloc | .alloc, .read => true
  | .read, .write | .write, .read => pure.contains i && pure.contains x
  | _, _ => false

/-- The operations of a region that are marked: those that write leave alone what is watched, those that read read what is watched. -/
structure Marks where
  l : List Nat
  R : Nat → Prop
  [nv : NVal]
/-- A step that may have to leave what is there alone. -/
def PureK (b : Bool) (R : Nat → Prop) (op : Op) (t : Tm) (h h' : Hp) (X : Prop) : Prop := (b = true → SameR R h.next h h' ∧ ReadIn R op t) ∧ X
theorem PureK_false (R : Nat → Prop) (op : Op) (t : Tm) (h h' : Hp) (X : Prop) : PureK false R op t h h' X = X := by simp [PureK]

/-- A step that changes places with anything. -/
def NeuK (P : Program) (val : List Value → Value) (op : Op) (t : Tm) (h : Hp) (K : Value → Prop) : Prop :=
  vtop (val ((argsOf op).map (ev t))) = 0 ∧ (∀ h', astep P op t h' fun u h'' => u = val ((argsOf op).map (ev t)) ∧ h'' = h') ∧ K (val ((argsOf op).map (ev t)))
def SelK (b : Bool) (A C : Prop) : Prop := match b with | true => A | false => C

def stepD (P : Program) (all : Array Oper) (pure : Marks) (i : Nat) (o : Oper) (t : Tm) (h : Hp) (K : Tm → Hp → Prop) : Prop :=
  GuardK (wantedA all o t) (SelK (isNeu pure.l i) (NeuK P (pure.nv.f i) o.op t h fun v => K (upd t o.dst v) h) (astep P o.op t h fun v h' => PureK (pure.l.contains i) pure.R o.op t h h' (K (upd t o.dst v) h'))) (K (upd t o.dst undef) h)

def aopsD (P : Program) (all : Array Oper) (pure : Marks) : Nat → List Oper → (Tm → Hp → Prop) → Tm → Hp → Prop
  | _, [], K, t, h => K t h
  | i, o :: rest, K, t, h => stepD P all pure i o t h fun t' h' => aopsD P all pure (i + 1) rest K t' h'

/-- The same over any numbers. -/
def DL (P : Program) (all : Array Oper) (pure : Marks) : List Nat → (Tm → Hp → Prop) → Tm → Hp → Prop
  | [], K, t, h => K t h
  | i :: rest, K, t, h => match all[i]? with
    | some o => stepD P all pure i o t h fun t' h' => DL P all pure rest K t' h'
    | none => DL P all pure rest K t h

/-- Some world realises this. -/
def Real (n : Nat) (t : Tm) (h : Hp) : Prop := ∃ B w0 ρ w, SimE B w0 ρ h w ∧ ∀ k, k < n → vtop (t k) ≤ h.next

theorem ACall.real {f : FuncId} {args : List Value} {h : Hp} {K : Value → Hp → Prop} (hc : ACall P f args h K) : ACall P f args h fun r h' => K r h' ∧ (∃ B w0 ρ w, SimE B w0 ρ h' w) ∧ vtop r ≤ h'.next ∧ h.next ≤ h'.next :=
  ⟨hc.1, fun B w0 ρ w hs ha => (hc.2 B w0 ρ w hs ha).mono fun _ _ ⟨r, h', ρ', he, hK, h1, h2, h3, h4⟩ => ⟨r, h', ρ', he, ⟨hK, ⟨B, w0, ρ', _, h1⟩, h2, h3⟩, h1, h2, h3, h4⟩⟩

theorem YCall.real {L : Nat} {args : List Value} {h : Hp} {K : Value → Hp → Prop} (hc : YCall P L args h K) : YCall P L args h fun r h' => K r h' ∧ (∃ B w0 ρ w, SimE B w0 ρ h' w) ∧ vtop r ≤ h'.next ∧ h.next ≤ h'.next := fun B w0 ρ w hs ha => by
  obtain ⟨fn, tmps, assign, body, hy, hr⟩ := hc B w0 ρ w hs ha
  exact ⟨fn, tmps, assign, body, hy, hr.mono fun _ _ ⟨r, h', ρ', he, hK, h1, h2, h3, h4⟩ => ⟨r, h', ρ', he, ⟨hK, ⟨B, w0, ρ', _, h1⟩, h2, h3⟩, h1, h2, h3, h4⟩⟩

/-- An operation goes on only from what some world realises. -/
theorem astep_real {o : Oper} {t : Tm} {h : Hp} {K : Value → Hp → Prop} (hok : okOper n o = true) (hr : Real n t h) (hst : astep P o.op t h K) :
    astep P o.op t h fun v h' => K v h' ∧ Real n (upd t o.dst v) h' := by
  obtain ⟨B, w0, ρ, w, hs, hv⟩ := hr
  have upd_top : ∀ (v : Value) (h' : Hp), vtop v ≤ h'.next → h.next ≤ h'.next → ∀ k, k < n → vtop (upd t o.dst v k) ≤ h'.next := by
    intro v h' h1 h2 k hk
    unfold upd
    cases o.dst with
    | none => exact Nat.le_trans (hv k hk) h2
    | some d => simp only; split; exact h1; exact Nat.le_trans (hv k hk) h2
  -- a frame that realises the temporaries
  let a : Act := { tmps := (Array.range n).map fun k => rl ρ (t k), defers := [] }
  have ht : TR ρ n t h.next a.tmps := ⟨by simp [a], fun k hk => by simp [a, hk], hv⟩
  have hop : okOp n o.op = true := by simp [okOper] at hok; exact hok.1
  have ofOp : OptK (aopE P o.op t h) K → OptK (aopE P o.op t h) fun v h' => K v h' ∧ Real n (upd t o.dst v) h' := by
    intro hk
    cases hr : aopE P o.op t h with
    | none => rw [hr] at hk; exact hk.elim
    | some r =>
      obtain ⟨v, h'⟩ := r
      rw [hr] at hk
      obtain ⟨ρ', w', nx, _, _, h3, h4, h5, h6, _⟩ := aopE_sound hs ht hop hr
      exact ⟨hk, B, w0, ρ', w', h3, upd_top v h' h4 h5⟩
  have ofCall : ∀ g args, ACall P g args h K → ACall P g args h fun v h' => K v h' ∧ Real n (upd t o.dst v) h' := fun g args hc =>
    hc.real.mono fun v h' ⟨h1, ⟨B, w0, ρ', w', h2⟩, h3, h4⟩ => ⟨h1, B, w0, ρ', w', h2, upd_top v h' h3 h4⟩
  generalize o.op = op at hst ofOp ⊢
  cases op <;> try exact ofOp hst
  case call c =>
    obtain ⟨callee, args, ats⟩ := c
    cases callee with
    | builtin b => exact ofOp hst
    | value f =>
      simp only [astep] at hst ⊢
      unfold callV at hst ⊢
      split at hst
      · exact ofCall _ _ hst
      · exact ⟨hst.1, YCall.mono (YCall.real hst.2) fun v h' ⟨h1, ⟨B, w0, ρ', w', h2⟩, h3, h4⟩ => ⟨h1, B, w0, ρ', w', h2, upd_top v h' h3 h4⟩⟩
      · exact hst.elim
    | invoke r m =>
      simp only [astep] at hst ⊢
      unfold callM at hst ⊢
      split at hst
      · split at hst
        · exact ofCall _ _ hst
        · exact hst.elim
      · exact hst.elim

theorem astep_eq {op : Op} {t : Tm} {h : Hp} {K : Value → Hp → Prop} (ho : ∀ c, op ≠ .call c) : astep P op t h K = OptK (aopE P op t h) K := by
  cases op <;> first | rfl | exact absurd rfl (ho _)

theorem astep_mono {op : Op} {t : Tm} {h : Hp} {K K' : Value → Hp → Prop} (hk : ∀ v h', K v h' → K' v h') (hst : astep P op t h K) : astep P op t h K' := by
  have ofOp : ∀ r, OptK r K → OptK r K' := by
    intro r hr
    cases r with
    | none => exact hr.elim
    | some p => exact hk _ _ hr
  cases op
  case call c =>
    obtain ⟨callee, args, ats⟩ := c
    cases callee with
    | builtin b => exact ofOp (aop P _ t h) hst
    | value f =>
      simp only [astep] at hst ⊢
      unfold callV at hst ⊢
      split at hst
      · exact ACall.mono hst hk
      · exact ⟨hst.1, YCall.mono hst.2 hk⟩
      · exact hst.elim
    | invoke r m =>
      simp only [astep] at hst ⊢
      unfold callM at hst ⊢
      split at hst
      · split at hst
        · exact ACall.mono hst hk
        · exact hst.elim
      · exact hst.elim
  all_goals (rw [astep_eq (by simp)] at hst ⊢; exact ofOp _ hst)

/-- No step goes on into nothing. -/
theorem astep_some {o : Oper} {t : Tm} {h : Hp} {K : Value → Hp → Prop} (hr : Real n t h) (hok : okOper n o = true) (hst : astep P o.op t h K) : ∃ v h', K v h' := by
  obtain ⟨B, w0, ρ, w, hs, hv⟩ := hr
  let a : Act := { tmps := (Array.range n).map fun k => rl ρ (t k), defers := [] }
  have ht : TR ρ n t h.next a.tmps := ⟨by simp [a], fun k hk => by simp [a, hk], hv⟩
  obtain ⟨_, h0⟩ := astep_sound (ro := none) (Q' := fun _ _ _ => False) hs ht hok hst
  have this : o.uponIn (WF none) 0 P a (Next1 B w0 ρ h a o.dst K) (fun _ _ _ => False) ((execOp a.eval o).run P w) := h0
  have room : ∀ k, (WF none).room k := fun k d hd => by cases hd
  clear h0
  generalize (execOp a.eval o).run P w = r at this
  cases r with
  | ok nx w' =>
    cases nx <;> simp only [Oper.uponIn] at this
    case value u => obtain ⟨_, v, h', k, _⟩ := this; exact ⟨v, h', k⟩
    case skip => obtain ⟨_, v, h', k, _⟩ := this; exact ⟨v, h', k⟩
    case defer d => obtain ⟨_, v, h', k, _⟩ := this; exact ⟨v, h', k⟩
    case enter f args =>
      obtain ⟨e, w'', fr, hR, _⟩ := this.2.2 [] (room _)
      cases e with
      | returned u => obtain ⟨_, v, h', k, _⟩ := hR; exact ⟨v, h', k⟩
      | panicked c => exact hR.elim
      | outgrown => obtain ⟨_, _, q⟩ := hR; exact q.elim
    case row row args =>
      obtain ⟨u, w'', hR, _⟩ := this.2 default [] (room _)
      obtain ⟨_, v, h', k, _⟩ := hR; exact ⟨v, h', k⟩
    case round l f tmps assign body =>
      obtain ⟨e, w'', hR, _⟩ := this.2.2 default [] (room _)
      cases e with
      | returned u => obtain ⟨_, v, h', k, _⟩ := hR; exact ⟨v, h', k⟩
      | panicked c => exact hR.elim
      | outgrown => obtain ⟨_, _, q⟩ := hR; exact q.elim
  | halt x w' =>
    cases x <;> simp only [Oper.uponIn] at this

theorem ev_upd {t : Tm} {d : Option Tmp} {v : Value} {x : Operand} (h : ∀ k, d = some k → x ≠ .tmp k) : ev (upd t d v) x = ev t x := by
  cases d with
  | none => rfl
  | some k =>
    cases x with
    | tmp j =>
      have : j ≠ k := fun e => h k rfl (by rw [e])
      simp [ev, upd, this]
    | _ => rfl

theorem upd_comm (t : Tm) {x y : Option Tmp} (v u : Value) (h : ∀ d, x = some d → y ≠ some d) : upd (upd t x v) y u = upd (upd t y u) x v := by
  cases x with
  | none => rfl
  | some d =>
    cases y with
    | none => rfl
    | some e =>
      have hne : d ≠ e := fun he => h d rfl (he ▸ rfl)
      funext k
      simp only [upd]
      by_cases h1 : k = e <;> by_cases h2 : k = d <;> simp_all

theorem asArg_upd {t : Tm} {d : Option Tmp} {v : Value} {x : Option Operand} (h : ∀ y, x = some y → ∀ k, d = some k → y ≠ .tmp k) : asArg x (upd t d v) = asArg x t := by
  cases x with
  | none => rfl
  | some y => simp only [asArg, Option.map_some]; rw [ev_upd (h y rfl)]

theorem ReadIn_upd {R : Nat → Prop} {op : Op} {t : Tm} {d : Option Tmp} {v : Value} (hx : ∀ x ∈ op.operands, ∀ k, d = some k → x ≠ .tmp k) : ReadIn R op (upd t d v) ↔ ReadIn R op t := by
  cases op <;> simp only [ReadIn]
  all_goals rw [ev_upd (hx _ (by simp [Op.operands]))]
theorem astep_upd {op : Op} {t : Tm} {h : Hp} {d : Option Tmp} {v : Value} (hx : ∀ x ∈ op.operands, ∀ k, d = some k → x ≠ .tmp k) (K : Value → Hp → Prop) : astep P op (upd t d v) h K = astep P op t h K ∧ aop P op (upd t d v) h = aop P op t h := by
  have hE : ∀ x ∈ op.operands, ev (upd t d v) x = ev t x := fun x hm => ev_upd (hx x hm)
  have maps : ∀ xs : Array Operand, (∀ x ∈ xs, x ∈ op.operands) → xs.toList.map (ev (upd t d v)) = xs.toList.map (ev t) := fun xs hxs => List.map_congr_left fun x hm => hE x (hxs x (by simpa using hm))
  have mapsA : ∀ xs : Array Operand, (∀ x ∈ xs, x ∈ op.operands) → xs.map (ev (upd t d v)) = xs.map (ev t) := fun xs hxs => Array.map_congr_left fun x hm => hE x (hxs x hm)
  have mapsP : ∀ xs : Array (Nat × Operand), (∀ p ∈ xs, p.2 ∈ op.operands) → (xs.toList.map fun p => (p.1, ev (upd t d v) p.2)) = xs.toList.map fun p => (p.1, ev t p.2) := fun xs hxs => List.map_congr_left fun p hm => by rw [hE p.2 (hxs p (by simpa using hm))]
  have main : aop P op (upd t d v) h = aop P op t h := by
    cases op <;> simp only [aop] <;> simp only [Op.operands] at hE maps mapsA mapsP hx
    case move x => rw [hE x (by simp)]
    case assign x => rw [hE x (by simp)]
    case pick c x y => rw [hE c (by simp), hE x (by simp), hE y (by simp)]
    case box ty x => rw [hE x (by simp)]
    case load ty x => rw [hE x (by simp)]
    case store ty x y => rw [hE x (by simp), hE y (by simp)]
    case nilCheck x => rw [hE x (by simp)]
    case binOp op ty x y yt => rw [hE x (by simp), hE y (by simp)]
    case unOp op ty x => rw [hE x (by simp)]
    case convert s dt x => rw [hE x (by simp)]
    case makeInterface ty x => rw [hE x (by simp)]
    case makeFunc fn a b => cases fn <;> simp only <;> rw [mapsA a (fun x hm => by simp [hm]), mapsA b (fun x hm => by simp [hm])]
    case makeSlice ty l c => rw [hE l (by simp), hE c (by simp)]
    case slice ty x lo hi mx => rw [hE x (by simp), asArg_upd (fun y hy => hx y (by simp [hy])), asArg_upd (fun y hy => hx y (by simp [hy])), asArg_upd (fun y hy => hx y (by simp [hy]))]
    case fieldAddr s x f => rw [hE x (by simp)]
    case field s x f => rw [hE x (by simp)]
    case indexAddr ty x i => rw [hE x (by simp), hE i (by simp)]
    case index ty x i => rw [hE x (by simp), hE i (by simp)]
    case build ty ps => rw [mapsP ps (fun p hm => by simp; exact ⟨p.1, hm⟩)]
    case buildSlice ty k ps => rw [mapsP ps (fun p hm => by simp; exact ⟨p.1, hm⟩)]
    case extract x i => rw [hE x (by simp)]
    case call c =>
      obtain ⟨callee, args, ats⟩ := c
      cases callee <;> simp only
      rw [maps args (fun x hm => by simp [Call.operands, hm])]
  refine ⟨?_, main⟩
  have mainE : aopE P op (upd t d v) h = aopE P op t h := by
    cases op <;> try exact main
    case lookup mt x k ok =>
      cases ok with
      | true => exact main
      | false => simp only [aopE]; rw [hE x (by simp [Op.operands]), hE k (by simp [Op.operands])]
    case mapEntry mt x k => simp only [aopE]; rw [hE x (by simp [Op.operands]), hE k (by simp [Op.operands])]
    case entryStore mt x s u => simp only [aopE]; rw [hE x (by simp [Op.operands]), hE s (by simp [Op.operands]), hE u (by simp [Op.operands])]
  cases op <;> simp only [astep, mainE]
  case call c =>
    obtain ⟨callee, args, ats⟩ := c
    cases callee with
    | builtin b => simp only [main]
    | value f => simp only; rw [hE f (by simp [Op.operands, Call.operands]), maps args (fun x hm => by simp [Op.operands, Call.operands, hm])]
    | invoke r m => simp only; rw [hE r (by simp [Op.operands, Call.operands]), maps args (fun x hm => by simp [Op.operands, Call.operands, hm])]

theorem args_upd {op : Op} {t : Tm} {d : Option Tmp} {v : Value} (hx : ∀ x ∈ op.operands, ∀ k, d = some k → x ≠ .tmp k) : (argsOf op).map (ev (upd t d v)) = (argsOf op).map (ev t) := by
  refine List.map_congr_left fun x hm => ev_upd (hx x ?_)
  cases op <;> simp only [argsOf, List.not_mem_nil] at hm
  case call c => obtain ⟨callee, args, ats⟩ := c; cases callee <;> simp [Op.operands, Call.operands] <;> simp at hm <;> simp [hm]

theorem gval_upd {all : Array Oper} {t : Tm} {d : Option Tmp} {v : Value} {j : Nat} (h : ∀ k, d = some k → (all[j]?).bind (·.dst) ≠ some k) : gval all (upd t d v) j = gval all t j := by
  unfold gval
  cases hd : (all[j]?).bind (·.dst) with
  | none => rfl
  | some e =>
    cases d with
    | none => rfl
    | some k =>
      have : e ≠ k := fun he => h k rfl (by rw [hd, he])
      simp only [upd]; rw [if_neg this]

theorem wantedA_upd {all : Array Oper} {o : Oper} {t : Tm} {d : Option Tmp} {v : Value} (h : ∀ k, d = some k → k ∉ o.looksAt all) : wantedA all o (upd t d v) = wantedA all o t := by
  unfold wantedA
  cases hg : o.guard with
  | none => rfl
  | some p =>
    obtain ⟨g, want⟩ := p
    simp only
    rw [gval_upd (fun k hk he => h k hk (by simp only [Oper.looksAt, hg, he]; simp))]

end
end Go.Mini
