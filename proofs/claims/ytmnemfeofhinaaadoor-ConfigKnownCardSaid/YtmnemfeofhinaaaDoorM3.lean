/-
  The operations of a function, carried out on values with names and on a heap of named blocks: what each yields, and what becomes of the heap.
-/
import Derived.Test.YtmnemfeofhinaaaDoorM2
set_option linter.unusedSimpArgs false
set_option linter.unusedVariables false
set_option linter.unusedSectionVars false
namespace Go.Mini
open Go

/-- A computation that asks for nothing but the program. -/
def pureRun {α : Type} (P : Program) : Sem α → Option α
  | .pure a => some a
  | .program k => pureRun P (k P)
  | _ => none

theorem run_of_pureRun {α : Type} {P : Program} (s : Sem α) {a : α} (h : pureRun P s = some a) (w : World) : s.run P w = .ok a w := by
  induction s <;> simp only [pureRun, reduceCtorEq, Option.some.injEq] at h
  case pure => subst h; rfl
  case program k ih => simp only [Sem.run]; exact ih P h

theorem pureRun_bind' {α β : Type} {P : Program} (s : Sem α) (f : α → Sem β) : pureRun P (s.bind f) = (pureRun P s).bind fun a => pureRun P (f a) := by
  induction s <;> simp only [Sem.bind, pureRun, Option.bind_none, Option.bind_some]
  case program k ih => exact ih P
theorem pureRun_bind {α β : Type} {P : Program} (s : Sem α) (f : α → Sem β) : pureRun P (s >>= f) = (pureRun P s).bind fun a => pureRun P (f a) := pureRun_bind' s f
@[simp] theorem pureRun_pure {α : Type} {P : Program} (a : α) : pureRun P (pure a : Sem α) = some a := rfl
@[simp] theorem pureRun_pure' {α : Type} {P : Program} (a : α) : pureRun P (Sem.pure a : Sem α) = some a := rfl
@[simp] theorem pureRun_program {P : Program} : pureRun P program = some P := rfl

/-! ### What stands where in types -/
def aggSz (P : Program) (ty : TypeId) : Option (Option Nat) :=
  match P.underlying ty with
  | some (.struct _) | some (.array _ _) => some (some (P.cellsOf ty))
  | some _ => some none
  | none => none
def szOf (P : Program) (ty : TypeId) : Option Nat := (P.info? ty).map (·.size)
def okZero (cs : Array Value) : Bool := cs.all fun v => vtop v == 0 && v.oneCell'
def zeroOf (P : Program) (ty : TypeId) : Option (Array Value) :=
  match (P.info? ty).bind (·.zero) with
  | some z => if okZero z.cells then some z.cells else none
  | none => none
def fldOff (P : Program) (s : TypeId) (f : Nat) : Option Nat :=
  match P.underlying s with
  | some (.struct fs) => match fs[f]? with
    | some fd => match szOf P fd.type with
      | some (_ + 1) => some fd.offset
      | _ => none
    | none => none
  | _ => none
def fldPart (P : Program) (s : TypeId) (f : Nat) : Option (Nat × Option Nat) :=
  match P.underlying s with
  | some (.struct fs) => match fs[f]? with
    | some fd => (aggSz P fd.type).map fun z => (fd.offset, z)
    | none => none
  | _ => none
/-- Of an array or a slice: the array's length, the cells of an element, and how an element is told. -/
def ixInfo (P : Program) (ty : TypeId) : Option (Option Nat × Nat × Option Nat) :=
  match P.underlying ty with
  | some (.array n e) => match szOf P e, aggSz P e with
    | some s, some z => some (some n, s, z)
    | _, _ => none
  | some (.slice e) => match szOf P e, aggSz P e with
    | some s, some z => some (none, s, z)
    | _, _ => none
  | _ => none
def isStr (P : Program) (ty : TypeId) : Bool := P.underlying ty matches some .string
def isIface (P : Program) (ty : TypeId) : Bool := P.underlying ty matches some (.interface _)

def partOf (z : Option Nat) (cs : Array Value) (off : Nat) : Option Value :=
  match z with
  | some n => if off + n ≤ cs.size then some (.agg (cs.extract off (off + n))) else none
  | none => cs[off]?

def cellsOk (v : Value) : Bool := v.cells.all (·.oneCell')

abbrev Tm := Nat → Value
def upd (t : Tm) (d : Option Tmp) (v : Value) : Tm :=
  match d with
  | none => t
  | some d => fun k => if k = d then v else t k
def ev (t : Tm) : Operand → Value
  | .tmp k => t k
  | .const v => v
  | .global g => .pointer (some ⟨100 + g, 0, none⟩)
  | .func f => .func (.func f) #[] #[]

def okOpnd (n : Nat) : Operand → Bool
  | .tmp k => decide (k < n)
  | .const v => vtop v == 0
  | .global g => decide (g < 50)
  | .func _ => true

/-- A byte of a string, as a number. -/
def bAt (s : ByteArray) (j : Nat) : Int := ((s.data.toList[j]?).getD 0).toNat

/-! ### The operations that leave memory alone -/

/-- '==' where one side is nil and the other is not. -/
def nilEq (P : Program) (ty : TypeId) (x y : Value) : Option Bool :=
  match P.underlying ty, x, y with
  | some (.pointer _), .pointer none, .pointer (some _) => some false
  | some (.pointer _), .pointer (some _), .pointer none => some false
  | some (.slice _), .slice none _ _, .slice (some _) _ _ => some false
  | some (.slice _), .slice (some _) _ _, .slice none _ _ => some false
  | some (.func _ _ _), .nilFunc, .func _ _ _ => some false
  | some (.func _ _ _), .func _ _ _, .nilFunc => some false
  | some (.interface _), .nilIface, .iface _ _ => some false
  | some (.interface _), .iface _ _, .nilIface => some false
  | _, _, _ => none

def abin (P : Program) (op : BinOp) (ty : TypeId) (xo yo : Operand) (x y : Value) : Option Value :=
  if vtop x = 0 ∧ vtop y = 0 then
    match pureRun P (do eqGuard op ty xo yo x y; binOp op ty x y) with
    | some v => if vtop v = 0 then some v else none
    | none => none
  else match op with
    | .eql => (nilEq P ty x y).map fun b => .bool b
    | .neq => (nilEq P ty x y).map fun b => .bool !b
    | _ => none

def aun (P : Program) (op : UnOp) (x : Value) : Option Value :=
  if vtop x = 0 then
    match pureRun P (Op.unary op x) with
    | some v => if vtop v = 0 then some v else none
    | none => none
  else none

/-- The bounds of a slice expression: from, to, and the most. -/
def bnd (x : Value) (y : Nat) : Option Nat :=
  match x with
  | .int _ i => if 0 ≤ i ∧ i ≤ y then some i.toNat else none
  | _ => none
def bndD (x : Option Value) (y d : Nat) : Option Nat :=
  match x with
  | some v => bnd v y
  | none => some d

def asliceStr (s : ByteArray) (lo hi : Option Value) : Option Value :=
  match bndD hi s.size s.size with
  | some h => match bndD lo h 0 with
    | some l => some (.string (s.extract l h))
    | none => none
  | none => none

/-- A slice of a row that begins at a, with cap / 2 places (at least, if cap is odd). -/
def asliceRow (a : Addr) (esz len cap : Nat) (lo hi mx : Option Value) : Option Value :=
  match mx with
  | some m => match bnd m (cap / 2) with
    | some m => match hi with
      | some hv => match bnd hv m with
        | some h => match bndD lo h 0 with
          | some l => some (.slice (some (if m = l then ⟨a.block, a.off, none⟩ else ⟨a.block, a.off + l * esz, none⟩)) (h - l) (2 * (m - l)))
          | none => none
        | none => none
      | none => none
    | none => none
  | none => match bndD hi (cap / 2) len with
    | some h => match bndD lo h 0 with
      | some l => if cap % 2 = 1 then
            (if cap / 2 ≤ l ∧ 0 < l then none else some (.slice (some ⟨a.block, a.off + l * esz, none⟩) (h - l) (2 * (cap / 2 - l) + 1)))
          else some (.slice (some (if cap / 2 = l then ⟨a.block, a.off, none⟩ else ⟨a.block, a.off + l * esz, none⟩)) (h - l) (2 * (cap / 2 - l)))
      | none => none
    | none => none

def asArg (x : Option Operand) (t : Tm) : Option Value := x.map (ev t)

def aslice (P : Program) (ty : TypeId) (x : Value) (lo hi mx : Option Value) : Option Value :=
  match x with
  | .string s => if isStr P ty ∧ mx.isNone then asliceStr s lo hi else none
  | .slice (some a) len cap => match ixInfo P ty with
    | some (none, esz, _) => asliceRow a esz len cap lo hi mx
    | _ => none
  | .slice none len cap => match ixInfo P ty with
    | some (none, _, _) => if len = 0 ∧ cap = 0 then match bndD mx 0 0, bndD hi 0 0, bndD lo 0 0 with
        | some _, some _, some _ => if mx.isSome && hi.isNone then none else some (.slice none 0 0)
        | _, _, _ => none
      else none
    | _ => none
  | .pointer (some a) => match ixInfo P ty with
    | some (some n, esz, _) => asliceRow a esz n (2 * n) lo hi mx
    | _ => none
  | _ => none

def aindexAddr (P : Program) (ty : TypeId) (x i : Value) : Option Value :=
  match ixInfo P ty with
  | some (some n, esz, _) => match x, i with
    | .pointer (some a), .int _ j => if 0 ≤ j ∧ j < n then some (.pointer (some ⟨a.block, a.off + j.toNat * esz, none⟩)) else none
    | _, _ => none
  | some (none, esz, _) => match x, i with
    | .slice (some a) len _, .int _ j => if 0 ≤ j ∧ j < len then some (.pointer (some ⟨a.block, a.off + j.toNat * esz, none⟩)) else none
    | _, _ => none
  | none => none

def aindex (P : Program) (ty : TypeId) (x i : Value) : Option Value :=
  match x with
  | .string s => if isStr P ty then match i with
      | .int _ j => if 0 ≤ j ∧ j < s.size then some (.int .u8 (bAt s j.toNat)) else none
      | _ => none
    else none
  | .agg cs => match ixInfo P ty with
    | some (some n, esz, z) => match i with
      | .int _ j => if 0 ≤ j ∧ j < n then partOf z cs (j.toNat * esz) else none
      | _ => none
    | _ => none
  | _ => none

def afield (P : Program) (ty : TypeId) (x : Value) (f : Nat) : Option Value :=
  match fldPart P ty f, x with
  | some (off, z), .agg cs => partOf z cs off
  | _, _ => none

def anilCheck : Value → Option Value
  | .pointer (some a) => some (.pointer (some a))
  | .func (.func f) a b => some (.func (.func f) a b)
  | .iface t v => some (.iface t v)
  | _ => none
def methOf (P : Program) (ty : TypeId) (m : String) : Option FuncId :=
  match P.info? ty with
  | some i => match i.methods.find? (·.name == m) with
    | some mm => match mm.func, P.underlying ty with
      | some (f, true), some (.pointer _) => if mm.path.isEmpty then some f else none
      | _, _ => none
    | none => none
  | none => none
/-- A method's function is checked by its receiver. -/
def anilCheckP (P : Program) (v : Value) : Option Value :=
  match v with
  | .func (.method m) first b => match (first[0]? : Option Value) with
    | some (.iface t _) => if (methOf P t m).isSome = true then some (.func (.method m) first b) else none
    | _ => none
  | v => anilCheck v

def placesOf (P : Program) (ty : TypeId) : Option (Nat → Option (Nat × Nat)) :=
  match P.underlying ty with
  | some (.struct fs) => (pureRun P (fs.mapM fun f => do pure (f.offset, ← sizeOf f.type))).map fun l => fun i => l[i]?
  | some (.array _ e) => (szOf P e).map fun s => fun i => some (i * s, s)
  | _ => none

def abuild (P : Program) (ty : TypeId) (parts : List (Nat × Value)) : Option Value :=
  match zeroOf P ty, placesOf P ty with
  | some z, some pl => (Instr.fill pl z parts).map .agg
  | _, _ => none

def aextract : Value → Nat → Option Value
  | .tuple vs, i => vs[i]?
  | _, _ => none

inductive Cv where
  | int (k : IntKind)
  | str
  | toBytes (e : TypeId)
  | ofBytes
  | no
def isU8 (P : Program) (e : TypeId) : Bool := P.underlying e matches some (.int .u8)
def cvOf (P : Program) (src dst : TypeId) : Cv :=
  match P.underlying src, P.underlying dst with
  | some _, some (.int k) => .int k
  | some (.slice e), some .string => if isU8 P e then .ofBytes else .no
  | some .string, some .string => .str
  | some .string, some (.slice e) => if isU8 P e then .toBytes e else .no
  | _, _ => .no

def byteV (b : UInt8) : Value := .int .u8 b.toNat
def strOf : List Value → Option (List UInt8)
  | [] => some []
  | .int .u8 n :: l => (strOf l).map fun r => UInt8.ofNat n.toNat :: r
  | _ :: _ => none

/-- So many cells from a value's address on. -/
def rowAt (h : Hp) (a : Addr) (n : Nat) : Option (Array Value) :=
  match h.blks a.block with
  | some b => if a.off + n ≤ b.cells.size then some (b.cells.extract a.off (a.off + n)) else none
  | none => none

def aload (P : Program) (ty : TypeId) (h : Hp) (x : Value) : Option Value :=
  match x with
  | .pointer (some a) => match aggSz P ty with
    | some z => match h.blks a.block with
      | some b => partOf z b.cells a.off
      | none => none
    | none => none
  | _ => none

def astore (P : Program) (ty : TypeId) (h : Hp) (x v : Value) : Option Hp :=
  match x with
  | .pointer (some a) => match h.blks a.block with
    | some b => if b.own = true ∧ szOf P ty = some v.cells.size ∧ a.off + v.cells.size ≤ b.cells.size ∧ cellsOk v = true
      then some (h.set a.block (b.put a.off v.cells.toList)) else none
    | none => none
  | _ => none

def aconvert (P : Program) (src dst : TypeId) (x : Value) (h : Hp) : Option (Value × Hp) :=
  match cvOf P src dst, x with
  | .int k, .int _ n => some (.int k (k.wrap n), h)
  | .str, .string s => some (.string s, h)
  | .toBytes _, .string s => some (.slice (some ⟨h.next, 0, none⟩) s.size (2 * s.size + 1), h.alloc ⟨(s.data.toList.map byteV).toArray, 1, true⟩)
  | .ofBytes, .slice none _ _ => some (.string ⟨#[]⟩, h)
  | .ofBytes, .slice (some a) n _ => match rowAt h a n with
    | some cs => match strOf cs.toList with
      | some l => some (.string ⟨l.toArray⟩, h)
      | none => none
    | none => none
  | _, _ => none

/-! ### Builtins, and slices that are made -/
inductive LenK where
  | str
  | slice
  | arr (n : Nat)
  | no
def lenK (P : Program) (ty : TypeId) : LenK :=
  match P.underlying ty with
  | some .string => .str
  | some (.slice _) => .slice
  | some (.array n _) => .arr n
  | some (.pointer arr) => match P.underlying arr with
    | some (.array n _) => .arr n
    | _ => .no
  | _ => .no
def alen (k : LenK) (x : Value) : Option Value :=
  match k, x with
  | .str, .string s => some (.int .i64 s.size)
  | .slice, .slice _ n _ => some (.int .i64 n)
  | .slice, .complex _ _ _ => some (.int .i64 0)
  | .arr n, _ => some (.int .i64 n)
  | _, _ => none

/-- Of a slice's type: the cells and the bytes of an element, and an element's zero. -/
def elInfo (P : Program) (ty : TypeId) : Option (Nat × Nat × Array Value) :=
  match P.underlying ty with
  | some (.slice e) => match P.info? e, zeroOf P e with
    | some i, some z => if z.size = i.size ∧ 0 < i.size then some (i.size, i.bytes, z) else none
    | _, _ => none
  | _ => none
def isSrc (P : Program) (ty : TypeId) : Bool := P.underlying ty matches some (.slice _) | some .string
def apInfo (P : Program) (argTypes : Array TypeId) : Option (Nat × Nat) :=
  match argTypes.toList with
  | [st, xt] => if isSrc P xt = true then (elInfo P st).map fun r => (r.1, r.2.1) else none
  | _ => none

/-- What is appended or copied: how many elements, and their cells. -/
def srcCells (h : Hp) (esz : Nat) (x : Value) : Option (Nat × Array Value) :=
  match x with
  | .slice (some a) n _ => if n = 0 then some (0, #[]) else match rowAt h a (n * esz) with
    | some cs => some (n, cs)
    | none => none
  | .slice none n _ => if n = 0 then some (0, #[]) else none
  | .string s => if esz = 1 then some (s.size, (s.data.toList.map byteV).toArray) else none
  | _ => none

def ROOM : Nat := 140737488355328

def agrown (h : Hp) (esz bytes : Nat) (n : Nat) (cs : Array Value) : Option (Value × Hp) :=
  if n * bytes ≤ ROOM ∧ n ≤ ROOM then some (.slice (some ⟨h.next, 0, none⟩) n (2 * n + 1), h.alloc ⟨cs, esz, true⟩) else none

def aappend (h : Hp) (esz bytes : Nat) (s x : Value) : Option (Value × Hp) :=
  match srcCells h esz x with
  | some (n, new) => match s with
    | .slice none len cap => if len = 0 ∧ cap = 0 then (if n = 0 then some (.slice none 0 0, h) else agrown h esz bytes n new) else none
    | .slice (some a) len cap =>
      if len + n ≤ cap / 2 then
        (if n = 0 then some (.slice (some a) len cap, h) else match h.blks a.block with
          | some b => if b.own = true ∧ a.off + (len + n) * esz ≤ b.cells.size then some (.slice (some a) (len + n) cap, h.set a.block (b.put (a.off + len * esz) new.toList)) else none
          | none => none)
      else if cap % 2 = 0 then
        match rowAt h a (len * esz) with
        | some old => agrown h esz bytes (len + n) (old ++ new)
        | none => none
      else match h.blks a.block with
        | some b => if b.own = true ∧ b.esz = esz ∧ a.off = 0 ∧ len * esz = b.cells.size ∧ cap / 2 = len then agrown (h.kill a.block) esz bytes (len + n) (b.cells ++ new) else none
        | none => none
    | _ => none
  | none => none

def zeroRow (z : Array Value) (n : Nat) : Array Value := (Array.range n).map (z[· % z.size]!)

def acopy (h : Hp) (esz : Nat) (d s : Value) : Option (Value × Hp) :=
  match d, srcCells h esz s with
  | .slice none len _, some (_, _) => if len = 0 then some (.int .i64 0, h) else none
  | .slice (some a) len _, some (n, cs) => match h.blks a.block with
    | some b => if b.own = true ∧ a.off + (min n len) * esz ≤ b.cells.size then
        some (.int .i64 (min n len : Nat), h.set a.block (b.put a.off (cs.toList.take (min n len * esz)))) else none
    | none => none
  | _, _ => none

def aclear (h : Hp) (z : Array Value) (x : Value) : Option (Value × Hp) :=
  match x with
  | .slice none _ _ => some (.tuple #[], h)
  | .slice (some a) n _ => if n = 0 then some (.tuple #[], h) else match h.blks a.block with
    | some b => if b.own = true ∧ a.off + n * z.size ≤ b.cells.size then some (.tuple #[], h.set a.block (b.put a.off (zeroRow z (n * z.size)).toList)) else none
    | none => none
  | _ => none

def apure (P : Program) (args : List Value) (s : Sem Value) : Option Value :=
  if vtopL args = 0 then
    match pureRun P s with
    | some v => if vtop v = 0 then some v else none
    | none => none
  else none

def abuiltin (P : Program) (b : Builtin) (argTypes : Array TypeId) (args : List Value) (h : Hp) : Option (Value × Hp) :=
  match b, args with
  | .len, [x] => match argTypes[0]? with
    | some ty => match alen (lenK P ty) x with
      | some v => some (v, h)
      | none => none
    | none => none
  | .min, args => match apure P args (Builtin.min_ #[] 0 args.toArray) with
    | some v => some (v, h)
    | none => none
  | .max, args => match apure P args (Builtin.max_ #[] 0 args.toArray) with
    | some v => some (v, h)
    | none => none
  | .append, [s, x] => match apInfo P argTypes with
    | some (esz, bytes) => aappend h esz bytes s x
    | none => none
  | .copy, [d, s] => match argTypes[0]? with
    | some ty => match elInfo P ty with
      | some (esz, _, _) => acopy h esz d s
      | none => none
    | none => none
  | .clear, [x] => match argTypes[0]? with
    | some ty => match elInfo P ty with
      | some (_, _, z) => aclear h z x
      | none => none
    | none => none
  | _, _ => none

def amake (P : Program) (ty : TypeId) (l c : Value) (h : Hp) : Option (Value × Hp) :=
  match elInfo P ty, l, c with
  | some (esz, bytes, z), .int _ l, .int _ c => if 0 ≤ l ∧ l ≤ c ∧ c ≤ ROOM ∧ c.toNat * bytes ≤ ROOM then
      some (.slice (some ⟨h.next, 0, none⟩) l.toNat (2 * c.toNat), h.alloc ⟨zeroRow z (c.toNat * esz), esz, true⟩) else none
  | _, _, _ => none

def abuildSlice (P : Program) (ty : TypeId) (len : Nat) (parts : List (Nat × Value)) (h : Hp) : Option (Value × Hp) :=
  match elInfo P ty with
  | some (esz, _, z) => if len * esz ≤ 16777216 then
      match Instr.fill (fun i => some (i * esz, esz)) (zeroRow z (len * esz)) parts with
      | some cs => if cs.all (·.oneCell') = true then some (.slice (some ⟨h.next, 0, none⟩) len (2 * len), h.alloc ⟨cs, esz, true⟩) else none
      | none => none
    else none
  | none => none

/-- All of the operations but calls. -/
def aop (P : Program) (op : Op) (t : Tm) (h : Hp) : Option (Value × Hp) :=
  match op with
  | .move x | .assign x => some (ev t x, h)
  | .pick c a b => match ev t c with
    | .bool q => some (if q = true then ev t a else ev t b, h)
    | _ => none
  | .alloc ty => match zeroOf P ty with
    | some z => some (.pointer (some ⟨h.next, 0, none⟩), h.alloc ⟨z, 1, true⟩)
    | none => none
  | .box _ x => if cellsOk (ev t x) = true then some (.pointer (some ⟨h.next, 0, none⟩), h.alloc ⟨(ev t x).cells, 1, true⟩) else none
  | .load ty x => match aload P ty h (ev t x) with
    | some v => some (v, h)
    | none => none
  | .store ty x v => match astore P ty h (ev t x) (ev t v) with
    | some h' => some (undef, h')
    | none => none
  | .nilCheck x => match anilCheckP P (ev t x) with
    | some v => some (v, h)
    | none => none
  | .binOp op ty x y _ => match abin P op ty x y (ev t x) (ev t y) with
    | some v => some (v, h)
    | none => none
  | .unOp op _ x => match aun P op (ev t x) with
    | some v => some (v, h)
    | none => none
  | .convert src dst x => aconvert P src dst (ev t x) h
  | .makeInterface ty x => if (P.underlying ty).isSome ∧ isIface P ty = false then some (.iface ty (ev t x), h) else none
  | .makeFunc (.func f) first captured => some (.func (.func f) (first.map (ev t)) (captured.map (ev t)), h)
  | .makeFunc (.method f) first captured => some (.func (.method f) (first.map (ev t)) (captured.map (ev t)), h)
  | .slice ty x lo hi mx => match aslice P ty (ev t x) (asArg lo t) (asArg hi t) (asArg mx t) with
    | some v => some (v, h)
    | none => none
  | .fieldAddr s x f => match fldOff P s f, ev t x with
    | some off, .pointer (some a) => some (.pointer (some ⟨a.block, a.off + off, none⟩), h)
    | _, _ => none
  | .field s x f => match afield P s (ev t x) f with
    | some v => some (v, h)
    | none => none
  | .indexAddr ty x i => match aindexAddr P ty (ev t x) (ev t i) with
    | some v => some (v, h)
    | none => none
  | .index ty x i => match aindex P ty (ev t x) (ev t i) with
    | some v => some (v, h)
    | none => none
  | .build ty parts => match abuild P ty (parts.toList.map fun p => (p.1, ev t p.2)) with
    | some v => some (v, h)
    | none => none
  | .extract x i => match aextract (ev t x) i with
    | some v => some (v, h)
    | none => none
  | .makeSlice ty l c => amake P ty (ev t l) (ev t c) h
  | .buildSlice ty len parts => abuildSlice P ty len (parts.toList.map fun p => (p.1, ev t p.2)) h
  | .call c => match c.callee with
    | .builtin b => abuiltin P b c.argTypes (c.args.toList.map (ev t)) h
    | _ => none
  | _ => none

end Go.Mini
