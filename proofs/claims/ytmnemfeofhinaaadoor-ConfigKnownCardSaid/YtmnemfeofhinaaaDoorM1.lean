/-
  An abstract memory for the proofs of this claim: values whose addresses are names, their realisation in a world, and what it is for a world to realise a heap of named blocks. Proved over every program; nothing of a program is named here.
-/
import Derived.Orders
import Derived.Tactics
import Derived.Scope
import Derived.Laws.Rows
import Derived.Below
import Derived.RangeFuncRecord
set_option linter.unusedSimpArgs false
set_option linter.unusedVariables false
set_option linter.unusedSectionVars false
namespace Go.Mini
open Go

/-- Where a named block lies: its block in the world, the cell at which it begins, how many elements more its array has than are known. -/
structure Rb where
  blk : Nat
  base : Nat
  extra : Nat
abbrev Rn := Nat → Rb

def rlAddr (ρ : Rn) (a : Addr) : Addr := ⟨(ρ a.block).blk, (ρ a.block).base + a.off, none⟩
def rlFn (ρ : Rn) : Fn → Fn
  | .yield l => .yield (ρ l).blk
  | f => f
/-- A slice's capacity is told twice over; odd: there may be more than is known. -/
def rlCap (ρ : Rn) (a : Addr) (c : Nat) : Nat := if c % 2 = 1 then c / 2 + (ρ a.block).extra else c / 2

mutual
def rl (ρ : Rn) : Value → Value
  | .pointer (some a) => .pointer (some (rlAddr ρ a))
  | .slice (some a) n c => .slice (some (rlAddr ρ a)) n (rlCap ρ a c)
  | .complex _ n s => .slice (some ⟨(ρ n).blk, (ρ n).base, some s⟩) 0 0
  | .map (some r) => .map (some (ρ r).blk)
  | .func fn ⟨first⟩ ⟨captured⟩ => .func (rlFn ρ fn) ⟨rlL ρ first⟩ ⟨rlL ρ captured⟩
  | .iface t v => .iface t (rl ρ v)
  | .agg ⟨cs⟩ => .agg ⟨rlL ρ cs⟩
  | .tuple ⟨vs⟩ => .tuple ⟨rlL ρ vs⟩
  | v => v
def rlL (ρ : Rn) : List Value → List Value
  | [] => []
  | v :: l => rl ρ v :: rlL ρ l
end

def fnTop : Fn → Nat
  | .yield l => l + 1
  | _ => 0
mutual
def vtop : Value → Nat
  | .pointer (some a) => a.block + 1
  | .slice (some a) _ _ => a.block + 1
  | .complex _ n _ => n + 1
  | .map (some r) => r + 1
  | .func fn ⟨first⟩ ⟨captured⟩ => max (fnTop fn) (max (vtopL first) (vtopL captured))
  | .iface _ v => vtop v
  | .agg ⟨cs⟩ => vtopL cs
  | .tuple ⟨vs⟩ => vtopL vs
  | _ => 0
def vtopL : List Value → Nat
  | [] => 0
  | v :: l => max (vtop v) (vtopL l)
end

theorem rlL_eq (ρ : Rn) (l : List Value) : rlL ρ l = l.map (rl ρ) := by
  induction l with
  | nil => simp [rlL]
  | cons v l ih => simp [rlL, ih]
theorem rl_agg (ρ : Rn) (cs : Array Value) : rl ρ (.agg cs) = .agg (cs.map (rl ρ)) := by
  cases cs; simp [rl, rlL_eq]
theorem rl_tuple (ρ : Rn) (cs : Array Value) : rl ρ (.tuple cs) = .tuple (cs.map (rl ρ)) := by
  cases cs; simp [rl, rlL_eq]
theorem rl_func (ρ : Rn) (fn : Fn) (a b : Array Value) : rl ρ (.func fn a b) = .func (rlFn ρ fn) (a.map (rl ρ)) (b.map (rl ρ)) := by
  cases a; cases b; simp [rl, rlL_eq]

theorem vtopL_le {l : List Value} {n : Nat} : vtopL l ≤ n ↔ ∀ v ∈ l, vtop v ≤ n := by
  induction l with
  | nil => simp [vtopL]
  | cons v l ih => simp only [vtopL, Nat.max_le, ih, List.mem_cons, forall_eq_or_imp]
theorem vtop_agg {cs : Array Value} {n : Nat} : vtop (.agg cs) ≤ n ↔ ∀ v ∈ cs, vtop v ≤ n := by
  cases cs; simp [vtop, vtopL_le]
theorem vtop_tuple {cs : Array Value} {n : Nat} : vtop (.tuple cs) ≤ n ↔ ∀ v ∈ cs, vtop v ≤ n := by
  cases cs; simp [vtop, vtopL_le]
theorem vtop_func {fn : Fn} {a b : Array Value} {n : Nat} : vtop (.func fn a b) ≤ n ↔ fnTop fn ≤ n ∧ (∀ v ∈ a, vtop v ≤ n) ∧ (∀ v ∈ b, vtop v ≤ n) := by
  cases a; cases b; simp only [vtop, Nat.max_le, vtopL_le]; simp

/-- Two ways to lay names agree on what a value leads to. -/
theorem rl_congr {ρ ρ' : Rn} (v : Value) (n : Nat) (hv : vtop v ≤ n) (h : ∀ i, i < n → ρ i = ρ' i) : rl ρ v = rl ρ' v := by
  apply Value.rec (motive_1 := fun v => vtop v ≤ n → rl ρ v = rl ρ' v) (motive_2 := fun a => (∀ v ∈ a, vtop v ≤ n) → a.map (rl ρ) = a.map (rl ρ'))
    (motive_3 := fun l => (∀ v ∈ l, vtop v ≤ n) → l.map (rl ρ) = l.map (rl ρ')) <;> try (intros; simp [rl]; done)
  case pointer =>
    intro a ha
    cases a with
    | none => simp [rl]
    | some a => simp only [vtop] at ha; simp only [rl, rlAddr, h a.block (by omega)]
  case slice =>
    intro a k c ha
    cases a with
    | none => simp [rl]
    | some a => simp only [vtop] at ha; simp only [rl, rlAddr, rlCap, h a.block (by omega)]
  case complex => intro k a b ha; simp only [vtop] at ha; simp only [rl, h a (by omega)]
  case map =>
    intro a ha
    cases a with
    | none => simp [rl]
    | some a => simp only [vtop] at ha; simp only [rl, h a (by omega)]
  case func =>
    intro fn a b h1 h2 ha
    rw [vtop_func] at ha
    rw [rl_func, rl_func, h1 ha.2.1, h2 ha.2.2]
    congr 1
    cases fn <;> simp only [rlFn]
    rename_i l
    have := ha.1
    simp only [fnTop] at this
    rw [h l (by omega)]
  case iface => intro t v ih hv; simp only [vtop] at hv; simp only [rl, ih hv]
  case agg => intro a ih hv; rw [vtop_agg] at hv; rw [rl_agg, rl_agg, ih hv]
  case tuple => intro a ih hv; rw [vtop_tuple] at hv; rw [rl_tuple, rl_tuple, ih hv]
  case mk => intro l ih hv; simp only [List.map_toArray]; rw [ih (fun v hm => hv v (by simpa using hm))]
  case cons =>
    intro v l ih1 ih2 hv
    simp only [List.map_cons]
    rw [ih1 (hv v (by simp)), ih2 (fun u hu => hv u (by simp [hu]))]
  · exact hv

/-- A value without names is its own realisation. -/
theorem rl_id {ρ : Rn} (v : Value) (hv : vtop v = 0) : rl ρ v = v := by
  apply Value.rec (motive_1 := fun v => vtop v = 0 → rl ρ v = v) (motive_2 := fun a => (∀ v ∈ a, vtop v = 0) → a.map (rl ρ) = a)
    (motive_3 := fun l => (∀ v ∈ l, vtop v = 0) → l.map (rl ρ) = l) <;> try (intros; simp [rl]; done)
  case pointer => intro a ha; cases a with | none => simp [rl] | some a => simp [vtop] at ha
  case slice => intro a k c ha; cases a with | none => simp [rl] | some a => simp [vtop] at ha
  case complex => intro k a b ha; simp [vtop] at ha
  case map => intro a ha; cases a with | none => simp [rl] | some a => simp [vtop] at ha
  case func =>
    intro fn a b h1 h2 ha
    have ha' := vtop_func.1 (Nat.le_of_eq ha)
    rw [rl_func, h1 (fun v hv => by have := ha'.2.1 v hv; omega), h2 (fun v hv => by have := ha'.2.2 v hv; omega)]
    cases fn <;> simp only [rlFn]
    have := ha'.1
    simp [fnTop] at this
  case iface => intro t v ih hv; simp only [vtop] at hv; simp only [rl, ih hv]
  case agg => intro a ih hv; have ha' := vtop_agg.1 (Nat.le_of_eq hv); rw [rl_agg, ih (fun v hv => by have := ha' v hv; omega)]
  case tuple => intro a ih hv; have ha' := vtop_tuple.1 (Nat.le_of_eq hv); rw [rl_tuple, ih (fun v hv => by have := ha' v hv; omega)]
  case mk => intro l ih hv; simp only [List.map_toArray]; rw [ih (fun v hm => hv v (by simpa using hm))]
  case cons =>
    intro v l ih1 ih2 hv
    simp only [List.map_cons]
    rw [ih1 (hv v (by simp)), ih2 (fun u hu => hv u (by simp [hu]))]
  · exact hv

theorem rl_oneCell (ρ : Rn) (v : Value) : (rl ρ v).oneCell' = v.oneCell' := by
  cases v <;> try rfl
  case pointer a => cases a <;> rfl
  case slice a _ _ => cases a <;> rfl
  case map a => cases a <;> rfl

theorem rl_cells (ρ : Rn) (v : Value) : (rl ρ v).cells = v.cells.map (rl ρ) := by
  cases v
  case agg cs => rw [rl_agg]; rfl
  case pointer a => cases a <;> simp [Value.cells, rl]
  case slice a _ _ => cases a <;> simp [Value.cells, rl]
  case map a => cases a <;> simp [Value.cells, rl]
  case func fn a b => rw [show Value.cells (.func fn a b) = #[.func fn a b] from rfl, rl_func, show Value.cells (.func (rlFn ρ fn) (a.map (rl ρ)) (b.map (rl ρ))) = #[.func (rlFn ρ fn) (a.map (rl ρ)) (b.map (rl ρ))] from rfl]; simp [rl_func]
  case tuple vs => rw [show Value.cells (.tuple vs) = #[.tuple vs] from rfl, rl_tuple, show Value.cells (.tuple (vs.map (rl ρ))) = #[.tuple (vs.map (rl ρ))] from rfl]; simp [rl_tuple]
  all_goals simp [Value.cells, rl]

theorem vtop_cells {v : Value} {n : Nat} (h : vtop v ≤ n) : ∀ u ∈ v.cells, vtop u ≤ n := by
  cases v <;> try (intro u hu; simp only [Value.cells, List.mem_toArray, List.mem_singleton] at hu; subst hu; exact h)
  case agg cs => exact fun u hu => vtop_agg.1 h u hu

/-! ### Heaps of named blocks -/

structure Blk where
  cells : Array Value
  esz : Nat
  own : Bool

/-- 'jump': in a loop over a function (M27): how a round has left it. -/
structure Hp where
  next : Nat
  blks : Nat → Option Blk
  jump : Option Code

def Hp.set (h : Hp) (i : Nat) (b : Blk) : Hp := { h with blks := fun j => if j = i then some b else h.blks j }
def Hp.alloc (h : Hp) (b : Blk) : Hp := { h with next := h.next + 1, blks := fun j => if j = h.next then some b else h.blks j }
def Hp.kill (h : Hp) (i : Nat) : Hp := { h with blks := fun j => if j = i then none else h.blks j }

@[simp] theorem Hp.next_set (h : Hp) (i : Nat) (b : Blk) : (h.set i b).next = h.next := id rfl
@[simp] theorem Hp.next_alloc (h : Hp) (b : Blk) : (h.alloc b).next = h.next + 1 := id rfl
@[simp] theorem Hp.next_kill (h : Hp) (i : Nat) : (h.kill i).next = h.next := id rfl
@[simp] theorem Hp.jump_set (h : Hp) (i : Nat) (b : Blk) : (h.set i b).jump = h.jump := id rfl
@[simp] theorem Hp.jump_alloc (h : Hp) (b : Blk) : (h.alloc b).jump = h.jump := id rfl
@[simp] theorem Hp.jump_kill (h : Hp) (i : Nat) : (h.kill i).jump = h.jump := id rfl
theorem Hp.blks_set (h : Hp) (i j : Nat) (b : Blk) : (h.set i b).blks j = if j = i then some b else h.blks j := rfl
theorem Hp.blks_alloc (h : Hp) (j : Nat) (b : Blk) : (h.alloc b).blks j = if j = h.next then some b else h.blks j := rfl
theorem Hp.blks_kill (h : Hp) (i j : Nat) : (h.kill i).blks j = if j = i then none else h.blks j := rfl

/-- What is not a run's own: blocks below a number, and others that are told. -/
structure Bd where
  b : Nat
  F : Nat → Prop
def Bd.mine (B : Bd) (k : Nat) : Prop := B.b ≤ k ∧ ¬ B.F k
/-- Of what is not a run's own nothing has turned. -/
structure BelowF (B : Bd) (w w' : World) : Prop where
  os : w'.os = w.os
  tape : w'.tape = w.tape
  output : w'.output = w.output
  size : w.heap.size ≤ w'.heap.size
  block : ∀ k, k < B.b ∨ B.F k → w'.heap[k]? = w.heap[k]?
theorem BelowF.refl (B : Bd) (w : World) : BelowF B w w := ⟨rfl, rfl, rfl, Nat.le_refl _, fun _ _ => rfl⟩
theorem BelowF.trans {B : Bd} {a b c : World} (h : BelowF B a b) (k : BelowF B b c) : BelowF B a c :=
  ⟨k.os.trans h.os, k.tape.trans h.tape, k.output.trans h.output, Nat.le_trans h.size k.size, fun i hi => (k.block i hi).trans (h.block i hi)⟩
theorem BelowF.alloc {B : Bd} {a w : World} (h : BelowF B a w) (hB : B.b ≤ w.heap.size ∧ ∀ k, B.F k → k < w.heap.size) (o : Obj) : BelowF B a (w.alloc o) :=
  h.trans ⟨rfl, rfl, rfl, by simp, fun k hk => RowKit.Below.heap_alloc _ _ _ (by rcases hk with hk | hk; omega; exact hB.2 k hk)⟩
theorem BelowF.setCell {B : Bd} {a w : World} (h : BelowF B a w) {p : Addr} (hp : B.mine p.block) (u : Value) : BelowF B a (w.setCell p u) :=
  h.trans ⟨rfl, rfl, rfl, by simp [World.setCell], fun k hk => RowKit.Below.heap_setCell _ _ _ _ (fun e => by
    subst e
    rcases hk with hk | hk
    · exact absurd hp.1 (by omega)
    · exact hp.2 hk)⟩
/-- The world realises a block. -/
structure BlkReal (B : Bd) (ρ : Rn) (w : World) (r : Rb) (b : Blk) (cs : Array Value) (e : TypeId) (fr : Nat × Nat) : Prop where
  at_ : w.heap[r.blk]? = some (.cells cs e fr)
  cell : ∀ (j : Nat) (hj : j < b.cells.size), cs[r.base + j]? = some (rl ρ b.cells[j])
  own : b.own = true → B.mine r.blk ∧ r.base = 0 ∧ cs.size = b.cells.size + r.extra * b.esz ∧ ∀ j, j < cs.size → ¬ (fr.1 ≤ j ∧ j < fr.2)
  ro : b.own = false → r.blk < B.b ∧ (b.esz = 0 → cs.size = r.base + b.cells.size)

structure Sim (B : Bd) (w0 : World) (ρ : Rn) (h : Hp) (w : World) : Prop where
  lt : ∀ i b, h.blks i = some b → i < h.next
  wf : ∀ i b, h.blks i = some b → ∀ v ∈ b.cells, vtop v ≤ h.next ∧ v.oneCell' = true
  real : ∀ i b, h.blks i = some b → ∃ cs e fr, BlkReal B ρ w (ρ i) b cs e fr
  inj : ∀ i j b c, h.blks i = some b → h.blks j = some c → b.own = true → c.own = true → (ρ i).blk = (ρ j).blk → i = j
  base : B.b ≤ w.heap.size ∧ ∀ k, B.F k → k < w.heap.size
  below : BelowF B w0 w
  gl : ∀ g, g < 50 → ρ (100 + g) = ⟨g, 0, 0⟩
  nx : 150 ≤ h.next

/-- What is known of names goes on. -/
def Goes (n : Nat) (ρ ρ' : Rn) : Prop := ∀ i, i < n → ρ i = ρ' i
theorem Goes.refl (n : Nat) (ρ : Rn) : Goes n ρ ρ := fun _ _ => rfl
theorem Goes.trans {n m : Nat} {ρ ρ' ρ'' : Rn} (h : Goes n ρ ρ') (hn : n ≤ m) (h' : Goes m ρ' ρ'') : Goes n ρ ρ'' :=
  fun i hi => (h i hi).trans (h' i (by omega))
theorem Goes.rl {n : Nat} {ρ ρ' : Rn} (h : Goes n ρ ρ') {v : Value} (hv : vtop v ≤ n) : Go.Mini.rl ρ v = Go.Mini.rl ρ' v := rl_congr v n hv h

/-- Told from another world, and with less that is not one's own. -/
theorem BelowF.less {B B' : Bd} {w w' : World} (h : BelowF B' w w') (hb : B.b ≤ B'.b) (hF : ∀ k, B.F k → B'.F k) : BelowF B w w' :=
  ⟨h.os, h.tape, h.output, h.size, fun k hk => h.block k (hk.elim (fun q => .inl (Nat.lt_of_lt_of_le q hb)) fun q => .inr (hF k q))⟩
theorem Sim.rebase {B B' : Bd} {w0 w1 w : World} {ρ : Rn} {h : Hp} (hs : Sim B' w1 ρ h w) (hb : B'.b = B.b) (hF : ∀ k, B.F k → B'.F k) (h0 : BelowF B w0 w1) : Sim B w0 ρ h w := by
  refine ⟨hs.lt, hs.wf, fun i b hi => ?_, hs.inj, ⟨by have := hs.base.1; omega, fun k hk => hs.base.2 k (hF k hk)⟩, h0.trans (hs.below.less (by omega) hF), hs.gl, hs.nx⟩
  obtain ⟨cs, e, fr, q⟩ := hs.real i b hi
  exact ⟨cs, e, fr, q.at_, q.cell, fun ho => by obtain ⟨q1, q2⟩ := q.own ho; exact ⟨⟨by have := q1.1; omega, fun hk => q1.2 (hF _ hk)⟩, q2⟩, fun ho => ⟨by have := (q.ro ho).1; omega, (q.ro ho).2⟩⟩

/-! ### Where a run may stand
What else is known: of the record of a loop over a function, of which a round is asked (M27). -/
/-- A map's contents, told as a code ('jump' holds them). -/
def encE : List MapEntry → Nat → Code
  | [], ck => .exit ck
  | e :: l, ck => .cond (.const e.key) (.cond (.const e.val) (.exit e.born) .skip) (encE l ck)
def decE : Code → Option (List MapEntry × Nat)
  | .exit ck => some ([], ck)
  | .cond (.const k) (.cond (.const v) (.exit b) .skip) r => (decE r).map fun p => (⟨k, v, b⟩ :: p.1, p.2)
  | _ => none
theorem dec_enc : ∀ (l : List MapEntry) (ck : Nat), decE (encE l ck) = some (l, ck)
  | [], _ => rfl
  | e :: l, ck => by rw [encE, decE, dec_enc l ck]; rfl

class REnv where
  N : Nat
  S : Nat → Prop
  can : Bool
  Γ : Option Code → Rn → World → Prop
  mono : ∀ {j : Option Code} {ρ ρ' : Rn} {w w' : World}, Γ j ρ w → Goes N ρ ρ' → (∀ k, S k → w'.heap[k]? = w.heap[k]?) → Γ j ρ' w'
  mapN : Option Nat
  mapC : mapN.isSome = true → can = true
  mapG : ∀ {j : Option Code} {ρ : Rn} {w : World} {r : Nat}, mapN = some r → Γ j ρ w → S (ρ r).blk ∧ ∃ es ck, j = some (encE es ck) ∧ w.heap[(ρ r).blk]? = some (.map es.toArray ck)
  mapS : ∀ {j : Option Code} {ρ : Rn} {w : World} {r : Nat} (es : List MapEntry) (ck : Nat), mapN = some r → Γ j ρ w → Γ (some (encE es ck)) ρ (w.putObj (ρ r).blk (.map es.toArray ck))
/-- Nothing else. -/
instance (priority := low) noEnv : REnv where
  N := 0
  S := fun _ => False
  can := false
  Γ := fun _ _ _ => True
  mono := fun _ _ _ => trivial
  mapN := none
  mapC := fun h => by cases h
  mapG := fun h => by cases h
  mapS := fun _ _ h => by cases h
structure SimE [E : REnv] (B : Bd) (w0 : World) (ρ : Rn) (h : Hp) (w : World) : Prop where
  sim : Sim B w0 ρ h w
  env : E.Γ h.jump ρ w
  top : E.N ≤ h.next
  sep : ∀ k, E.S k → k < w.heap.size ∧ B.b ≤ k ∧ ¬ B.F k
  own : ∀ i b, h.blks i = some b → b.own = true → ¬ E.S (ρ i).blk
theorem SimE.plain {B : Bd} {w0 : World} {ρ : Rn} {h : Hp} {w : World} (hs : Sim B w0 ρ h w) : @SimE noEnv B w0 ρ h w := ⟨hs, trivial, Nat.zero_le _, fun _ hk => hk.elim, fun _ _ _ _ hk => hk⟩
def Bd.un [E : REnv] (B : Bd) : Bd := ⟨B.b, fun k => B.F k ∨ E.S k⟩
/-- A step that leaves the loop's record alone. -/
theorem SimE.open_ [E : REnv] {B : Bd} {w0 : World} {ρ : Rn} {h : Hp} {w : World} (hs : SimE B w0 ρ h w) : Sim B.un w ρ h w := by
  refine ⟨hs.sim.lt, hs.sim.wf, fun i b hi => ?_, hs.sim.inj, ⟨hs.sim.base.1, fun k hk => hk.elim (hs.sim.base.2 k) fun q => (hs.sep k q).1⟩, BelowF.refl _ _, hs.sim.gl, hs.sim.nx⟩
  obtain ⟨cs, e, fr, q⟩ := hs.sim.real i b hi
  refine ⟨cs, e, fr, q.at_, q.cell, fun ho => ?_, q.ro⟩
  obtain ⟨q1, q2⟩ := q.own ho
  exact ⟨⟨q1.1, fun hk => hk.elim q1.2 (hs.own i b hi ho)⟩, q2⟩
theorem SimE.close_ [E : REnv] {B : Bd} {w0 : World} {ρ ρ' : Rn} {h h' : Hp} {w w' : World} (hs : SimE B w0 ρ h w) (h1 : Sim B.un w ρ' h' w') (hj : h'.jump = h.jump) (hn : h.next ≤ h'.next) (hg : Goes h.next ρ ρ') : SimE B w0 ρ' h' w' := by
  refine ⟨h1.rebase rfl (fun k hk => .inl hk) hs.sim.below, ?_, Nat.le_trans hs.top hn, fun k hk => ⟨Nat.lt_of_lt_of_le (hs.sep k hk).1 h1.below.size, (hs.sep k hk).2⟩, fun i b hi ho => ?_⟩
  · rw [hj]; exact E.mono hs.env (fun i hi => hg i (Nat.lt_of_lt_of_le hi hs.top)) fun k hk => h1.below.block k (.inr (.inr hk))
  · obtain ⟨_, _, _, q⟩ := h1.real i b hi
    exact fun hk => (q.own ho).1.2 (.inr hk)
theorem SimE.rebase [E : REnv] {B : Bd} {w0 w1 w : World} {ρ : Rn} {h : Hp} (hs : SimE B w1 ρ h w) (h0 : BelowF B w0 w1) : SimE B w0 ρ h w := ⟨hs.sim.rebase rfl (fun _ hk => hk) h0, hs.env, hs.top, hs.sep, hs.own⟩

/-- A call: whatever world realises the heap, it comes back with a realisation of some result and heap of which K holds. -/
def Callable (P : Program) (f : FuncId) : Prop := ∃ fn c, P.funcs[f]? = some fn ∧ fn.body = some c ∧ (fn.name == "runtime.NumGoroutine") = false

def ACall [E : REnv] (P : Program) (f : FuncId) (args : List Value) (h : Hp) (K : Value → Hp → Prop) : Prop :=
  Callable P f ∧ ∀ (B : Bd) (w0 : World) (ρ : Rn) (w : World), SimE B w0 ρ h w → (∀ v ∈ args, vtop v ≤ h.next) →
    Calls P f (args.map (rl ρ)).toArray w fun e w' => ∃ r h' ρ', e = .returned (rl ρ' r) ∧ K r h' ∧ SimE B w0 ρ' h' w' ∧ vtop r ≤ h'.next ∧ h.next ≤ h'.next ∧ Goes h.next ρ ρ' ∧ (E.can = false → h'.jump = h.jump)

theorem ACall.mono [E : REnv] {P : Program} {f : FuncId} {args : List Value} {h : Hp} {K K' : Value → Hp → Prop} (hc : ACall P f args h K) (hk : ∀ r h', K r h' → K' r h') : ACall P f args h K' :=
  ⟨hc.1, fun B w0 ρ w hs ha => (hc.2 B w0 ρ w hs ha).mono fun _ _ ⟨r, h', ρ', he, hK, hr⟩ => ⟨r, h', ρ', he, hk _ _ hK, hr⟩⟩

end Go.Mini
