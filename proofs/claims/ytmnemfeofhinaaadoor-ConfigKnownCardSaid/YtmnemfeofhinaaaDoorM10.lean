/-
  Code carried out on names: operations and calls one behind the other, tests, blocks, loops, whole functions.
-/
import Derived.Test.YtmnemfeofhinaaaDoorM9
import Derived.RangeFuncNested
import Derived.OrdersIn
import Derived.TacticsIn
import Derived.RangeFuncCalls
set_option linter.unusedSimpArgs false
set_option linter.unusedVariables false
set_option linter.unusedSectionVars false
namespace Go.Mini
open Go

abbrev APost := Exit → Tm → Hp → Prop

section
variable {P : Program} {n : Nat} [E : REnv]

/-- No operation says how a round is left. -/
theorem aop_jump {op : Op} {t : Tm} {h h' : Hp} {v : Value} (ha : aop P op t h = some (v, h')) : h'.jump = h.jump := by
  have grown : ∀ (g : Hp) (esz bytes k : Nat) (cs : Array Value), agrown g esz bytes k cs = some (v, h') → h'.jump = g.jump := fun g esz bytes k cs hg => by
    unfold agrown at hg
    split at hg
    · simp at hg; rw [← hg.2]; rfl
    · cases hg
  cases op <;> simp only [aop] at ha
  case alloc => split at ha <;> simp at ha; rw [← ha.2]; rfl
  case box => split at ha <;> simp at ha; rw [← ha.2]; rfl
  case store =>
    split at ha
    · rename_i g hg
      simp at ha
      rw [← ha.2]
      unfold astore at hg
      (repeat' (split at hg)) <;> (try cases hg) <;> rfl
    · cases ha
  case convert =>
    unfold aconvert at ha
    (repeat' (split at ha)) <;> (try simp at ha) <;> (try (rw [← ha.2]; try rfl))
  case makeFunc fn _ _ => cases fn <;> simp at ha <;> rw [← ha.2]
  case makeSlice =>
    unfold amake at ha
    (repeat' (split at ha)) <;> (try simp at ha) <;> (try (rw [← ha.2]; try rfl))
  case buildSlice =>
    unfold abuildSlice at ha
    (repeat' (split at ha)) <;> (try simp at ha) <;> (try (rw [← ha.2]; try rfl))
  case call c =>
    split at ha
    · unfold abuiltin at ha
      split at ha
      case h_4 =>
        split at ha
        · unfold aappend at ha
          (repeat' (split at ha)) <;> (try cases ha) <;> (try rfl) <;> first | exact grown h _ _ _ _ ha | exact grown (h.kill _) _ _ _ _ ha
        · cases ha
      case h_5 =>
        (repeat' (split at ha)) <;> (try cases ha)
        unfold acopy at ha
        (repeat' (split at ha)) <;> (try cases ha) <;> rfl
      case h_6 =>
        (repeat' (split at ha)) <;> (try cases ha)
        unfold aclear at ha
        (repeat' (split at ha)) <;> (try cases ha) <;> rfl
      all_goals ((repeat' (split at ha)) <;> (try cases ha) <;> rfl)
    · cases ha
  all_goals first
    | (simp at ha; rw [← ha.2]; done)
    | (cases ha; done)
    | ((repeat' (split at ha)) <;> (try simp at ha) <;> (try (rw [← ha.2]; try rfl)))

end

section
variable {B : Bd} {w0 w : World} {ρ : Rn} {h : Hp}
theorem Sim.jmp (hs : Sim B w0 ρ h w) (j : Option Code) : Sim B w0 ρ { h with jump := j } w := ⟨hs.lt, hs.wf, hs.real, hs.inj, hs.base, hs.below, hs.gl, hs.nx⟩
theorem putObj_os (w : World) (R : Nat) (o : Obj) : (w.putObj R o).os = w.os ∧ (w.putObj R o).tape = w.tape ∧ (w.putObj R o).output = w.output := ⟨rfl, rfl, rfl⟩
theorem BelowF.putObj {B : Bd} (w : World) {R : Nat} (hb : B.b ≤ R) (hF : ¬ B.F R) (o : Obj) : BelowF B w (w.putObj R o) :=
  ⟨rfl, rfl, rfl, by rw [World.putObj_size]; exact Nat.le_refl _, fun k hk => World.putObj_heap_other fun e => by subst e; rcases hk with hk | hk; omega; exact hF hk⟩
/-- A block of which nothing is known turns. -/
theorem Sim.turn (hs : Sim B w0 ρ h w) {R : Nat} (hb : B.b ≤ R) (hF : ¬ B.F R) (hn : ∀ i b, h.blks i = some b → b.own = true → (ρ i).blk ≠ R) (o : Obj) : Sim B w0 ρ h (w.putObj R o) := by
  refine ⟨hs.lt, hs.wf, fun i b hi => ?_, hs.inj, ⟨by rw [World.putObj_size]; exact hs.base.1, fun k hk => by rw [World.putObj_size]; exact hs.base.2 k hk⟩, hs.below.trans (BelowF.putObj w hb hF o), hs.gl, hs.nx⟩
  obtain ⟨cs, e, fr, q⟩ := hs.real i b hi
  refine ⟨cs, e, fr, ?_, q.cell, q.own, q.ro⟩
  rw [World.putObj_heap_other]
  · exact q.at_
  · intro e
    cases ho : b.own with
    | true => exact hn i b hi ho e
    | false => have h1 : (ρ i).blk < B.b := (q.ro ho).1; omega
end

/-! ### A map that is kept apart -/
section
variable {P : Program} {n : Nat}
def lookM (mt : TypeId) (es : List MapEntry) (k : Value) : Sem Value := do
  let .map key elem ← underlying mt | stuck ""
  Instr.checkKey es.isEmpty 10000 key k
  match ← Instr.findKey key k es with
  | some (_, v) => pure v
  | none => zeroValue elem
def entM (mt : TypeId) (es : List MapEntry) (ck : Nat) (k : Value) : Sem (Value × List MapEntry × Nat) := do
  let .map key elem ← underlying mt | stuck ""
  Instr.checkKey false 10000 key k
  match ← Instr.findKey key k es with
  | some (i, v) => do
    let key ← Instr.keyThatStays (((es.toArray[i]?).map (·.key)).getD k) k
    pure (.tuple #[v, goInt (((es.toArray[i]?).map (·.born)).getD 0)], (es.toArray.modify i fun e => { e with key }).toList, ck)
  | none => do
    let z ← zeroValue elem
    pure (.tuple #[z, goInt ck], es ++ [⟨k, z, ck⟩], ck + 1)
def stM (es : List MapEntry) (s v : Value) : Sem (List MapEntry) := do
  let born ← asInt s
  match es.toArray.findIdx? (fun e => (e.born : Int) == born) with
  | some i => pure (es.toArray.modify i fun e => { e with val := v }).toList
  | none => stuck ""
/-- A map's contents, where it is the one that is kept apart. -/
def asMap [E : REnv] (x : Value) (h : Hp) : Option (List MapEntry × Nat) :=
  match E.mapN, x with
  | some r, .map (some r') => if r = r' then h.jump.bind decE else none
  | _, _ => none
def okV (v : Value) : Option Value := if vtop v = 0 then some v else none
def aopE [E : REnv] (P : Program) (op : Op) (t : Tm) (h : Hp) : Option (Value × Hp) :=
  match op with
  | .lookup mt x k false => (asMap (ev t x) h).bind fun p => (okV (ev t k)).bind fun k => (pureRun P (lookM mt p.1 k)).bind fun v => (okV v).map fun v => (v, h)
  | .mapEntry mt x k => (asMap (ev t x) h).bind fun p => (okV (ev t k)).bind fun k => (pureRun P (entM mt p.1 p.2 k)).bind fun q => (okV q.1).map fun v => (v, { h with jump := some (encE q.2.1 q.2.2) })
  | .entryStore _ x s v => (asMap (ev t x) h).bind fun p => (okV (ev t s)).bind fun s => (okV (ev t v)).bind fun v => (pureRun P (stM p.1 s v)).map fun q => (undef, { h with jump := some (encE q p.2) })
  | op => aop P op t h
theorem bind_some' {α β : Type} {x : Option α} {f : α → Option β} {b : β} (h : x.bind f = some b) : ∃ a, x = some a ∧ f a = some b := by
  cases x with
  | none => cases h
  | some a => exact ⟨a, rfl, h⟩
theorem okV_spec {v u : Value} (h : okV v = some u) : u = v ∧ vtop v = 0 := by
  unfold okV at h
  split at h
  · cases h; exact ⟨rfl, by assumption⟩
  · cases h
theorem run_bind_some {α β : Type} {P : Program} {s : Sem α} {f : α → Sem β} {b : β} (h : pureRun P (s >>= f) = some b) : ∃ a, pureRun P s = some a ∧ pureRun P (f a) = some b := by
  rw [pureRun_bind] at h
  exact bind_some' h
theorem run_get_map {w : World} {r : Nat} {es : Array MapEntry} {ck : Nat} (hb : w.heap[r]? = some (.map es ck)) : (getObj r).run P w = .ok (.map es ck) w := by
  simp [getObj, Sem.run, hb]
theorem run_set_map {w : World} {r : Nat} {es : Array MapEntry} {ck : Nat} (o : Obj) (hb : w.heap[r]? = some (.map es ck)) : (setObj r o).run P w = .ok () (w.putObj r o) := by
  simp [setObj, Sem.run, hb, World.putObj]
theorem pure_und0 {ty : TypeId} : pureRun P (underlying ty) = P.underlying ty := by
  unfold underlying
  rw [pureRun_bind]
  simp only [pureRun_program, Option.bind_some]
  cases h : P.underlying ty <;> simp [stuck, pureRun]
theorem und_map {α : Type} {mt : TypeId} {f : TypeId → TypeId → Sem α} {g : Sem α} {a : α} (hg : pureRun P g = none) (h : pureRun P (do
    let .map key elem ← underlying mt | g
    f key elem) = some a) : ∃ key elem, P.underlying mt = some (.map key elem) ∧ pureRun P (f key elem) = some a := by
  obtain ⟨d, h1, h2⟩ := run_bind_some h
  rw [pure_und0] at h1
  cases d
  case map key elem => exact ⟨key, elem, h1, h2⟩
  all_goals (simp only at h2; rw [hg] at h2; cases h2)
theorem run_lookM {w : World} {r : Nat} {es : List MapEntry} {ck : Nat} {mt : TypeId} {k v : Value} (hb : w.heap[r]? = some (.map es.toArray ck)) (h : pureRun P (lookM mt es k) = some v) : (Instr.lookup mt (.map (some r)) k false).run P w = .ok v w := by
  unfold lookM at h
  obtain ⟨key, elem, hu, h⟩ := und_map rfl h
  obtain ⟨⟨⟩, h1, h⟩ := run_bind_some h
  obtain ⟨o, h2, h⟩ := run_bind_some h
  have e1 := run_of_pureRun _ h1 w
  have e2 := run_of_pureRun _ h2 w
  unfold Instr.lookup
  have e0 : es.toArray.isEmpty = es.isEmpty := by cases es <;> rfl
  simp only [Sem.run_bind, run_und hu, Result.andThen_ok, Sem.run_pure, run_get_map hb, e0, e1, e2]
  cases o with
  | none => simp only at h; have e3 := run_of_pureRun _ h w; simp [e3]
  | some p => obtain ⟨i, u⟩ := p; simp only [pureRun_pure, Option.some.injEq] at h; subst h; simp
theorem run_entM {w : World} {r : Nat} {es es' : List MapEntry} {ck ck' : Nat} {mt : TypeId} {k v : Value} (hb : w.heap[r]? = some (.map es.toArray ck)) (h : pureRun P (entM mt es ck k) = some (v, es', ck')) : (Instr.mapEntry mt (.map (some r)) k).run P w = .ok v (w.putObj r (.map es'.toArray ck')) := by
  unfold entM at h
  obtain ⟨key, elem, hu, h⟩ := und_map rfl h
  obtain ⟨⟨⟩, h1, h⟩ := run_bind_some h
  obtain ⟨o, h2, h⟩ := run_bind_some h
  have e1 := run_of_pureRun _ h1 w
  have e2 := run_of_pureRun _ h2 w
  unfold Instr.mapEntry
  simp only [Sem.run_bind, run_und hu, Result.andThen_ok, Sem.run_pure, run_get_map hb, e1, e2, List.toList_toArray]
  cases o with
  | none =>
    obtain ⟨z, h3, h⟩ := run_bind_some h
    have e3 := run_of_pureRun _ h3 w
    simp only [pureRun_pure, Option.some.injEq, Prod.mk.injEq] at h
    obtain ⟨rfl, rfl, rfl⟩ := h
    simp only [Sem.run_bind, e3, Result.andThen_ok, run_set_map _ hb, Sem.run_pure, List.push_toArray]
  | some p =>
    obtain ⟨i, u⟩ := p
    obtain ⟨kk, h3, h⟩ := run_bind_some h
    have e3 := run_of_pureRun _ h3 w
    simp only [pureRun_pure, Option.some.injEq, Prod.mk.injEq] at h
    obtain ⟨rfl, rfl, rfl⟩ := h
    simp only [Sem.run_bind, e3, Result.andThen_ok, run_set_map _ hb, Sem.run_pure, Array.toArray_toList]
theorem run_stM {w : World} {r : Nat} {es es' : List MapEntry} {ck : Nat} {mt : TypeId} {s v : Value} (hb : w.heap[r]? = some (.map es.toArray ck)) (h : pureRun P (stM es s v) = some es') : (Instr.entryStore mt (.map (some r)) s v).run P w = .ok () (w.putObj r (.map es'.toArray ck)) := by
  unfold stM at h
  obtain ⟨b, h1, h⟩ := run_bind_some h
  have e1 := run_of_pureRun _ h1 w
  unfold Instr.entryStore
  simp only [Sem.run_bind, Result.andThen_ok, run_get_map hb, e1]
  cases hf : es.toArray.findIdx? (fun e => (e.born : Int) == b) with
  | none => rw [hf] at h; cases h
  | some i =>
    rw [hf] at h
    simp only [pureRun_pure, Option.some.injEq] at h
    subst h
    simp only [run_set_map _ hb, Array.toArray_toList]
end

section
variable {P : Program} {n : Nat} [E : REnv]
/-! Marks that loops over functions leave among the calls that are to come last (M27): each of a block that holds none. -/
def mark (D : Nat) : Deferred := { target := .collected D, args := #[] }
def Bd.plus (B : Bd) (Ds : List Nat) : Bd := ⟨B.b, fun k => B.F k ∨ k ∈ Ds⟩
theorem Bd.plus_nil (B : Bd) : B.plus [] = B := by cases B; simp [Bd.plus]
theorem Bd.plus_plus (B : Bd) (Ds Es : List Nat) : (B.plus Ds).plus Es = B.plus (Es ++ Ds) := by
  cases B
  simp only [Bd.plus, Bd.mk.injEq, true_and, List.mem_append]
  funext k
  apply propext
  constructor
  · rintro ((q | q) | q)
    · exact .inl q
    · exact .inr (.inr q)
    · exact .inr (.inl q)
  · rintro (q | q | q)
    · exact .inl (.inl q)
    · exact .inr q
    · exact .inl (.inr q)
structure Mk (B : Bd) (w0 w1 : World) (Ds : List Nat) : Prop where
  below : BelowF B w0 w1
  nd : Ds.Nodup
  at_ : ∀ D ∈ Ds, B.mine D ∧ w1.heap[D]? = some (.deferred (some []))
theorem Mk.nil (B : Bd) (w0 : World) : Mk B w0 w0 [] := ⟨BelowF.refl _ _, List.nodup_nil, fun D hD => by cases hD⟩
theorem Mk.more {B : Bd} {w0 w1 w2 : World} {Ds Es : List Nat} (h1 : Mk B w0 w1 Ds) (h2 : Mk (B.plus Ds) w1 w2 Es) : Mk B w0 w2 (Es ++ Ds) := by
  refine ⟨h1.below.trans (h2.below.less (Nat.le_refl _) fun k hk => .inl hk), List.nodup_append.2 ⟨h2.nd, h1.nd, fun a ha b hb e => ?_⟩, fun D hD => ?_⟩
  · subst e; exact (h2.at_ a ha).1.2 (.inr hb)
  · rcases List.mem_append.1 hD with hD | hD
    · obtain ⟨q1, q2⟩ := h2.at_ D hD
      exact ⟨⟨q1.1, fun hk => q1.2 (.inl hk)⟩, q2⟩
    · obtain ⟨q1, q2⟩ := h1.at_ D hD
      exact ⟨q1, by rw [h2.below.block D (.inr (.inr hD))]; exact q2⟩

def Post (n : Nat) (B : Bd) (w0 : World) (ρ : Rn) (h : Hp) (ds : List Deferred) (Q : APost) : Exit → Act → World → Prop := fun e a w =>
  ∃ ρ' t' h' w1 Ds, Q e t' h' ∧ SimE (B.plus Ds) w1 ρ' h' w ∧ TR ρ' n t' h'.next a.tmps ∧ a.defers = Ds.map mark ++ ds ∧ h.next ≤ h'.next ∧ Goes h.next ρ ρ' ∧ Mk B w0 w1 Ds ∧ (E.can = false → h'.jump = h.jump)
theorem Post.of {B : Bd} {w0 w : World} {ρ ρ' : Rn} {h h' : Hp} {ds : List Deferred} {Q : APost} {e : Exit} {t' : Tm} {a : Act} (q : Q e t' h') (hs : SimE B w0 ρ' h' w) (ht : TR ρ' n t' h'.next a.tmps) (hd : a.defers = ds) (hn : h.next ≤ h'.next) (hg : Goes h.next ρ ρ') (hj : E.can = false → h'.jump = h.jump) : Post n B w0 ρ h ds Q e a w :=
  ⟨ρ', t', h', w0, [], q, by rw [Bd.plus_nil]; exact hs, ht, by simpa using hd, hn, hg, Mk.nil B w0, hj⟩
theorem Post.back {B : Bd} {w0 w1 w : World} {ρ ρ1 : Rn} {h h1 : Hp} {ds : List Deferred} {Ds : List Nat} {Q : APost} {e : Exit} {a : Act} (hp : Post n (B.plus Ds) w1 ρ1 h1 (Ds.map mark ++ ds) Q e a w) (hm : Mk B w0 w1 Ds) (hn : h.next ≤ h1.next) (hg : Goes h.next ρ ρ1) (hj : E.can = false → h1.jump = h.jump) : Post n B w0 ρ h ds Q e a w := by
  obtain ⟨ρ', t', h', w2, Es, q, s, r, d, l, g, m, j⟩ := hp
  exact ⟨ρ', t', h', w2, Es ++ Ds, q, by rw [← Bd.plus_plus]; exact s, r, by rw [d]; simp, by omega, hg.trans hn g, hm.more m, fun hc => (j hc).trans (hj hc)⟩

/-! A scope that nothing jumps about in, in whatever frame. -/
theorem stepR_scope {b : Frame} {a : Act} {k : List Item} {cs : List Frame} {w : World} {c : Code} : step P (lone (b.atR a (.code (.scope c) :: k)) cs w) = .next (lone (b.atR a (.code c :: .inScope c :: k)) cs w) :=
  step_lone_go (by simp [stepG, stepG.exec, Frame.atR])
theorem stepR_inScope {b : Frame} {a : Act} {k : List Item} {cs : List Frame} {w : World} {c : Code} : step P (lone (b.atR a (.inScope c :: k)) cs w) = .next (lone (b.atR a k) cs w) :=
  step_lone_go (by simp [stepG, stepG.exec, Frame.atR])
theorem wpIn_scope_straight {F : Fence} {m : Nat} {c : Code} {Q : Exit → Act → World → Prop} {a : Act} {w : World} (h : c.wpIn F m P (Exit.noGoto Q) a w) : (Code.scope c).wpIn F m P Q a w := by
  intro b k cs hro hb hr
  have h0 : (lone (b.atR a (.code (.scope c) :: k)) cs w).fenced P F := fenced_calm hb hr rfl
  obtain ⟨e, a₁, w₁, hq, harr⟩ := h b (.inScope c :: k) cs hro hb hr
  cases e with
  | normal => exact ⟨.normal, a₁, w₁, hq, .head h0 stepR_scope (StepsIn.trans harr (.one (fenced_calm hb hr rfl) stepR_inScope))⟩
  | exit id =>
    have hx : exitTo id (.inScope c :: k) = exitTo id k := by simp [exitTo]
    exact ⟨.exit id, a₁, w₁, hq, fun k' hk => .head h0 stepR_scope (harr.1 k' (by rw [hx]; exact hk)), fun hr' hk => let ⟨k₁, h1, h2⟩ := harr.2 hr' (by rw [hx]; exact hk); ⟨k₁, h1, .head h0 stepR_scope h2⟩⟩
  | goto l => exact hq.elim
  | ret => exact ⟨_, a₁, w₁, hq, .of_steps (.one h0 stepR_scope) harr⟩
  | panic ch => exact ⟨_, a₁, w₁, hq, .of_steps (.one h0 stepR_scope) harr⟩
  | outgrown => exact ⟨_, a₁, w₁, hq, .of_steps (.one h0 stepR_scope) harr⟩

/-- Frames of functions, and of rounds. -/
def WF (ro : Option Nat) : Fence := { Fence.wide with round := ro }
theorem calls_in {ro : Option Nat} {m : Nat} {P : Program} {f : FuncId} {args : Array Value} {w : World} {R : Ending → World → Prop} (h : Calls P f args w R) : CallsIn (WF ro) m P f args w R := by
  have h1 : CallsIn Fence.wide m P f args w R := callsIn_wide.2 h
  cases ro with
  | none => exact h1
  | some l => exact CallsIn.inRound l h1
/-- Does a loop over a function stand there? -/
def hasRange : Code → Bool
  | .rangeFunc .. => true
  | .seq a b | .cond _ a b => hasRange a || hasRange b
  | .block _ a | .scope a | .loop a => hasRange a
  | _ => false
def Awp (P : Program) (n : Nat) (c : Code) (Q : APost) (t : Tm) (h : Hp) : Prop :=
  ∀ ro, (hasRange c = true → ro = none) → ∀ B w0 ρ w a, SimE B w0 ρ h w → TR ρ n t h.next a.tmps → c.wpIn (WF ro) 0 P (Post n B w0 ρ h a.defers Q) a w

/-! ### Operations and calls -/
def OptK (r : Option (Value × Hp)) (K : Value → Hp → Prop) : Prop :=
  match r with
  | some (v, h) => K v h
  | none => False
@[congr] theorem OptK_congr {r r' : Option (Value × Hp)} {K : Value → Hp → Prop} (e : r = r') : OptK r K = OptK r' K := by rw [e]
theorem OptK_some (v : Value) (h : Hp) (K : Value → Hp → Prop) : OptK (some (v, h)) K = K v h := rfl

/-- A round of a loop over a function is asked for: as a call, where the loop's record has that name. -/
def YCall (P : Program) (L : Nat) (args : List Value) (h : Hp) (K : Value → Hp → Prop) : Prop :=
  ∀ (B : Bd) (w0 : World) (ρ : Rn) (w : World), SimE B w0 ρ h w → (∀ v ∈ args, vtop v ≤ h.next) →
    YieldAt Fence.wide 0 P (ρ L).blk (args.map (rl ρ)).toArray w fun e w' => ∃ r h' ρ', e = .returned (rl ρ' r) ∧ K r h' ∧ SimE B w0 ρ' h' w' ∧ vtop r ≤ h'.next ∧ h.next ≤ h'.next ∧ Goes h.next ρ ρ'
theorem YCall.mono {P : Program} {L : Nat} {args : List Value} {h : Hp} {K K' : Value → Hp → Prop} (hc : YCall P L args h K) (hk : ∀ r h', K r h' → K' r h') : YCall P L args h K' := fun B w0 ρ w hs ha => by
  obtain ⟨fn, tmps, assign, body, hy, hr⟩ := hc B w0 ρ w hs ha
  exact ⟨fn, tmps, assign, body, hy, hr.mono fun _ _ ⟨r, h', ρ', he, hK, q⟩ => ⟨r, h', ρ', he, hk _ _ hK, q⟩⟩

def callV (P : Program) (f : Value) (args : List Value) (h : Hp) (K : Value → Hp → Prop) : Prop :=
  match f with
  | .func (.func g) first captured => ACall P g (first.toList ++ args ++ captured.toList) h K
  | .func (.yield L) ⟨[]⟩ ⟨[]⟩ => E.can = true ∧ YCall P L args h K
  | _ => False
def callM (P : Program) (r : Value) (m : String) (args : List Value) (h : Hp) (K : Value → Hp → Prop) : Prop :=
  match r with
  | .iface ty v => match methOf P ty m with
    | some g => ACall P g (v :: args) h K
    | none => False
  | _ => False
@[congr] theorem ACall_congr {f f' : FuncId} {args args' : List Value} {h h' : Hp} {K : Value → Hp → Prop} (e0 : f = f') (e1 : args = args') (e2 : h = h') : ACall P f args h K = ACall P f' args' h' K := by rw [e0, e1, e2]
@[congr] theorem callV_congr {f f' : Value} {args args' : List Value} {h h' : Hp} {K : Value → Hp → Prop} (e0 : f = f') (e1 : args = args') (e2 : h = h') : callV P f args h K = callV P f' args' h' K := by rw [e0, e1, e2]
@[congr] theorem callM_congr {f f' : Value} {m : String} {args args' : List Value} {h h' : Hp} {K : Value → Hp → Prop} (e0 : f = f') (e1 : args = args') (e2 : h = h') : callM P f m args h K = callM P f' m args' h' K := by rw [e0, e1, e2]

def astep (P : Program) (op : Op) (t : Tm) (h : Hp) (K : Value → Hp → Prop) : Prop :=
  match op with
  | .call c => match c.callee with
    | .builtin _ => OptK (aop P op t h) K
    | .value f => callV P (ev t f) (c.args.toList.map (ev t)) h K
    | .invoke r m => callM P (ev t r) m (c.args.toList.map (ev t)) h K
  | _ => OptK (aopE P op t h) K

def gval (all : Array Oper) (t : Tm) (j : Nat) : Option Bool :=
  match (all[j]?).bind (·.dst) with
  | some d => match t d with
    | .bool b => some b
    | _ => none
  | none => none
def wantedA (all : Array Oper) (o : Oper) (t : Tm) : Bool :=
  match o.guard with
  | none => true
  | some (j, want) => gval all t j == some want

def GuardK (b : Bool) (A C : Prop) : Prop := if b = true then A else C
@[congr] theorem GuardK_congr {b b' : Bool} {A C : Prop} (e : b = b') : GuardK b A C = GuardK b' A C := by rw [e]
theorem GuardK_true (A C : Prop) : GuardK true A C = A := rfl
theorem GuardK_false (A C : Prop) : GuardK false A C = C := rfl

def aops (P : Program) (all : Array Oper) : List Oper → (Tm → Hp → Prop) → Tm → Hp → Prop
  | [], K, t, h => K t h
  | o :: rest, K, t, h => GuardK (wantedA all o t) (astep P o.op t h fun v h' => aops P all rest K (upd t o.dst v) h') (aops P all rest K (upd t o.dst undef) h)

def okDst (n : Nat) : Option Tmp → Bool
  | none => true
  | some d => decide (d < n)
def okOper (n : Nat) (o : Oper) : Bool := okOp n o.op && okDst n o.dst

theorem okDst_spec {n : Nat} {d : Option Tmp} (h : okDst n d = true) : ∀ k, d = some k → k < n := by
  intro k hk; subst hk; simpa [okDst] using h

theorem run_method {w : World} {ty : TypeId} {m : String} {g : FuncId} {v : Value} (hm : methOf P ty m = some g) (fuel : Nat) : (method (fuel + 1) ty v m).run P w = .ok (g, v) w := by
  unfold methOf at hm
  cases hi : P.info? ty with
  | none => simp [hi] at hm
  | some i =>
    cases hf : i.methods.find? (·.name == m) with
    | none => simp [hi, hf] at hm
    | some mm =>
      simp only [hi, hf] at hm
      split at hm
      · rename_i f e h1 h2
        split at hm
        · rename_i he
          cases hm
          have hp : mm.path.toList = [] := by simpa using he
          simp [method, typeInfo, hi, hf, hp, follow, h1, receiverAt, run_und h2, Place.get]
        · cases hm
      · cases hm

theorem extract1 (x : Value) (l : List Value) : (#[x] ++ l.toArray : Array Value).extract 1 (#[x] ++ l.toArray : Array Value).size = l.toArray := by
  apply Array.ext'
  rw [Array.toList_extract, List.extract_eq_take_drop]
  simp [List.take_of_length_le]

theorem run_callFunc {w : World} {f : FuncId} {args : Array Value} (hc : Callable P f) : (callFunc f args).run P w = .ok (.enter f args) w := by
  obtain ⟨fn, c, h1, h2, h3⟩ := hc
  simp only [callFunc, Sem.run_bind, run_program, Result.andThen_ok, h1, h3, h2, Option.isNone_some, Bool.false_eq_true, if_false, Sem.run_pure]

/-- A step behind an operation. -/
def Next1 (B : Bd) (w0 : World) (ρ : Rn) (h : Hp) (a : Act) (d : Option Tmp) (K : Value → Hp → Prop) : Act → World → Prop := fun a' w' =>
  ∃ ρ' v h', K v h' ∧ SimE B w0 ρ' h' w' ∧ vtop v ≤ h'.next ∧ a' = a.put d (rl ρ' v) ∧ h.next ≤ h'.next ∧ Goes h.next ρ ρ' ∧ (E.can = false → h'.jump = h.jump)

theorem asMap_spec {B : Bd} {w0 w : World} {ρ : Rn} {h : Hp} (hs : SimE B w0 ρ h w) {x : Value} {es : List MapEntry} {ck : Nat} (hm : asMap x h = some (es, ck)) :
    ∃ r, E.mapN = some r ∧ x = .map (some r) ∧ E.S (ρ r).blk ∧ w.heap[(ρ r).blk]? = some (.map es.toArray ck) := by
  unfold asMap at hm
  split at hm
  · rename_i r r' hN
    split at hm
    · rename_i hr
      subst hr
      obtain ⟨h1, es', ck', h2, h3⟩ := E.mapG hN hs.env
      rw [h2] at hm
      simp only [Option.bind_some, dec_enc, Option.some.injEq, Prod.mk.injEq] at hm
      obtain ⟨rfl, rfl⟩ := hm
      exact ⟨r, hN, rfl, h1, h3⟩
    · cases hm
  · cases hm
theorem SimE.turnMap {B : Bd} {w0 w : World} {ρ : Rn} {h : Hp} (hs : SimE B w0 ρ h w) {r : Nat} (hN : E.mapN = some r) (hS : E.S (ρ r).blk) (es : List MapEntry) (ck : Nat) : SimE B w0 ρ { h with jump := some (encE es ck) } (w.putObj (ρ r).blk (.map es.toArray ck)) := by
  obtain ⟨s1, s2, s3⟩ := hs.sep _ hS
  refine ⟨(hs.sim.turn s2 s3 (fun i b hi ho e => hs.own i b hi ho (by rw [e]; exact hS)) _).jmp _, E.mapS es ck hN hs.env, hs.top, fun k hk => ?_, hs.own⟩
  rw [World.putObj_size]
  exact hs.sep k hk
theorem aopA_sound {B : Bd} {w0 w : World} {ρ : Rn} {h h' : Hp} {t : Tm} {a : Act} {o : Oper} {v : Value} (hs : SimE B w0 ρ h w) (ht : TR ρ n t h.next a.tmps) (hok : okOp n o.op = true) (hop : aop P o.op t h = some (v, h')) :
    ∃ ρ' w' nx, (execOp a.eval o).run P w = .ok nx w' ∧ (nx = .value (rl ρ' v) ∨ (nx = .skip ∧ v = undef)) ∧ SimE B w0 ρ' h' w' ∧ vtop v ≤ h'.next ∧ h.next ≤ h'.next ∧ Goes h.next ρ ρ' ∧ (E.can = false → h'.jump = h.jump) := by
  obtain ⟨ρ', w', nx, h1, h2, h3, h4, h5, h6⟩ := aop_sound hs.open_ ht hok hop
  have hj := aop_jump hop
  exact ⟨ρ', w', nx, h1, h2, hs.close_ h3 hj h5 h6, h4, h5, h6, fun _ => hj⟩
theorem aopE_sound {B : Bd} {w0 w : World} {ρ : Rn} {h h' : Hp} {t : Tm} {a : Act} {o : Oper} {v : Value} (hs : SimE B w0 ρ h w) (ht : TR ρ n t h.next a.tmps) (hok : okOp n o.op = true) (hop : aopE P o.op t h = some (v, h')) :
    ∃ ρ' w' nx, (execOp a.eval o).run P w = .ok nx w' ∧ (nx = .value (rl ρ' v) ∨ (nx = .skip ∧ v = undef)) ∧ SimE B w0 ρ' h' w' ∧ vtop v ≤ h'.next ∧ h.next ≤ h'.next ∧ Goes h.next ρ ρ' ∧ (E.can = false → h'.jump = h.jump) := by
  obtain ⟨dst, op, ty, pos, after, guard⟩ := o
  have hO : ∀ x ∈ op.operands, okOpnd n x = true := fun x hx => Array.all_eq_true'.1 hok x hx
  have hE : ∀ x ∈ op.operands, a.eval x = rl ρ (ev t x) ∧ vtop (ev t x) ≤ h.next := fun x hx => ht.ev hs.sim.gl hs.sim.nx (hO x hx)
  cases op <;> try exact aopA_sound hs ht hok hop
  case lookup mt x k ok =>
    cases ok with
    | true => exact aopA_sound hs ht hok hop
    | false =>
      obtain ⟨⟨es, ck⟩, h1, h2⟩ := bind_some' hop
      obtain ⟨k', h3, h4⟩ := bind_some' h2
      obtain ⟨rfl, h5⟩ := okV_spec h3
      obtain ⟨u, h6, h7⟩ := bind_some' h4
      simp only [Option.map_eq_some_iff] at h7
      obtain ⟨u', h8, h9⟩ := h7
      obtain ⟨rfl, h10⟩ := okV_spec h8
      cases h9
      obtain ⟨r, r1, r2, r3, r4⟩ := asMap_spec hs h1
      obtain ⟨e1, _⟩ := hE x (by simp [Op.operands])
      obtain ⟨e2, _⟩ := hE k (by simp [Op.operands])
      rw [r2] at e1
      rw [rl_id _ h5] at e2
      have hrun := run_lookM (mt := mt) r4 h6
      refine ⟨ρ, w, .value v, ?_, .inl (by rw [rl_id _ h10]), hs, by omega, Nat.le_refl _, Goes.refl _ _, fun _ => rfl⟩
      simp [execOp, e1, e2, rl, hrun]
  case mapEntry mt x k =>
    obtain ⟨⟨es, ck⟩, h1, h2⟩ := bind_some' hop
    obtain ⟨k', h3, h4⟩ := bind_some' h2
    obtain ⟨rfl, h5⟩ := okV_spec h3
    obtain ⟨⟨u, es', ck'⟩, h6, h7⟩ := bind_some' h4
    simp only [Option.map_eq_some_iff] at h7
    obtain ⟨u', h8, h9⟩ := h7
    obtain ⟨rfl, h10⟩ := okV_spec h8
    cases h9
    obtain ⟨r, r1, r2, r3, r4⟩ := asMap_spec hs h1
    obtain ⟨e1, _⟩ := hE x (by simp [Op.operands])
    obtain ⟨e2, _⟩ := hE k (by simp [Op.operands])
    rw [r2] at e1
    rw [rl_id _ h5] at e2
    have hrun := run_entM (mt := mt) r4 h6
    refine ⟨ρ, _, .value v, ?_, .inl (by rw [rl_id _ h10]), hs.turnMap r1 r3 es' ck', by show vtop v ≤ h.next; omega, Nat.le_refl _, Goes.refl _ _, fun hc => ?_⟩
    · simp [execOp, e1, e2, rl, hrun]
    · rw [E.mapC (by rw [r1]; rfl)] at hc; cases hc
  case entryStore mt x s u =>
    obtain ⟨⟨es, ck⟩, h1, h2⟩ := bind_some' hop
    obtain ⟨s', h3, h4⟩ := bind_some' h2
    obtain ⟨rfl, h5⟩ := okV_spec h3
    obtain ⟨u', h3', h4⟩ := bind_some' h4
    obtain ⟨rfl, h5'⟩ := okV_spec h3'
    simp only [Option.map_eq_some_iff] at h4
    obtain ⟨es', h6, h9⟩ := h4
    cases h9
    obtain ⟨r, r1, r2, r3, r4⟩ := asMap_spec hs h1
    obtain ⟨e1, _⟩ := hE x (by simp [Op.operands])
    obtain ⟨e2, _⟩ := hE s (by simp [Op.operands])
    obtain ⟨e3, _⟩ := hE u (by simp [Op.operands])
    rw [r2] at e1
    rw [rl_id _ h5] at e2
    rw [rl_id _ h5'] at e3
    have hrun := run_stM (mt := mt) r4 h6
    refine ⟨ρ, _, .skip, ?_, .inr ⟨rfl, rfl⟩, hs.turnMap r1 r3 es' ck, by simp [vtop_undef], Nat.le_refl _, Goes.refl _ _, fun hc => ?_⟩
    · simp [execOp, e1, e2, e3, rl, hrun]
    · rw [E.mapC (by rw [r1]; rfl)] at hc; cases hc

theorem astep_sound {ro : Option Nat} {B : Bd} {w0 w : World} {ρ : Rn} {h : Hp} {t : Tm} {a : Act} {o : Oper} {K : Value → Hp → Prop} {Q' : Exit → Act → World → Prop} (hs : SimE B w0 ρ h w) (ht : TR ρ n t h.next a.tmps) (hok : okOper n o = true)
    (hst : astep P o.op t h K) : o.wpIn (WF ro) 0 P a w (Next1 B w0 ρ h a o.dst K) Q' := by
  have hop : okOp n o.op = true := by simp [okOper] at hok; exact hok.1
  have hnd : ∀ c, o.op ≠ .defer c := fun c e => by rw [e] at hst; exact hst.elim
  have hrun := Oper.semAt_eq ro a.eval o hnd
  have ofOp : OptK (aopE P o.op t h) K → o.wpIn (WF ro) 0 P a w (Next1 B w0 ρ h a o.dst K) Q' := by
    intro hk
    cases hr : aopE P o.op t h with
    | none => rw [hr] at hk; exact hk.elim
    | some r =>
      obtain ⟨v, h'⟩ := r
      rw [hr] at hk
      obtain ⟨ρ', w', nx, h1, h2, h3, h4, h5, h6, hj⟩ := aopE_sound hs ht hop hr
      refine ⟨fun _ _ => trivial, ?_⟩
      show o.uponIn (WF ro) 0 P a _ Q' ((o.semAt ro a.eval).run P w)
      rw [hrun, h1]
      rcases h2 with rfl | ⟨rfl, rfl⟩
      · exact ⟨ρ', v, h', hk, h3, h4, rfl, h5, h6, hj⟩
      · exact ⟨ρ', undef, h', hk, h3, h4, rfl, h5, h6, hj⟩
  have ofCall : ∀ g args, (execOp a.eval o).run P w = .ok (.enter g (args.map (rl ρ)).toArray) w → (∀ u ∈ args, vtop u ≤ h.next) → ACall P g args h K → o.wpIn (WF ro) 0 P a w (Next1 B w0 ρ h a o.dst K) Q' := by
    intro g args he hv hc
    refine ⟨fun _ _ => trivial, ?_⟩
    show o.uponIn (WF ro) 0 P a _ Q' ((o.semAt ro a.eval).run P w)
    rw [hrun, he]
    refine ⟨fun hq => absurd hq (by simp [WF, Fence.wide]), calls_in ((hc.2 B w0 ρ w hs hv).mono ?_)⟩
    rintro e w' ⟨r, h', ρ', rfl, k1, k2, k3, k4, k5, k6⟩
    exact ⟨ρ', r, h', k1, k2, k3, rfl, k4, k5, k6⟩
  obtain ⟨dst, op, ty, pos, after, guard⟩ := o
  have hO : ∀ x ∈ op.operands, okOpnd n x = true := fun x hx => Array.all_eq_true'.1 hop x hx
  have hgl := hs.sim.gl
  have hnx := hs.sim.nx
  cases op <;> try exact ofOp hst
  case call c =>
    obtain ⟨callee, args, ats⟩ := c
    have hargs : ∀ x ∈ args, okOpnd n x = true := fun x hx => hO x (by simp [Op.operands, Call.operands, hx])
    have ha := args_ev (h := h) (n := n) (fun x hx => ht.ev hgl hnx hx) args hargs
    have hav : ∀ u ∈ args.toList.map (ev t), vtop u ≤ h.next := fun u hu => by
      simp at hu; obtain ⟨x, hx, rfl⟩ := hu; exact (ht.ev hgl hnx (hargs x hx)).2
    cases callee with
    | builtin b => exact ofOp hst
    | value f =>
      obtain ⟨h1, h2⟩ := ht.ev hgl hnx (hO f (by simp [Op.operands, Call.operands]))
      simp only [astep] at hst
      unfold callV at hst
      split at hst
      · rename_i g first captured hf
        rw [hf] at h1 h2
        rw [vtop_func] at h2
        refine ofCall g _ ?_ ?_ hst
        · simp only [execOp, resolve, h1, rl_func, rlFn, Deferred.ofValue, ha, Sem.run_bind, Sem.run_pure, Result.andThen_ok, invoke, run_callFunc hst.1]
          congr 2
          apply Array.ext'
          simp
        · intro u hu
          simp only [List.mem_append] at hu
          rcases hu with (hu | hu) | hu
          · exact h2.2.1 u (by simpa using hu)
          · exact hav u hu
          · exact h2.2.2 u (by simpa using hu)
      · rename_i L hf
        rw [hf] at h1
        obtain ⟨fn, tmps, assign, body, hy, hr⟩ := hst.2 B w0 ρ w hs hav
        refine ⟨fun _ _ => trivial, ?_⟩
        show Oper.uponIn (WF ro) 0 P _ a _ Q' ((Oper.semAt ro a.eval _).run P w)
        rw [hrun]
        have he : (execOp a.eval ⟨dst, .call ⟨.value f, args, ats⟩, ty, pos, after, guard⟩).run P w = .ok (.round (ρ L).blk fn tmps assign body) w := by
          simp only [execOp, resolve, h1, rl_func, rlFn, Deferred.ofValue, ha, Sem.run_bind, Sem.run_pure, Result.andThen_ok, invoke]
          have e0 : (Array.map (rl ρ) { toList := [] } ++ (List.map (rl ρ) (List.map (ev t) args.toList)).toArray : Array Value) = (List.map (rl ρ) (List.map (ev t) args.toList)).toArray := by
            apply Array.ext'
            simp
          rw [e0]
          exact hy
        rw [he]
        refine ⟨fun hq => absurd hq (by simp [WF, Fence.wide]), ?_⟩
        have hr' : RoundIn (WF ro) 0 P (ρ L).blk fn tmps assign body w _ := hr
        refine hr'.mono ?_
        rintro e w' ⟨r, h', ρ', rfl, k1, k2, k3, k4, k5⟩
        exact ⟨ρ', r, h', k1, k2, k3, rfl, k4, k5, fun hc => by rw [hst.1] at hc; cases hc⟩
      · exact hst.elim
    | invoke r m =>
      obtain ⟨h1, h2⟩ := ht.ev hgl hnx (hO r (by simp [Op.operands, Call.operands]))
      simp only [astep] at hst
      unfold callM at hst
      split at hst
      · rename_i ty' v hr
        cases hm : methOf P ty' m with
        | none => simp [hm] at hst
        | some g =>
          simp only [hm] at hst
          rw [hr] at h1 h2
          refine ofCall g (v :: args.toList.map (ev t)) ?_ ?_ hst
          · have hmeth := run_method (P := P) (w := w) (v := rl ρ v) hm (P.types.size + Made.depth - 1)
            have hd : P.types.size + Made.depth - 1 + 1 = P.types.size + Made.depth := by
              have : 0 < Made.depth := by decide
              omega
            rw [hd] at hmeth
            simp only [execOp, resolve, h1, rl, ha, Sem.run_bind, Sem.run_pure, Result.andThen_ok, invoke]
            have e0 : (#[.iface ty' (rl ρ v)] ++ (List.map (rl ρ) (List.map (ev t) args.toList)).toArray : Array Value)[0]? = some (.iface ty' (rl ρ v)) := by simp
            simp only [e0, callMethod, Sem.run_bind, run_program, Result.andThen_ok, hmeth, run_callFunc hst.1]
            rw [extract1]
            simp
          · intro u hu
            rcases List.mem_cons.1 hu with rfl | hu
            · simpa [vtop] using h2
            · exact hav u hu
      · exact hst.elim

theorem yielded_eq {ρ : Rn} {nx : Nat} {t : Tm} {a : Act} {all : Array Oper} (ht : TR ρ n t nx a.tmps) (hall : ∀ o ∈ all, okDst n o.dst = true) (j : Nat) : yielded all a.tmps j = gval all t j := by
  unfold yielded gval
  cases hd : (all[j]?).bind (·.dst) with
  | none => rfl
  | some d =>
    have hdn : d < n := by
      cases hj : all[j]? with
      | none => simp [hj] at hd
      | some o =>
        simp only [hj, Option.bind_some] at hd
        have := hall o (Array.mem_of_getElem? hj)
        rw [hd] at this
        simpa [okDst] using this
    simp only [Option.bind_some, ht.get d hdn]
    cases hv : t d <;> simp only [rl] <;> try rfl
    case pointer a => cases a <;> rfl
    case slice a _ _ => cases a <;> rfl
    case map a => cases a <;> rfl

theorem wanted_eq {ρ : Rn} {nx : Nat} {t : Tm} {a : Act} {all : Array Oper} (ht : TR ρ n t nx a.tmps) (hall : ∀ o ∈ all, okDst n o.dst = true) (o : Oper) : Region.wanted o (yielded all a.tmps) = wantedA all o t := by
  unfold Region.wanted wantedA
  cases o.guard with
  | none => rfl
  | some p => simp only [yielded_eq ht hall]

theorem aops_sound {ro : Option Nat} {all : Array Oper} (hall : ∀ o ∈ all, okOper n o = true) (Q : APost) {B : Bd} {w0 : World} {ρ0 : Rn} {h0 : Hp} {ds : List Deferred} (l : List Oper) : ∀ {w : World} {ρ : Rn} {h : Hp} {t : Tm} {a : Act}, (∀ o ∈ l, okOper n o = true) → SimE B w0 ρ h w → TR ρ n t h.next a.tmps →
    a.defers = ds → h0.next ≤ h.next → Goes h0.next ρ0 ρ → (E.can = false → h.jump = h0.jump) → aops P all l (Q .normal) t h → wpListIn (WF ro) 0 P all (Post n B w0 ρ0 h0 ds Q) l a w := by
  have hd : ∀ o ∈ all, okDst n o.dst = true := fun o ho => by have := hall o ho; simp [okOper] at this; exact this.2
  induction l with
  | nil =>
    intro w ρ h t a _ hs ht hds hn hg hj hk
    exact Post.of hk hs ht hds hn hg hj
  | cons o rest ih =>
    intro w ρ h t a hl hs ht hds hn hg hj hk
    have hok := hl o (by simp)
    have hod : ∀ k, o.dst = some k → k < n := okDst_spec (by simp [okOper] at hok; exact hok.2)
    have hde : ∀ u, (a.put o.dst u).defers = ds := fun u => by rw [← hds]; unfold Act.put; split <;> rfl
    unfold aops at hk
    unfold wpListIn
    rw [wanted_eq ht hd]
    cases hw : wantedA all o t with
    | true =>
      rw [hw] at hk
      rw [if_pos rfl]
      refine Oper.wpIn_mono ?_ (astep_sound hs ht hok hk)
      rintro a' w' ⟨ρ', v, h', k1, k2, k3, rfl, k4, k5, k6⟩
      exact ih (fun o ho => hl o (by simp [ho])) k2 ((ht.mono k5 k4).put o.dst k3 hod) (hde _) (by omega) (hg.trans hn k5) (fun hc => (k6 hc).trans (hj hc)) k1
    | false =>
      rw [hw] at hk
      rw [if_neg (by simp)]
      have ht' := ht.put o.dst (v := undef) (by simp [vtop_undef]) hod
      rw [rl_undef] at ht'
      exact ⟨fun _ _ => trivial, ih (fun o ho => hl o (by simp [ho])) hs ht' (hde _) hn hg hj hk⟩

end
end Go.Mini
