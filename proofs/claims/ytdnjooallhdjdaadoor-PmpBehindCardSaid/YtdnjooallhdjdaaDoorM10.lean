/-
  Code carried out on names: operations and calls one behind the other, tests, blocks, loops, whole functions.
-/
import Derived.Test.YtdnjooallhdjdaaDoorM9
set_option linter.unusedSimpArgs false
set_option linter.unusedVariables false
namespace Go.Mini
open Go

abbrev APost := Exit → Tm → Hp → Prop

section
variable {P : Program} {n : Nat}

def Post (n : Nat) (B : Bd) (w0 : World) (ρ : Rn) (h : Hp) (ds : List Deferred) (Q : APost) : Exit → Act → World → Prop := fun e a w =>
  ∃ ρ' t' h', Q e t' h' ∧ Sim B w0 ρ' h' w ∧ TR ρ' n t' h'.next a.tmps ∧ a.defers = ds ∧ h.next ≤ h'.next ∧ Goes h.next ρ ρ'

theorem Post.back {B : Bd} {w0 w : World} {ρ ρ1 : Rn} {h h1 : Hp} {ds : List Deferred} {Q : APost} {e : Exit} {a : Act} (hp : Post n B w0 ρ1 h1 ds Q e a w) (hn : h.next ≤ h1.next) (hg : Goes h.next ρ ρ1) : Post n B w0 ρ h ds Q e a w := by
  obtain ⟨ρ', t', h', q, s, r, d, l, g⟩ := hp
  exact ⟨ρ', t', h', q, s, r, d, by omega, hg.trans hn g⟩

def Awp (P : Program) (n : Nat) (c : Code) (Q : APost) (t : Tm) (h : Hp) : Prop :=
  ∀ B w0 ρ w a, Sim B w0 ρ h w → TR ρ n t h.next a.tmps → c.wp P (Post n B w0 ρ h a.defers Q) a w

/-! ### Operations and calls -/
def OptK (r : Option (Value × Hp)) (K : Value → Hp → Prop) : Prop :=
  match r with
  | some (v, h) => K v h
  | none => False
@[congr] theorem OptK_congr {r r' : Option (Value × Hp)} {K : Value → Hp → Prop} (e : r = r') : OptK r K = OptK r' K := by rw [e]
theorem OptK_some (v : Value) (h : Hp) (K : Value → Hp → Prop) : OptK (some (v, h)) K = K v h := rfl

def methOf (P : Program) (ty : TypeId) (m : String) : Option FuncId :=
  match P.info? ty with
  | some i => match i.methods.find? (·.name == m) with
    | some mm => match mm.func, P.underlying ty with
      | some (f, true), some (.pointer _) => if mm.path.isEmpty then some f else none
      | _, _ => none
    | none => none
  | none => none

def callV (P : Program) (f : Value) (args : List Value) (h : Hp) (K : Value → Hp → Prop) : Prop :=
  match f with
  | .func (.func g) first captured => ACall P g (first.toList ++ args ++ captured.toList) h K
  | _ => False
def callM (P : Program) (r : Value) (m : String) (args : List Value) (h : Hp) (K : Value → Hp → Prop) : Prop :=
  match r with
  | .iface ty v => match methOf P ty m with
    | some g => ACall P g (v :: args) h K
    | none => False
  | _ => False
@[congr] theorem ACall_congr {f f' : FuncId} {args args' : List Value} {h h' : Hp} {K : Value → Hp → Prop} (e0 : f = f') (e1 : args = args') (e2 : h = h') : ACall P f args h K = ACall P f' args' h' K := by rw [e0, e1, e2]
@[congr] theorem callV_congr {f f' : Value} {args args' : List Value} {h h' : Hp} {K : Value → Hp → Prop} (e0 : f = f') (e1 : args = args') (e2 : h = h') : callV P f args h K = callV P f' args' h' K := by rw [e0, e1, e2]
@[congr] theorem callM_congr {f f' : Value} {m : String} {args args' : List Value} {h h' : Hp} {K : Value → Hp → Prop} (e0 : f = f') (e1 : args = args') (e2 : h = h') : callM P f m args h K = callM P f' m args' h' K := by rw [e0, e1, e2]

def astep (P : Program) (op : Op) (t : Tm) (h : Hp) (K : Value → Hp → Prop) : Prop :=
  match op with
  | .call c => match c.callee with
    | .builtin _ => OptK (aop P op t h) K
    | .value f => callV P (ev t f) (c.args.toList.map (ev t)) h K
    | .invoke r m => callM P (ev t r) m (c.args.toList.map (ev t)) h K
  | _ => OptK (aop P op t h) K

def gval (all : Array Oper) (t : Tm) (j : Nat) : Option Bool :=
  match (all[j]?).bind (·.dst) with
  | some d => match t d with
    | .bool b => some b
    | _ => none
  | none => none
def wantedA (all : Array Oper) (o : Oper) (t : Tm) : Bool :=
  match o.guard with
  | none => true
  | some (j, want) => gval all t j == some want

def GuardK (b : Bool) (A C : Prop) : Prop := if b = true then A else C
@[congr] theorem GuardK_congr {b b' : Bool} {A C : Prop} (e : b = b') : GuardK b A C = GuardK b' A C := by rw [e]
theorem GuardK_true (A C : Prop) : GuardK true A C = A := rfl
theorem GuardK_false (A C : Prop) : GuardK false A C = C := rfl

def aops (P : Program) (all : Array Oper) : List Oper → (Tm → Hp → Prop) → Tm → Hp → Prop
  | [], K, t, h => K t h
  | o :: rest, K, t, h => GuardK (wantedA all o t) (astep P o.op t h fun v h' => aops P all rest K (upd t o.dst v) h') (aops P all rest K (upd t o.dst undef) h)

def okDst (n : Nat) : Option Tmp → Bool
  | none => true
  | some d => decide (d < n)
def okOper (n : Nat) (o : Oper) : Bool := okOp n o.op && okDst n o.dst

theorem okDst_spec {n : Nat} {d : Option Tmp} (h : okDst n d = true) : ∀ k, d = some k → k < n := by
  intro k hk; subst hk; simpa [okDst] using h

theorem run_method {w : World} {ty : TypeId} {m : String} {g : FuncId} {v : Value} (hm : methOf P ty m = some g) (fuel : Nat) : (method (fuel + 1) ty v m).run P w = .ok (g, v) w := by
  unfold methOf at hm
  cases hi : P.info? ty with
  | none => simp [hi] at hm
  | some i =>
    cases hf : i.methods.find? (·.name == m) with
    | none => simp [hi, hf] at hm
    | some mm =>
      simp only [hi, hf] at hm
      split at hm
      · rename_i f e h1 h2
        split at hm
        · rename_i he
          cases hm
          have hp : mm.path.toList = [] := by simpa using he
          simp [method, typeInfo, hi, hf, hp, follow, h1, receiverAt, run_und h2, Place.get]
        · cases hm
      · cases hm

theorem extract1 (x : Value) (l : List Value) : (#[x] ++ l.toArray : Array Value).extract 1 (#[x] ++ l.toArray : Array Value).size = l.toArray := by
  apply Array.ext'
  rw [Array.toList_extract, List.extract_eq_take_drop]
  simp [List.take_of_length_le]

theorem run_callFunc {w : World} {f : FuncId} {args : Array Value} (hc : Callable P f) : (callFunc f args).run P w = .ok (.enter f args) w := by
  obtain ⟨fn, c, h1, h2, h3⟩ := hc
  simp only [callFunc, Sem.run_bind, run_program, Result.andThen_ok, h1, h3, h2, Option.isNone_some, Bool.false_eq_true, if_false, Sem.run_pure]

/-- A step behind an operation. -/
def Next1 (B : Bd) (w0 : World) (ρ : Rn) (h : Hp) (a : Act) (d : Option Tmp) (K : Value → Hp → Prop) : Act → World → Prop := fun a' w' =>
  ∃ ρ' v h', K v h' ∧ Sim B w0 ρ' h' w' ∧ vtop v ≤ h'.next ∧ a' = a.put d (rl ρ' v) ∧ h.next ≤ h'.next ∧ Goes h.next ρ ρ'

theorem astep_sound {B : Bd} {w0 w : World} {ρ : Rn} {h : Hp} {t : Tm} {a : Act} {o : Oper} {K : Value → Hp → Prop} {Q' : Exit → Act → World → Prop} (hs : Sim B w0 ρ h w) (ht : TR ρ n t h.next a.tmps) (hok : okOper n o = true)
    (hst : astep P o.op t h K) : o.wp P a w (Next1 B w0 ρ h a o.dst K) Q' := by
  have hop : okOp n o.op = true := by simp [okOper] at hok; exact hok.1
  have ofOp : OptK (aop P o.op t h) K → o.wp P a w (Next1 B w0 ρ h a o.dst K) Q' := by
    intro hk
    cases hr : aop P o.op t h with
    | none => rw [hr] at hk; exact hk.elim
    | some r =>
      obtain ⟨v, h'⟩ := r
      rw [hr] at hk
      obtain ⟨ρ', w', nx, h1, h2, h3, h4, h5, h6⟩ := aop_sound hs ht hop hr
      unfold Oper.wp
      rw [h1]
      rcases h2 with rfl | ⟨rfl, rfl⟩
      · exact ⟨ρ', v, h', hk, h3, h4, rfl, h5, h6⟩
      · exact ⟨ρ', undef, h', hk, h3, h4, rfl, h5, h6⟩
  have ofCall : ∀ g args, (execOp a.eval o).run P w = .ok (.enter g (args.map (rl ρ)).toArray) w → (∀ u ∈ args, vtop u ≤ h.next) → ACall P g args h K → o.wp P a w (Next1 B w0 ρ h a o.dst K) Q' := by
    intro g args he hv hc
    unfold Oper.wp
    rw [he]
    refine (hc.2 B w0 ρ w hs hv).mono ?_
    rintro e w' ⟨r, h', ρ', rfl, k1, k2, k3, k4, k5⟩
    exact ⟨ρ', r, h', k1, k2, k3, rfl, k4, k5⟩
  obtain ⟨dst, op, ty, pos, after, guard⟩ := o
  have hO : ∀ x ∈ op.operands, okOpnd n x = true := fun x hx => Array.all_eq_true'.1 hop x hx
  cases op <;> try exact ofOp hst
  case call c =>
    obtain ⟨callee, args, ats⟩ := c
    have hargs : ∀ x ∈ args, okOpnd n x = true := fun x hx => hO x (by simp [Op.operands, Call.operands, hx])
    have ha := args_ev (h := h) (n := n) (fun x hx => ht.ev hs.gl hs.nx hx) args hargs
    have hav : ∀ u ∈ args.toList.map (ev t), vtop u ≤ h.next := fun u hu => by
      simp at hu; obtain ⟨x, hx, rfl⟩ := hu; exact (ht.ev hs.gl hs.nx (hargs x hx)).2
    cases callee with
    | builtin b => exact ofOp hst
    | value f =>
      obtain ⟨h1, h2⟩ := ht.ev hs.gl hs.nx (hO f (by simp [Op.operands, Call.operands]))
      simp only [astep] at hst
      unfold callV at hst
      split at hst
      · rename_i g first captured hf
        rw [hf] at h1 h2
        rw [vtop_func] at h2
        refine ofCall g _ ?_ ?_ hst
        · simp only [execOp, resolve, h1, rl_func, rlFn, Deferred.ofValue, ha, Sem.run_bind, Sem.run_pure, Result.andThen_ok, invoke, run_callFunc hst.1]
          congr 2
          apply Array.ext'
          simp
        · intro u hu
          simp only [List.mem_append] at hu
          rcases hu with (hu | hu) | hu
          · exact h2.2.1 u (by simpa using hu)
          · exact hav u hu
          · exact h2.2.2 u (by simpa using hu)
      · exact hst.elim
    | invoke r m =>
      obtain ⟨h1, h2⟩ := ht.ev hs.gl hs.nx (hO r (by simp [Op.operands, Call.operands]))
      simp only [astep] at hst
      unfold callM at hst
      split at hst
      · rename_i ty' v hr
        cases hm : methOf P ty' m with
        | none => simp [hm] at hst
        | some g =>
          simp only [hm] at hst
          rw [hr] at h1 h2
          refine ofCall g (v :: args.toList.map (ev t)) ?_ ?_ hst
          · have hmeth := run_method (P := P) (w := w) (v := rl ρ v) hm (P.types.size + Made.depth - 1)
            have hd : P.types.size + Made.depth - 1 + 1 = P.types.size + Made.depth := by
              have : 0 < Made.depth := by decide
              omega
            rw [hd] at hmeth
            simp only [execOp, resolve, h1, rl, ha, Sem.run_bind, Sem.run_pure, Result.andThen_ok, invoke]
            have e0 : (#[.iface ty' (rl ρ v)] ++ (List.map (rl ρ) (List.map (ev t) args.toList)).toArray : Array Value)[0]? = some (.iface ty' (rl ρ v)) := by simp
            simp only [e0, callMethod, Sem.run_bind, run_program, Result.andThen_ok, hmeth, run_callFunc hst.1]
            rw [extract1]
            simp
          · intro u hu
            rcases List.mem_cons.1 hu with rfl | hu
            · simpa [vtop] using h2
            · exact hav u hu
      · exact hst.elim

theorem yielded_eq {ρ : Rn} {nx : Nat} {t : Tm} {a : Act} {all : Array Oper} (ht : TR ρ n t nx a.tmps) (hall : ∀ o ∈ all, okDst n o.dst = true) (j : Nat) : yielded all a.tmps j = gval all t j := by
  unfold yielded gval
  cases hd : (all[j]?).bind (·.dst) with
  | none => rfl
  | some d =>
    have hdn : d < n := by
      cases hj : all[j]? with
      | none => simp [hj] at hd
      | some o =>
        simp only [hj, Option.bind_some] at hd
        have := hall o (Array.mem_of_getElem? hj)
        rw [hd] at this
        simpa [okDst] using this
    simp only [Option.bind_some, ht.get d hdn]
    cases hv : t d <;> simp only [rl] <;> try rfl
    case pointer a => cases a <;> rfl
    case slice a _ _ => cases a <;> rfl
    case map a => cases a <;> rfl

theorem wanted_eq {ρ : Rn} {nx : Nat} {t : Tm} {a : Act} {all : Array Oper} (ht : TR ρ n t nx a.tmps) (hall : ∀ o ∈ all, okDst n o.dst = true) (o : Oper) : Region.wanted o (yielded all a.tmps) = wantedA all o t := by
  unfold Region.wanted wantedA
  cases o.guard with
  | none => rfl
  | some p => simp only [yielded_eq ht hall]

theorem aops_sound {all : Array Oper} (hall : ∀ o ∈ all, okOper n o = true) (Q : APost) {B : Bd} {w0 : World} {ρ0 : Rn} {h0 : Hp} {ds : List Deferred} (l : List Oper) : ∀ {w : World} {ρ : Rn} {h : Hp} {t : Tm} {a : Act}, (∀ o ∈ l, okOper n o = true) → Sim B w0 ρ h w → TR ρ n t h.next a.tmps →
    a.defers = ds → h0.next ≤ h.next → Goes h0.next ρ0 ρ → aops P all l (Q .normal) t h → wpList P all (Post n B w0 ρ0 h0 ds Q) l a w := by
  have hd : ∀ o ∈ all, okDst n o.dst = true := fun o ho => by have := hall o ho; simp [okOper] at this; exact this.2
  induction l with
  | nil =>
    intro w ρ h t a _ hs ht hds hn hg hk
    exact ⟨ρ, t, h, hk, hs, ht, hds, hn, hg⟩
  | cons o rest ih =>
    intro w ρ h t a hl hs ht hds hn hg hk
    have hok := hl o (by simp)
    have hod : ∀ k, o.dst = some k → k < n := okDst_spec (by simp [okOper] at hok; exact hok.2)
    have hde : ∀ u, (a.put o.dst u).defers = ds := fun u => by rw [← hds]; unfold Act.put; split <;> rfl
    unfold aops at hk
    unfold wpList
    rw [wanted_eq ht hd]
    cases hw : wantedA all o t with
    | true =>
      rw [hw] at hk
      rw [if_pos rfl]
      refine .inl (Oper.wp_mono ?_ (astep_sound hs ht hok hk))
      rintro a' w' ⟨ρ', v, h', k1, k2, k3, rfl, k4, k5⟩
      exact ih (fun o ho => hl o (by simp [ho])) k2 ((ht.mono k5 k4).put o.dst k3 hod) (hde _) (by omega) (hg.trans hn k5) k1
    | false =>
      rw [hw] at hk
      rw [if_neg (by simp)]
      have ht' := ht.put o.dst (v := undef) (by simp [vtop_undef]) hod
      rw [rl_undef] at ht'
      exact ih (fun o ho => hl o (by simp [ho])) hs ht' (hde _) hn hg hk

end
end Go.Mini
