/-
  All operations but calls together; an operation or a call, carried out on names; the code of a function, as far as its regions ask for no order.
-/
import Derived.Test.YtmnemfeofhinaaaDoorM8
set_option linter.unusedSimpArgs false
set_option linter.unusedVariables false
set_option linter.unusedSectionVars false
namespace Go.Mini
open Go

theorem run_nilAhead {P : Program} {w : World} {ty : TypeId} {m : String} {g : FuncId} {v : Value} (hm : methOf P ty m = some g) (fuel : Nat) : (nilAhead (fuel + 1) ty v m).run P w = .ok (some false) w := by
  unfold methOf at hm
  cases hi : P.info? ty with
  | none => simp [hi] at hm
  | some i =>
    cases hf : i.methods.find? (·.name == m) with
    | none => simp [hi, hf] at hm
    | some mm =>
      simp only [hi, hf] at hm
      split at hm
      · rename_i f e h1 h2
        split at hm
        · rename_i he
          cases hm
          have hp : mm.path.toList = [] := by simpa using he
          simp [nilAhead, typeInfo, hi, hf, hp, followBlind, h1]
        · cases hm
      · cases hm
section
variable {P : Program} {B : Bd} {w0 w : World} {ρ : Rn} {h h' : Hp} {v : Value} {n : Nat} {t : Tm} {a : Act}

def okOp (n : Nat) (op : Op) : Bool := op.operands.all (okOpnd n)

/-- What an operation comes to, in its frame. -/
def OpRes (P : Program) (o : Oper) (a : Act) (B : Bd) (w0 : World) (ρ : Rn) (h : Hp) (w : World) (v : Value) (h' : Hp) : Prop :=
  ∃ ρ' w' nx, (execOp a.eval o).run P w = .ok nx w' ∧ (nx = .value (rl ρ' v) ∨ (nx = .skip ∧ v = undef)) ∧ Sim B w0 ρ' h' w' ∧ vtop v ≤ h'.next ∧ h.next ≤ h'.next ∧ Goes h.next ρ ρ'

theorem OpRes.of {o : Oper} {s : Sem Value} (he : execOp a.eval o = (do pure (.value (← s)))) (hr : Res P B w0 ρ h w s v h') : OpRes P o a B w0 ρ h w v h' := by
  obtain ⟨ρ', w', h1, h2⟩ := hr
  exact ⟨ρ', w', _, by rw [he]; simp [h1], .inl rfl, h2⟩

theorem map_ev (hE : ∀ x, okOpnd n x = true → a.eval x = rl ρ (ev t x) ∧ vtop (ev t x) ≤ h.next) (ps : Array (Nat × Operand)) (hok : ∀ p ∈ ps, okOpnd n p.2 = true) :
    (ps.map fun (i, x) => (i, a.eval x)) = ((ps.toList.map fun p => (p.1, ev t p.2)).map fun p => (p.1, rl ρ p.2)).toArray := by
  apply Array.ext'
  simp only [Array.toList_map, List.map_map]
  apply List.map_congr_left
  intro p hp
  simp only [Function.comp]
  rw [(hE p.2 (hok p (by simpa using hp))).1]

theorem args_ev (hE : ∀ x, okOpnd n x = true → a.eval x = rl ρ (ev t x) ∧ vtop (ev t x) ≤ h.next) (xs : Array Operand) (hok : ∀ x ∈ xs, okOpnd n x = true) :
    xs.map a.eval = ((xs.toList.map (ev t)).map (rl ρ)).toArray := by
  apply Array.ext'
  simp only [Array.toList_map, List.map_map]
  apply List.map_congr_left
  intro x hx
  exact (hE x (hok x (by simpa using hx))).1

theorem opt_ev (hE : ∀ x, okOpnd n x = true → a.eval x = rl ρ (ev t x) ∧ vtop (ev t x) ≤ h.next) (x : Option Operand) (hok : ∀ y, x = some y → okOpnd n y = true) : x.map a.eval = (asArg x t).map (rl ρ) := by
  cases x with
  | none => rfl
  | some y => simp only [asArg, Option.map_some]; rw [(hE y (hok y rfl)).1]

theorem run_abuiltin {b : Builtin} {ats : Array TypeId} {rt : TypeId} {cs : Array Bool} {args : List Value} (hs : Sim B w0 ρ h w) (hv : ∀ u ∈ args, vtop u ≤ h.next) (hb : abuiltin P b ats args h = some (v, h')) :
    ∃ s, builtin b ats rt cs (args.map (rl ρ)).toArray = (do pure (.value (← s))) ∧ Res P B w0 ρ h w s v h' := by
  unfold abuiltin at hb
  split at hb
  · rename_i x
    cases h0 : ats[0]? with
    | none => simp [h0] at hb
    | some ty =>
      simp only [h0] at hb
      cases hl : alen (lenK P ty) x with
      | none => simp [hl] at hb
      | some u =>
        simp only [hl, Option.some.injEq, Prod.mk.injEq] at hb
        obtain ⟨rfl, rfl⟩ := hb
        obtain ⟨h1, h2⟩ := run_alen (P := P) (w := w) (ρ := ρ) h0 hl rt
        exact ⟨_, rfl, Res.same hs ⟨h1, by omega⟩⟩
  · cases hp : apure P args (Builtin.min_ #[] 0 args.toArray) with
    | none => simp [hp] at hb
    | some u =>
      simp only [hp, Option.some.injEq, Prod.mk.injEq] at hb
      obtain ⟨rfl, rfl⟩ := hb
      obtain ⟨h1, h2, h3⟩ := apure_spec (w := w) hp
      refine ⟨_, rfl, Res.same hs ⟨?_, by omega⟩⟩
      rw [map_rl_id h1, rl_id _ h3]
      exact h2
  · cases hp : apure P args (Builtin.max_ #[] 0 args.toArray) with
    | none => simp [hp] at hb
    | some u =>
      simp only [hp, Option.some.injEq, Prod.mk.injEq] at hb
      obtain ⟨rfl, rfl⟩ := hb
      obtain ⟨h1, h2, h3⟩ := apure_spec (w := w) hp
      refine ⟨_, rfl, Res.same hs ⟨?_, by omega⟩⟩
      rw [map_rl_id h1, rl_id _ h3]
      exact h2
  · rename_i s x
    cases hi : apInfo P ats with
    | none => simp [hi] at hb
    | some r =>
      obtain ⟨esz, bytes⟩ := r
      simp only [hi] at hb
      exact ⟨_, rfl, run_aappend hs hi hb (hv s (by simp))⟩
  · rename_i d s
    cases h0 : ats[0]? with
    | none => simp [h0] at hb
    | some ty =>
      cases hi : elInfo P ty with
      | none => simp [h0, hi] at hb
      | some r =>
        obtain ⟨esz, bytes, z⟩ := r
        simp only [h0, hi] at hb
        exact ⟨_, rfl, run_acopy hs h0 hi hb (hv d (by simp))⟩
  · rename_i x
    cases h0 : ats[0]? with
    | none => simp [h0] at hb
    | some ty =>
      cases hi : elInfo P ty with
      | none => simp [h0, hi] at hb
      | some r =>
        obtain ⟨esz, bytes, z⟩ := r
        simp only [h0, hi] at hb
        exact ⟨_, rfl, run_aclear hs h0 hi hb⟩
  · cases hb

theorem aop_sound {o : Oper} (hs : Sim B w0 ρ h w) (ht : TR ρ n t h.next a.tmps) (hok : okOp n o.op = true) (hop : aop P o.op t h = some (v, h')) : OpRes P o a B w0 ρ h w v h' := by
  obtain ⟨dst, op, ty, pos, after, guard⟩ := o
  have hE : ∀ x, okOpnd n x = true → a.eval x = rl ρ (ev t x) ∧ vtop (ev t x) ≤ h.next := fun x hx => ht.ev hs.gl hs.nx hx
  have hO : ∀ x ∈ op.operands, okOpnd n x = true := fun x hx => Array.all_eq_true'.1 hok x hx
  simp only at hop hok
  cases op <;> simp only [aop] at hop <;> simp only [Op.operands] at hO <;> (try (cases hop; done))
  case move x =>
    cases hop
    obtain ⟨h1, h2⟩ := hE x (hO x (by simp))
    exact OpRes.of (s := pure (rl ρ (ev t x))) (by simp [execOp, h1]) (Res.same hs ⟨rfl, h2⟩)
  case assign x =>
    cases hop
    obtain ⟨h1, h2⟩ := hE x (hO x (by simp))
    exact OpRes.of (s := pure (rl ρ (ev t x))) (by simp [execOp, h1]) (Res.same hs ⟨rfl, h2⟩)
  case pick c x y =>
    obtain ⟨h1, _⟩ := hE c (hO c (by simp))
    obtain ⟨h2, h3⟩ := hE x (hO x (by simp))
    obtain ⟨h4, h5⟩ := hE y (hO y (by simp))
    split at hop
    · rename_i q hq
      cases hop
      refine OpRes.of (s := pure (rl ρ (if q = true then ev t x else ev t y))) ?_ (Res.same hs ⟨rfl, by split <;> assumption⟩)
      simp only [execOp, h1, hq, rl, asBool, h2, h4]
      cases q <;> rfl
    · cases hop
  case alloc ty =>
    cases hz : zeroOf P ty with
    | none => simp [hz] at hop
    | some z =>
      simp only [hz, Option.some.injEq, Prod.mk.injEq] at hop
      obtain ⟨rfl, rfl⟩ := hop
      exact OpRes.of rfl (run_alloc hs hz)
  case box ty x =>
    obtain ⟨h1, h2⟩ := hE x (hO x (by simp))
    split at hop
    · rename_i hc
      cases hop
      exact OpRes.of (s := Instr.box ty (rl ρ (ev t x))) (by simp only [execOp, h1]) (run_box hs h2 hc)
    · cases hop
  case load ty x =>
    obtain ⟨h1, h2⟩ := hE x (hO x (by simp))
    cases hl : aload P ty h (ev t x) with
    | none => simp [hl] at hop
    | some u =>
      simp only [hl, Option.some.injEq, Prod.mk.injEq] at hop
      obtain ⟨rfl, rfl⟩ := hop
      exact OpRes.of (by simp only [execOp, h1]) (Res.same hs (run_aload hs hl))
  case store ty x y =>
    obtain ⟨h1, _⟩ := hE x (hO x (by simp))
    obtain ⟨h2, h3⟩ := hE y (hO y (by simp))
    cases hst : astore P ty h (ev t x) (ev t y) with
    | none => simp [hst] at hop
    | some hh =>
      simp only [hst, Option.some.injEq, Prod.mk.injEq] at hop
      obtain ⟨rfl, rfl⟩ := hop
      obtain ⟨w', k1, k2, k3⟩ := run_astore (P := P) hs hst h3
      exact ⟨ρ, w', .skip, by simp [execOp, h1, h2, k1], .inr ⟨rfl, rfl⟩, k2, by simp [vtop_undef], by omega, Goes.refl _ _⟩
  case nilCheck x =>
    obtain ⟨h1, h2⟩ := hE x (hO x (by simp))
    cases hl : anilCheckP P (ev t x) with
    | none => simp [hl] at hop
    | some u =>
      simp only [hl, Option.some.injEq, Prod.mk.injEq] at hop
      obtain ⟨rfl, rfl⟩ := hop
      unfold anilCheckP at hl
      split at hl
      · rename_i m first b hx
        split at hl
        · rename_i t0 v0 hf
          split at hl
          · rename_i hm
            cases hl
            obtain ⟨g, hg⟩ := Option.isSome_iff_exists.1 hm
            rw [hx] at h1
            have hf' : (first.map (rl ρ))[0]? = some (.iface t0 (rl ρ v0)) := by rw [Array.getElem?_map, hf]; rfl
            have hn := run_nilAhead (P := P) (w := w) (v := rl ρ v0) hg (P.types.size + Made.depth - 1)
            have hd : P.types.size + Made.depth - 1 + 1 = P.types.size + Made.depth := by
              have : 0 < Made.depth := by decide
              omega
            rw [hd] at hn
            have he : a.eval x = .func (.method m) (first.map (rl ρ)) (b.map (rl ρ)) := by rw [h1, rl_func]; rfl
            refine ⟨ρ, w, .value (rl ρ (.func (.method m) first b)), ?_, .inl rfl, hs, by rw [← hx]; exact h2, Nat.le_refl _, Goes.refl _ _⟩
            simp only [execOp, he, hf', Sem.run_bind, run_program, Result.andThen_ok, hn]
            rw [rl_func]
            rfl
          · cases hl
        · cases hl
      have hu : u = ev t x := by
        unfold anilCheck at hl
        split at hl <;> first | (cases hl; done) | (rename_i hx; cases hl; exact hx.symm)
      refine OpRes.of (s := pure (rl ρ u)) ?_ (Res.same hs ⟨rfl, by rw [hu]; exact h2⟩)
      unfold anilCheck at hl
      split at hl <;> first | (cases hl; done) | (rename_i hx; cases hl; simp [execOp, h1, hx, rl]; done) | (rename_i hx; cases hl; simp only [execOp, h1, hx, rl_func, rlFn]; rfl)
  case binOp op ty x y yt =>
    obtain ⟨h1, _⟩ := hE x (hO x (by simp))
    obtain ⟨h2, _⟩ := hE y (hO y (by simp))
    cases hl : abin P op ty x y (ev t x) (ev t y) with
    | none => simp [hl] at hop
    | some u =>
      simp only [hl, Option.some.injEq, Prod.mk.injEq] at hop
      obtain ⟨rfl, rfl⟩ := hop
      obtain ⟨k1, k2⟩ := run_abin (P := P) (w := w) (ρ := ρ) hl
      exact OpRes.of (by simp only [execOp, h1, h2]) (Res.same hs ⟨k1, by omega⟩)
  case unOp op ty x =>
    obtain ⟨h1, _⟩ := hE x (hO x (by simp))
    cases hl : aun P op (ev t x) with
    | none => simp [hl] at hop
    | some u =>
      simp only [hl, Option.some.injEq, Prod.mk.injEq] at hop
      obtain ⟨rfl, rfl⟩ := hop
      obtain ⟨k1, k2⟩ := run_aun (P := P) (w := w) (ρ := ρ) hl
      exact OpRes.of (by simp only [execOp, h1]) (Res.same hs ⟨k1, by omega⟩)
  case convert src dt x =>
    obtain ⟨h1, _⟩ := hE x (hO x (by simp))
    exact OpRes.of (by simp only [execOp, h1]) (run_aconvert hs hop)
  case makeInterface ty x =>
    obtain ⟨h1, h2⟩ := hE x (hO x (by simp))
    split at hop
    · rename_i hc
      cases hop
      obtain ⟨d, hd⟩ := Option.isSome_iff_exists.1 hc.1
      refine OpRes.of (s := Instr.makeInterface ty (rl ρ (ev t x))) (by simp only [execOp, h1]) (Res.same hs ⟨?_, h2⟩)
      have hni := hc.2
      unfold isIface at hni
      rw [hd] at hni
      simp only [Instr.makeInterface, Sem.run_bind, run_und hd, Result.andThen_ok, rl]
      cases d <;> first | rfl | simp at hni
    · cases hop
  case makeFunc fn first captured =>
    cases fn <;> simp only at hop <;> (try (cases hop; done))
    case' func f => have hw : ∃ g : Fn, g = .func f ∧ fnTop g = 0 ∧ rlFn ρ g = g := ⟨_, rfl, rfl, rfl⟩
    case' method f => have hw : ∃ g : Fn, g = .method f ∧ fnTop g = 0 ∧ rlFn ρ g = g := ⟨_, rfl, rfl, rfl⟩
    all_goals
      obtain ⟨g, hg, hg1, hg2⟩ := hw
      rw [← hg] at hop ⊢
      cases hop
      have e1 := args_ev hE first (fun x hx => hO x (by simp [hx]))
      have e2 := args_ev hE captured (fun x hx => hO x (by simp [hx]))
      refine OpRes.of (s := pure (rl ρ (.func g (first.map (ev t)) (captured.map (ev t))))) ?_ (Res.same hs ⟨rfl, vtop_func.2 ⟨by rw [hg1]; exact Nat.zero_le _, fun u hu => ?_, fun u hu => ?_⟩⟩)
      · have e3 : ∀ xs : Array Operand, ((xs.toList.map (ev t)).map (rl ρ)).toArray = (xs.map (ev t)).map (rl ρ) := fun xs => by apply Array.ext'; simp
        simp only [execOp, Instr.makeFunc, rl_func, hg2, e1, e2, e3]
      · simp at hu; obtain ⟨x, hx, rfl⟩ := hu; exact (hE x (hO x (by simp [hx]))).2
      · simp at hu; obtain ⟨x, hx, rfl⟩ := hu; exact (hE x (hO x (by simp [hx]))).2
  case makeSlice ty l c =>
    obtain ⟨h1, _⟩ := hE l (hO l (by simp))
    obtain ⟨h2, _⟩ := hE c (hO c (by simp))
    exact OpRes.of (by simp only [execOp, h1, h2]) (run_amake hs hop)
  case slice ty x lo hi mx =>
    obtain ⟨h1, h2⟩ := hE x (hO x (by simp))
    have e1 := opt_ev hE lo (fun y hy => hO y (by simp [hy]))
    have e2 := opt_ev hE hi (fun y hy => hO y (by simp [hy]))
    have e3 := opt_ev hE mx (fun y hy => hO y (by simp [hy]))
    cases hl : aslice P ty (ev t x) (asArg lo t) (asArg hi t) (asArg mx t) with
    | none => simp [hl] at hop
    | some u =>
      simp only [hl, Option.some.injEq, Prod.mk.injEq] at hop
      obtain ⟨rfl, rfl⟩ := hop
      exact OpRes.of (by simp only [execOp, h1, e1, e2, e3]) (Res.same hs (run_slice hl h2))
  case fieldAddr s x f =>
    obtain ⟨h1, h2⟩ := hE x (hO x (by simp))
    split at hop
    · rename_i off b hf hx
      cases hop
      rw [hx] at h1 h2
      exact OpRes.of (s := Instr.fieldAt s (rl ρ (.pointer (some b))) f) (by simp only [execOp, h1]) (Res.same hs ⟨by simpa only [rl] using run_fieldAddr hf, h2⟩)
    · cases hop
  case field s x f =>
    obtain ⟨h1, h2⟩ := hE x (hO x (by simp))
    cases hl : afield P s (ev t x) f with
    | none => simp [hl] at hop
    | some u =>
      simp only [hl, Option.some.injEq, Prod.mk.injEq] at hop
      obtain ⟨rfl, rfl⟩ := hop
      exact OpRes.of (by simp only [execOp, h1]) (Res.same hs (run_field hl h2))
  case indexAddr ty x i =>
    obtain ⟨h1, h2⟩ := hE x (hO x (by simp))
    obtain ⟨h3, _⟩ := hE i (hO i (by simp))
    cases hl : aindexAddr P ty (ev t x) (ev t i) with
    | none => simp [hl] at hop
    | some u =>
      simp only [hl, Option.some.injEq, Prod.mk.injEq] at hop
      obtain ⟨rfl, rfl⟩ := hop
      exact OpRes.of (by simp only [execOp, h1, h3]) (Res.same hs (run_indexAddr hl h2))
  case index ty x i =>
    obtain ⟨h1, h2⟩ := hE x (hO x (by simp))
    obtain ⟨h3, _⟩ := hE i (hO i (by simp))
    cases hl : aindex P ty (ev t x) (ev t i) with
    | none => simp [hl] at hop
    | some u =>
      simp only [hl, Option.some.injEq, Prod.mk.injEq] at hop
      obtain ⟨rfl, rfl⟩ := hop
      exact OpRes.of (by simp only [execOp, h1, h3]) (Res.same hs (run_index hl h2))
  case build ty parts =>
    have hp : ∀ p ∈ parts, okOpnd n p.2 = true := fun p hp => hO p.2 (by simp; exact ⟨p.1, hp⟩)
    cases hl : abuild P ty (parts.toList.map fun p => (p.1, ev t p.2)) with
    | none => simp [hl] at hop
    | some u =>
      simp only [hl, Option.some.injEq, Prod.mk.injEq] at hop
      obtain ⟨rfl, rfl⟩ := hop
      refine OpRes.of (s := Instr.build ty (parts.map fun (i, x) => (i, a.eval x))) (by simp only [execOp]) (Res.same hs ?_)
      rw [map_ev hE parts hp]
      exact run_build hl (fun q hq => by simp at hq; obtain ⟨i, x, hm, rfl⟩ := hq; exact (hE x (hp _ hm)).2)
  case buildSlice ty len parts =>
    have hp : ∀ p ∈ parts, okOpnd n p.2 = true := fun p hp => hO p.2 (by simp; exact ⟨p.1, hp⟩)
    refine OpRes.of (s := Instr.buildSlice ty len (parts.map fun (i, x) => (i, a.eval x))) (by simp only [execOp]) ?_
    rw [map_ev hE parts hp]
    exact run_abuildSlice hs hop (fun q hq => by simp at hq; obtain ⟨i, x, hm, rfl⟩ := hq; exact (hE x (hp _ hm)).2)
  case extract x i =>
    obtain ⟨h1, h2⟩ := hE x (hO x (by simp))
    cases hl : aextract (ev t x) i with
    | none => simp [hl] at hop
    | some u =>
      simp only [hl, Option.some.injEq, Prod.mk.injEq] at hop
      obtain ⟨rfl, rfl⟩ := hop
      exact OpRes.of (by simp only [execOp, h1]) (Res.same hs (run_extract hl h2))
  case call c =>
    obtain ⟨callee, args, ats⟩ := c
    cases callee <;> simp only at hop <;> (try (cases hop; done))
    rename_i b
    have hp : ∀ x ∈ args, okOpnd n x = true := fun x hx => hO x (by simp [Call.operands, hx])
    obtain ⟨s, k1, k2⟩ := run_abuiltin (rt := ty) (cs := args.map fun | .const _ => true | _ => false) hs (fun u hu => by
      simp at hu; obtain ⟨x, hx, rfl⟩ := hu; exact (hE x (hp x hx)).2) hop
    refine OpRes.of ?_ k2
    simp only [execOp, resolve, args_ev hE args hp]
    exact k1

end
end Go.Mini
