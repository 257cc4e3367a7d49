/-
  Each operation that is no call does in the world what 'aop' says of names.
-/
import Derived.Test.YtmnemfeofhinaaaDoorM3
set_option linter.unusedSimpArgs false
set_option linter.unusedVariables false
set_option linter.unusedSectionVars false
namespace Go.Mini
open Go

/-- A frame's temporaries are realisations. -/
structure TR (ρ : Rn) (n : Nat) (t : Tm) (nx : Nat) (tmps : Array Value) : Prop where
  size : tmps.size = n
  get : ∀ k, k < n → tmps[k]? = some (rl ρ (t k))
  top : ∀ k, k < n → vtop (t k) ≤ nx

theorem rl_undef (ρ : Rn) : rl ρ undef = undef := rfl
theorem vtop_undef : vtop undef = 0 := rfl

theorem TR.put {ρ : Rn} {n nx : Nat} {t : Tm} {a : Act} (h : TR ρ n t nx a.tmps) (d : Option Tmp) {v : Value} (hv : vtop v ≤ nx) (hd : ∀ k, d = some k → k < n) :
    TR ρ n (upd t d v) nx (a.put d (rl ρ v)).tmps := by
  cases d with
  | none => exact h
  | some d =>
    have hdn := hd d rfl
    refine ⟨by simp [Act.put, h.size], fun k hk => ?_, fun k hk => ?_⟩
    · simp only [Act.put, upd, Array.getElem?_setIfInBounds]
      by_cases hkd : d = k
      · subst hkd; simp [h.size, hdn]
      · rw [if_neg hkd, if_neg (fun e => hkd e.symm)]; exact h.get k hk
    · simp only [upd]; split
      · exact hv
      · exact h.top k hk

theorem TR.mono {ρ ρ' : Rn} {n nx nx' : Nat} {t : Tm} {tmps : Array Value} (h : TR ρ n t nx tmps) (hg : Goes nx ρ ρ') (hn : nx ≤ nx') : TR ρ' n t nx' tmps :=
  ⟨h.size, fun k hk => by rw [h.get k hk, hg.rl (h.top k hk)], fun k hk => Nat.le_trans (h.top k hk) hn⟩

theorem TR.ev {ρ : Rn} {n nx : Nat} {t : Tm} {a : Act} (h : TR ρ n t nx a.tmps) (hgl : ∀ g, g < 50 → ρ (100 + g) = ⟨g, 0, 0⟩) (hnx : 150 ≤ nx) {x : Operand} (hx : okOpnd n x = true) : a.eval x = rl ρ (Go.Mini.ev t x) ∧ vtop (Go.Mini.ev t x) ≤ nx := by
  cases x with
  | tmp k =>
    have hk : k < n := by simpa [okOpnd] using hx
    refine ⟨?_, h.top k hk⟩
    have := h.get k hk
    simp only [Act.eval, Go.Mini.ev]
    simp [Array.getD_eq_getD_getElem?, this]
  | const v =>
    have hv : vtop v = 0 := by simpa [okOpnd] using hx
    exact ⟨(rl_id v hv).symm, by simp [Go.Mini.ev, hv]⟩
  | global g =>
    have hg : g < 50 := by simpa [okOpnd] using hx
    exact ⟨by simp [Act.eval, Go.Mini.ev, rl, rlAddr, hgl g hg], by simp only [Go.Mini.ev, vtop]; omega⟩
  | func f => exact ⟨by simp [Act.eval, Go.Mini.ev, rl, rlL, rlFn], by simp [Go.Mini.ev, vtop, fnTop, vtopL]⟩

/-! ### Types, as a run asks for them -/
section
variable {P : Program} {w : World} {ty : TypeId}

theorem info_of_underlying {d : TypeDesc} (h : P.underlying ty = some d) : ∃ i, P.info? ty = some i := by
  unfold Program.underlying at h
  cases hi : P.info? ty with
  | none => simp [hi] at h
  | some i => exact ⟨i, rfl⟩

theorem run_sizeOf {n : Nat} (h : szOf P ty = some n) : (sizeOf ty).run P w = .ok n w := by
  unfold szOf at h
  cases hi : P.info? ty with
  | none => simp [hi] at h
  | some i => simp [hi] at h; simp [sizeOf, typeInfo, hi, h]

theorem run_und {d : TypeDesc} (h : P.underlying ty = some d) : (underlying ty).run P w = .ok d w := run_underlying h w

theorem aggSz_spec {z : Option Nat} (h : aggSz P ty = some z) : (∃ d, P.underlying ty = some d) ∧ (isAgg ty).run P w = .ok z.isSome w ∧ ∀ n, z = some n → szOf P ty = some n := by
  unfold aggSz at h
  cases hu : P.underlying ty with
  | none => simp [hu] at h
  | some d =>
    obtain ⟨i, hi⟩ := info_of_underlying hu
    have hsz : szOf P ty = some (P.cellsOf ty) := by simp [szOf, Program.cellsOf, hi]
    rw [hu] at h
    refine ⟨⟨d, rfl⟩, ?_, fun n hn => ?_⟩
    · unfold isAgg
      rw [Sem.run_bind, run_und hu]
      cases d <;> simp only [Option.some.injEq] at h <;> subst h <;> rfl
    · subst hn
      cases d <;> simp only [Option.some.injEq, reduceCtorEq] at h <;> (rw [hsz, h])

theorem run_part {z : Option Nat} (h : aggSz P ty = some z) {ρ : Rn} {cs : Array Value} {off : Nat} {v : Value} (hp : partOf z cs off = some v) :
    (part ty (cs.map (rl ρ)) off).run P w = .ok (rl ρ v) w := by
  obtain ⟨_, h1, h2⟩ := aggSz_spec (w := w) h
  unfold part
  rw [Sem.run_bind, h1, Result.andThen_ok]
  cases z with
  | none =>
    simp only [partOf] at hp
    simp [hp]
  | some n =>
    simp only [partOf] at hp
    split at hp
    · cases hp
      simp only [Option.isSome_some, if_true]
      rw [Sem.run_bind, run_sizeOf (h2 n rfl), Result.andThen_ok, rl_agg]
      simp [Array.map_extract]
    · cases hp
end

theorem vtop_part {z : Option Nat} {cs : Array Value} {off n : Nat} {v : Value} (hc : ∀ u ∈ cs, vtop u ≤ n) (hp : partOf z cs off = some v) : vtop v ≤ n := by
  cases z with
  | none => exact hc v (Array.mem_of_getElem? hp)
  | some k =>
    simp only [partOf] at hp
    split at hp
    · cases hp
      exact vtop_agg.2 fun u hu => hc u (by obtain ⟨i, hi, rfl⟩ := Array.mem_iff_getElem.1 hu; simp at hi ⊢)
    · cases hp

/-! ### The operations that leave memory alone -/
section
variable {P : Program} {w : World} {ρ : Rn} {n : Nat}

theorem nilEq_equal {ty : TypeId} {x y : Value} {b : Bool} (hb : nilEq P ty x y = some b) : (Op.equal ty (rl ρ x) (rl ρ y)).run P w = .ok b w := by
  have key : ∀ d, (Op.equalIn (d + 1) ty (rl ρ x) (rl ρ y)).run P w = .ok b w := by
    intro d
    unfold nilEq at hb
    split at hb
    all_goals first
      | (cases hb; done)
      | (rename_i hu
         cases hb
         try rw [rl_func]
         simp only [Op.equalIn, Sem.run_bind, run_und hu, rl, Result.andThen_ok, Sem.run_pure, Option.isNone_some])
  exact key 9999

theorem nilEq_shape {ty : TypeId} {xo yo : Operand} {x y : Value} {b : Bool} (hb : nilEq P ty x y = some b) :
    (eqGuard .eql ty xo yo (rl ρ x) (rl ρ y)).run P w = .ok () w ∧ (eqGuard .neq ty xo yo (rl ρ x) (rl ρ y)).run P w = .ok () w ∧
        binOp .eql ty (rl ρ x) (rl ρ y) = (do pure (.bool (← Op.equal ty (rl ρ x) (rl ρ y)))) ∧ binOp .neq ty (rl ρ x) (rl ρ y) = (do pure (.bool (!(← Op.equal ty (rl ρ x) (rl ρ y))))) := by
  unfold nilEq at hb
  split at hb
  all_goals first
    | (cases hb; done)
    | (try rw [rl_func]
       simp only [rl]
       exact ⟨rfl, rfl, rfl, rfl⟩)

theorem run_abin {op : BinOp} {ty : TypeId} {xo yo : Operand} {x y v : Value} (h : abin P op ty xo yo x y = some v) :
    (do eqGuard op ty xo yo (rl ρ x) (rl ρ y); binOp op ty (rl ρ x) (rl ρ y) : Sem Value).run P w = .ok (rl ρ v) w ∧ vtop v = 0 := by
  unfold abin at h
  split at h
  · rename_i hv
    rw [rl_id x hv.1, rl_id y hv.2]
    split at h
    · rename_i v' hr
      split at h
      · rename_i hv'
        cases h
        rw [rl_id _ hv']
        exact ⟨run_of_pureRun _ hr w, hv'⟩
      · cases h
    · cases h
  · have key : ∀ b, nilEq P ty x y = some b → (Op.equal ty (rl ρ x) (rl ρ y)).run P w = .ok b w ∧ (eqGuard .eql ty xo yo (rl ρ x) (rl ρ y)).run P w = .ok () w ∧ (eqGuard .neq ty xo yo (rl ρ x) (rl ρ y)).run P w = .ok () w ∧
        binOp .eql ty (rl ρ x) (rl ρ y) = (do pure (.bool (← Op.equal ty (rl ρ x) (rl ρ y)))) ∧ binOp .neq ty (rl ρ x) (rl ρ y) = (do pure (.bool (!(← Op.equal ty (rl ρ x) (rl ρ y))))) :=
      fun b hb => ⟨nilEq_equal hb, nilEq_shape hb⟩
    split at h
    · cases hq : nilEq P ty x y with
      | none => simp [hq] at h
      | some b =>
        simp [hq] at h; subst h
        obtain ⟨h1, h2, h3, h4, h5⟩ := key b hq
        exact ⟨by rw [h4]; simp [h1, h2, rl], rfl⟩
    · cases hq : nilEq P ty x y with
      | none => simp [hq] at h
      | some b =>
        simp [hq] at h; subst h
        obtain ⟨h1, h2, h3, h4, h5⟩ := key b hq
        exact ⟨by rw [h5]; simp [h1, h3, rl], rfl⟩
    · cases h

theorem run_aun {op : UnOp} {x v : Value} (h : aun P op x = some v) : (Op.unary op (rl ρ x)).run P w = .ok (rl ρ v) w ∧ vtop v = 0 := by
  unfold aun at h
  split at h
  · rename_i hv
    rw [rl_id x hv]
    split at h
    · rename_i v' hr
      split at h
      · rename_i hv'
        cases h
        rw [rl_id _ hv']
        exact ⟨run_of_pureRun _ hr w, hv'⟩
      · cases h
    · cases h
  · cases h

theorem run_bnd {x : Value} {y m : Nat} (h : bnd x y = some m) (code : BoundsCode) : (Instr.sliceBound (rl ρ x) y code).run P w = .ok m w ∧ m ≤ y := by
  unfold bnd at h
  split at h
  · split at h
    · rename_i hi
      cases h
      refine ⟨?_, by omega⟩
      simp [Instr.sliceBound, rl, asIntOf, hi]
    · cases h
  · cases h

theorem ixInfo_spec {ty : TypeId} {m : Option Nat} {s : Nat} {z : Option Nat} (h : ixInfo P ty = some (m, s, z)) :
    (∃ k e, m = some k ∧ P.underlying ty = some (.array k e) ∧ szOf P e = some s ∧ aggSz P e = some z) ∨ (∃ e, m = none ∧ P.underlying ty = some (.slice e) ∧ szOf P e = some s ∧ aggSz P e = some z) := by
  unfold ixInfo at h
  split at h
  · rename_i k e hu
    split at h
    · rename_i s' z' h1 h2
      simp only [Option.some.injEq, Prod.mk.injEq] at h
      obtain ⟨rfl, rfl, rfl⟩ := h
      exact .inl ⟨k, e, rfl, hu, h1, h2⟩
    · cases h
  · rename_i e hu
    split at h
    · rename_i s' z' h1 h2
      simp only [Option.some.injEq, Prod.mk.injEq] at h
      obtain ⟨rfl, rfl, rfl⟩ := h
      exact .inr ⟨e, rfl, hu, h1, h2⟩
    · cases h
  · cases h

theorem rlAddr_add (ρ : Rn) (a : Addr) (k : Nat) : (rlAddr ρ a).add k = rlAddr ρ ⟨a.block, a.off + k, none⟩ := by
  simp only [rlAddr, add_mk, Nat.add_assoc]
theorem rlAddr_spot (ρ : Rn) (a : Addr) : rlAddr ρ ⟨a.block, a.off, none⟩ = rlAddr ρ a := rfl

theorem run_indexAddr {ty : TypeId} {x i v : Value} (h : aindexAddr P ty x i = some v) (hx : vtop x ≤ n) : (Instr.indexAt ty (rl ρ x) (rl ρ i)).run P w = .ok (rl ρ v) w ∧ vtop v ≤ n := by
  unfold aindexAddr at h
  cases hi : ixInfo P ty with
  | none => simp [hi] at h
  | some p =>
    obtain ⟨m, s, z⟩ := p
    rcases ixInfo_spec hi with ⟨k, e, rfl, hu, hs, _⟩ | ⟨e, rfl, hu, hs, _⟩
    · simp only [hi] at h
      split at h
      · rename_i a kk j
        split at h
        · rename_i hj
          cases h
          refine ⟨?_, by simpa [vtop] using hx⟩
          simp [Instr.indexAt, rl, asIntOf, run_und hu, Instr.sureAddr, hj, run_sizeOf hs, rlAddr_add]
        · cases h
      · cases h
    · simp only [hi] at h
      split at h
      · rename_i a len cap kk j
        split at h
        · rename_i hj
          cases h
          refine ⟨?_, by simpa [vtop] using hx⟩
          simp [Instr.indexAt, rl, asIntOf, run_und hu, hj, run_sizeOf hs, rlAddr_add]
        · cases h
      · cases h

theorem run_index {ty : TypeId} {x i v : Value} (h : aindex P ty x i = some v) (hx : vtop x ≤ n) : (Instr.index ty (rl ρ x) (rl ρ i)).run P w = .ok (rl ρ v) w ∧ vtop v ≤ n := by
  unfold aindex at h
  split at h
  · rename_i s
    split at h
    · rename_i hstr
      have hu : P.underlying ty = some .string := by
        unfold isStr at hstr
        cases hu : P.underlying ty with
        | none => simp [hu] at hstr
        | some d => cases d <;> simp_all
      split at h
      · rename_i kk j
        split at h
        · rename_i hj
          cases h
          refine ⟨?_, by simp [vtop]⟩
          have hj' : j.toNat < s.size := by omega
          have hb : s[j.toNat]? = some s[j.toNat] := by simp [hj']
          have he : bAt s j.toNat = (s[j.toNat].toNat : Int) := by
            have : s.data.toList[j.toNat]? = some s[j.toNat] := by
              have h1 : j.toNat < s.data.toList.length := by simpa using hj'
              rw [List.getElem?_eq_getElem h1]; rfl
            simp [bAt, this]
          simp [Instr.index, rl, asIntOf, run_und hu, hj.1, hb, he]
        · cases h
      · cases h
    · cases h
  · rename_i cs
    split at h
    · rename_i k s z hi
      rcases ixInfo_spec hi with ⟨k', e, hk, hu, hs, hz⟩ | ⟨e, hk, _⟩
      · cases hk
        split at h
        · rename_i kk j
          split at h
          · rename_i hj
            refine ⟨?_, vtop_part (vtop_agg.1 hx) h⟩
            have := run_part (P := P) (w := w) (ρ := ρ) hz h
            rw [rl_agg]
            simp [Instr.index, rl, asIntOf, run_und hu, hj, run_sizeOf hs, this]
          · cases h
        · cases h
      · cases hk
    · cases h
  · cases h

theorem run_field {ty : TypeId} {f : Nat} {x v : Value} (h : afield P ty x f = some v) (hx : vtop x ≤ n) : (Instr.field ty (rl ρ x) f).run P w = .ok (rl ρ v) w ∧ vtop v ≤ n := by
  unfold afield at h
  split at h
  · rename_i off z cs hf
    refine ⟨?_, vtop_part (vtop_agg.1 hx) h⟩
    unfold fldPart at hf
    split at hf
    · rename_i fs hu
      split at hf
      · rename_i fd hfd
        cases hz : aggSz P fd.type with
        | none => simp [hz] at hf
        | some z' =>
          simp only [hz, Option.map_some, Option.some.injEq, Prod.mk.injEq] at hf
          obtain ⟨rfl, rfl⟩ := hf
          have := run_part (P := P) (w := w) (ρ := ρ) hz h
          rw [rl_agg]
          simp [Instr.field, run_und hu, hfd, asAgg, this]
      · cases hf
    · cases hf
  · cases h

theorem run_fieldAddr {s : TypeId} {f off : Nat} {a : Addr} (h : fldOff P s f = some off) : (Instr.fieldAt s (.pointer (some (rlAddr ρ a))) f).run P w = .ok (.pointer (some (rlAddr ρ ⟨a.block, a.off + off, none⟩))) w := by
  unfold fldOff at h
  split at h
  · rename_i fs hu
    split at h
    · rename_i fd hfd
      split at h
      · rename_i k hs
        cases h
        simp [Instr.fieldAt, run_und hu, hfd, Instr.sureAddr, fieldPlace, run_sizeOf hs, rlAddr_add]
      · cases h
    · cases h
  · cases h

theorem run_extract {x v : Value} {i : Nat} (h : aextract x i = some v) (hx : vtop x ≤ n) : (Instr.extract (rl ρ x) i).run P w = .ok (rl ρ v) w ∧ vtop v ≤ n := by
  unfold aextract at h
  split at h
  · rename_i vs
    refine ⟨?_, vtop_tuple.1 hx v (Array.mem_of_getElem? h)⟩
    rw [rl_tuple]
    simp [Instr.extract, h]
  · cases h

end
end Go.Mini
