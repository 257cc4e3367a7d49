/-
  Whatever order a region draws: the walk in the order of the text serves it.
-/
import Derived.Test.YtmnemfeofhinaaaDoorM11
set_option linter.unusedSimpArgs false
set_option linter.unusedVariables false
set_option linter.unusedSectionVars false
namespace Go.Mini
open Go

section
variable {P : Program} {n : Nat} [E : REnv]

theorem looks_op {all : Array Oper} {o : Oper} {x : Operand} (hx : x ∈ o.op.operands) {k : Tmp} (hk : x = .tmp k) : k ∈ o.looksAt all := by
  subst hk
  exact List.mem_append_left _ (List.mem_filterMap.2 ⟨.tmp k, by simpa using hx, rfl⟩)

theorem stepD_mono {all : Array Oper} {pure : Marks} {i : Nat} {o : Oper} {t : Tm} {h : Hp} {K K' : Tm → Hp → Prop} (hk : ∀ t h, K t h → K' t h) (hst : stepD P all pure i o t h K) : stepD P all pure i o t h K' := by
  unfold stepD at *
  cases hw : wantedA all o t with
  | true =>
    rw [hw] at hst
    cases hn : isNeu pure.l i with
    | true => rw [hn] at hst; obtain ⟨a, b, c⟩ := hst; exact ⟨a, b, hk _ _ c⟩
    | false => rw [hn] at hst; exact astep_mono (fun v h' ⟨a, b⟩ => ⟨a, hk _ _ b⟩) hst
  | false => rw [hw] at hst; exact hk _ _ hst

/-- A step, without its marks. -/
theorem stepD_astep {all : Array Oper} {pure : Marks} {i : Nat} {o : Oper} {t : Tm} {h : Hp} {K : Tm → Hp → Prop} (hst : stepD P all pure i o t h K) :
    GuardK (wantedA all o t) (astep P o.op t h fun v h' => K (upd t o.dst v) h') (K (upd t o.dst undef) h) := by
  unfold stepD at hst
  cases hw : wantedA all o t with
  | true =>
    rw [hw] at hst
    cases hn : isNeu pure.l i with
    | true => rw [hn] at hst; obtain ⟨_, b, c⟩ := hst; exact astep_mono (fun u h'' ⟨e1, e2⟩ => by rw [e1, e2]; exact c) (b h)
    | false => rw [hn] at hst; exact astep_mono (fun v h' ⟨_, b⟩ => b) hst
  | false => rw [hw] at hst; exact hst

theorem Real.upd {t : Tm} {h : Hp} (hr : Real n t h) (d : Option Tmp) {v : Value} (hv : vtop v = 0) : Real n (upd t d v) h := by
  obtain ⟨B, w0, ρ, w, hs, ht⟩ := hr
  refine ⟨B, w0, ρ, w, hs, fun k hk => ?_⟩
  unfold Go.Mini.upd
  cases d with
  | none => exact ht k hk
  | some d => simp only; split; omega; exact ht k hk

theorem stepD_real {all : Array Oper} {pure : Marks} {i : Nat} {o : Oper} {t : Tm} {h : Hp} {K : Tm → Hp → Prop} (hok : okOper n o = true) (hr : Real n t h) (hst : stepD P all pure i o t h K) :
    stepD P all pure i o t h fun t' h' => K t' h' ∧ Real n t' h' := by
  unfold stepD at *
  cases hw : wantedA all o t with
  | true =>
    rw [hw] at hst
    cases hn : isNeu pure.l i with
    | true => rw [hn] at hst; obtain ⟨a, b, c⟩ := hst; exact ⟨a, b, c, hr.upd _ a⟩
    | false => rw [hn] at hst; exact astep_mono (fun v h' ⟨⟨a, b⟩, c⟩ => ⟨a, b, c⟩) (astep_real hok hr hst)
  | false => rw [hw] at hst; exact ⟨hst, hr.upd _ vtop_undef⟩

/-- Two operations exchanged. -/
theorem stepD_swap {all : Array Oper} {pure : Marks} {x i : Nat} {ox oi : Oper} {t : Tm} {h : Hp} {K : Tm → Hp → Prop} (hsw : swapOk P all pure.l x i ox oi = true) (hr : Real n t h) (hokx : okOper n ox = true) (hoki : okOper n oi = true)
    (hst : stepD P all pure x ox t h fun t' h' => stepD P all pure i oi t' h' K) : stepD P all pure i oi t h fun t' h' => stepD P all pure x ox t' h' K := by
  simp only [swapOk, Bool.or_eq_true, Bool.and_eq_true] at hsw
  have hap : ox.apart all oi = true := by rcases hsw with q | q <;> exact q.1
  obtain ⟨a1, a2, a3⟩ := Oper.apart_spec hap
  have opx : ∀ y ∈ ox.op.operands, ∀ k, oi.dst = some k → y ≠ .tmp k := fun y hy k hk he => a3 k hk (looks_op hy he)
  have opi : ∀ y ∈ oi.op.operands, ∀ k, ox.dst = some k → y ≠ .tmp k := fun y hy k hk he => a1 k hk (looks_op hy he)
  have wx : ∀ v, wantedA all ox (upd t oi.dst v) = wantedA all ox t := fun v => wantedA_upd a3
  have wi : ∀ v, wantedA all oi (upd t ox.dst v) = wantedA all oi t := fun v => wantedA_upd a1
  have uc : ∀ v u, upd (upd t ox.dst v) oi.dst u = upd (upd t oi.dst u) ox.dst v := fun v u => upd_comm t v u a2
  have sx : ∀ v h K, astep P ox.op (upd t oi.dst v) h K = astep P ox.op t h K := fun v h K => (astep_upd opx K).1
  have si : ∀ v h K, astep P oi.op (upd t ox.dst v) h K = astep P oi.op t h K := fun v h K => (astep_upd opi K).1
  have rx : ∀ v, ReadIn pure.R ox.op (upd t oi.dst v) ↔ ReadIn pure.R ox.op t := fun v => ReadIn_upd opx
  have ri : ∀ v, ReadIn pure.R oi.op (upd t ox.dst v) ↔ ReadIn pure.R oi.op t := fun v => ReadIn_upd opi
  have vi : ∀ y ∈ oi.op.operands, vtop (ev t y) ≤ h.next := by
    obtain ⟨B, w0, ρ, w, hs, hv⟩ := hr
    have hnx := hs.sim.nx
    intro y hy
    have hop : okOp n oi.op = true := by simp [okOper] at hoki; exact hoki.1
    have hy' := Array.all_eq_true'.1 hop y hy
    cases y with
    | tmp k => exact hv k (by simpa [okOpnd] using hy')
    | const v => have : vtop v = 0 := by simpa [okOpnd] using hy'
                 simp [ev, this]
    | global g =>
      have hg : g < 50 := by simpa [okOpnd] using hy'
      simp only [ev, vtop]; omega
    | func f => simp [ev, vtop, fnTop, vtopL]
  have vx : ∀ y ∈ ox.op.operands, vtop (ev t y) ≤ h.next := by
    obtain ⟨B, w0, ρ, w, hs, hv⟩ := hr
    have hnx := hs.sim.nx
    intro y hy
    have hop : okOp n ox.op = true := by simp [okOper] at hokx; exact hokx.1
    have hy' := Array.all_eq_true'.1 hop y hy
    cases y with
    | tmp k => exact hv k (by simpa [okOpnd] using hy')
    | const v => have : vtop v = 0 := by simpa [okOpnd] using hy'
                 simp [ev, this]
    | global g =>
      have hg : g < 50 := by simpa [okOpnd] using hy'
      simp only [ev, vtop]; omega
    | func f => simp [ev, vtop, fnTop, vtopL]
  by_cases hneu : isNeu pure.l x = true ∨ isNeu pure.l i = true
  · have ax : ∀ v, (argsOf ox.op).map (ev (upd t oi.dst v)) = (argsOf ox.op).map (ev t) := fun v => args_upd opx
    have ai : ∀ v, (argsOf oi.op).map (ev (upd t ox.dst v)) = (argsOf oi.op).map (ev t) := fun v => args_upd opi
    have nx : ∀ v h K, NeuK P (pure.nv.f x) ox.op (upd t oi.dst v) h K = NeuK P (pure.nv.f x) ox.op t h K := fun v h K => by unfold NeuK; simp only [ax, sx]
    have ni : ∀ v h K, NeuK P (pure.nv.f i) oi.op (upd t ox.dst v) h K = NeuK P (pure.nv.f i) oi.op t h K := fun v h K => by unfold NeuK; simp only [ai, si]
    unfold stepD at *
    cases hwx : wantedA all ox t with
    | false =>
      rw [hwx] at hst
      simp only [GuardK_false, wi, uc] at hst
      cases hwi : wantedA all oi t with
      | false => rw [hwi] at hst; simp only [GuardK_false, wx, hwx] at hst ⊢; exact hst
      | true =>
        rw [hwi] at hst
        simp only [GuardK_true, si, ni, wx, hwx, GuardK_false] at hst ⊢
        cases hni : isNeu pure.l i with
        | true => rw [hni] at hst; exact hst
        | false => rw [hni] at hst; exact astep_mono (fun u hi ⟨q1, q2⟩ => ⟨fun hb => ⟨(q1 hb).1, (ri _).1 (q1 hb).2⟩, q2⟩) hst
    | true =>
      rw [hwx] at hst
      simp only [GuardK_true, wi, uc] at hst
      cases hwi : wantedA all oi t with
      | false =>
        rw [hwi] at hst
        simp only [GuardK_false, wx, hwx, GuardK_true, sx, nx] at hst ⊢
        cases hnx : isNeu pure.l x with
        | true => rw [hnx] at hst; exact hst
        | false => rw [hnx] at hst; exact astep_mono (fun u hi ⟨q1, q2⟩ => ⟨fun hb => ⟨(q1 hb).1, (rx _).2 (q1 hb).2⟩, q2⟩) hst
      | true =>
        rw [hwi] at hst
        simp only [GuardK_true, si, sx, ni, nx, wx, hwx] at hst ⊢
        cases hnx : isNeu pure.l x with
        | true =>
          rw [hnx] at hst
          obtain ⟨p1, p2, p3⟩ := hst
          cases hni : isNeu pure.l i with
          | true => rw [hni] at p3; obtain ⟨q1, q2, q3⟩ := p3; exact ⟨q1, q2, p1, p2, q3⟩
          | false => rw [hni] at p3; exact astep_mono (fun u hi ⟨q1, q2⟩ => ⟨fun hb => ⟨(q1 hb).1, (ri _).1 (q1 hb).2⟩, p1, p2, q2⟩) p3
        | false =>
          rw [hnx] at hst
          have hni : isNeu pure.l i = true := by rcases hneu with q | q; (rw [hnx] at q; cases q); exact q
          rw [hni] at hst ⊢
          obtain ⟨v0, hx0, _, q0, q1, _⟩ := astep_some hr hokx hst
          refine ⟨q0, q1, astep_mono (fun v hx ⟨p1, _, _, p3⟩ => ⟨fun hb => ⟨(p1 hb).1, (rx _).2 (p1 hb).2⟩, p3⟩) hst⟩
  have hnx : isNeu pure.l x = false := by cases hq : isNeu pure.l x; rfl; exact absurd (.inl hq) hneu
  have hni : isNeu pure.l i = false := by cases hq : isNeu pure.l i; rfl; exact absurd (.inr hq) hneu
  have hcl := hsw
  simp only [hnx, hni, Bool.false_eq_true, or_self, and_false, false_or] at hcl
  replace hcl := hcl.2
  unfold stepD at *
  simp only [hnx, hni, SelK] at hst ⊢
  cases hwx : wantedA all ox t with
  | false =>
    rw [hwx] at hst
    simp only [GuardK_false, wi, uc] at hst
    cases hwi : wantedA all oi t with
    | false => rw [hwi] at hst; simp only [GuardK_false, wx, hwx] at hst ⊢; exact hst
    | true =>
      rw [hwi] at hst
      simp only [GuardK_true, si, wx, hwx, GuardK_false] at hst ⊢
      exact astep_mono (fun u hi ⟨q1, q2⟩ => ⟨fun hb => ⟨(q1 hb).1, (ri _).1 (q1 hb).2⟩, q2⟩) hst
  | true =>
    rw [hwx] at hst
    simp only [GuardK_true, wi, uc] at hst
    cases hwi : wantedA all oi t with
    | false =>
      rw [hwi] at hst
      simp only [GuardK_false, wx, hwx, GuardK_true, sx] at hst ⊢
      exact astep_mono (fun u hi ⟨q1, q2⟩ => ⟨fun hb => ⟨(q1 hb).1, (rx _).2 (q1 hb).2⟩, q2⟩) hst
    | true =>
      rw [hwi] at hst
      simp only [GuardK_true, si, sx, wx, hwx] at hst ⊢
      -- both run
      have notCallP : ∀ {op : Op}, clsOf P op = .pure → ∀ t h K, astep P op t h K = OptK (aop P op t h) K := by
        intro op hc t h K
        cases op
        case call c =>
          obtain ⟨callee, args, ats⟩ := c
          cases callee with
          | builtin b => rfl
          | value f => simp [clsOf] at hc
          | invoke r m => simp [clsOf] at hc
        all_goals first | rfl | (simp [clsOf] at hc)
      have notCallR : ∀ {op : Op}, clsOf P op = .read → ∀ t h K, astep P op t h K = OptK (aop P op t h) K := by
        intro op hc t h K
        cases op
        case call c =>
          obtain ⟨callee, args, ats⟩ := c
          cases callee with
          | builtin b => rfl
          | value f => simp [clsOf] at hc
          | invoke r m => simp [clsOf] at hc
        all_goals first | rfl | (simp [clsOf] at hc)
      have notCallA : ∀ {op : Op}, clsOf P op = .alloc → ∀ t h K, astep P op t h K = OptK (aop P op t h) K := by
        intro op hc t h K
        cases op
        case call c =>
          obtain ⟨callee, args, ats⟩ := c
          cases callee with
          | builtin b => rfl
          | value f => simp [clsOf] at hc
          | invoke r m => simp [clsOf] at hc
        all_goals first | rfl | (simp [clsOf] at hc)
      by_cases hpx : clsOf P ox.op = .pure
      · obtain ⟨r, hr'⟩ := aop_pure hpx t
        simp only [notCallP hpx, hr'] at hst ⊢
        cases r with
        | none => exact hst.elim
        | some v =>
          simp only [Option.map_some, OptK_some] at hst ⊢
          obtain ⟨p1, hst⟩ := hst
          exact astep_mono (fun u hi ⟨q1, q2⟩ => ⟨fun hb => ⟨(q1 hb).1, (ri v).1 (q1 hb).2⟩, fun hb => ⟨fun _ _ _ => rfl, (rx u).2 (p1 hb).2⟩, q2⟩) hst
      by_cases hpi : clsOf P oi.op = .pure
      · obtain ⟨r, hr'⟩ := aop_pure hpi t
        simp only [notCallP hpi, hr'] at hst ⊢
        cases r with
        | none =>
          obtain ⟨v, h', _, hF⟩ := astep_some hr hokx hst
          exact hF.elim
        | some v =>
          simp only [Option.map_some, OptK_some] at hst ⊢
          obtain ⟨v0, hx0, _, q0, _⟩ := astep_some hr hokx hst
          refine ⟨fun hb => ⟨fun _ _ _ => rfl, (ri v0).1 (q0 hb).2⟩, ?_⟩
          exact astep_mono (fun u hi ⟨q1, q2, q3⟩ => ⟨fun hb => ⟨(q1 hb).1, (rx v).2 (q1 hb).2⟩, q3⟩) hst
      -- reads
      by_cases hrx : clsOf P ox.op = .read
      · simp only [notCallR hrx] at hst ⊢
        obtain ⟨r, r1, _⟩ := aop_read hrx t vx (show Same h.next h h from fun _ _ => rfl)
        rw [r1] at hst
        cases r with
        | none => exact hst.elim
        | some v =>
          simp only [Option.map_some, OptK_some] at hst
          obtain ⟨p1, hst⟩ := hst
          -- what follows leaves it
          have key : ∀ hi, Same h.next h hi → aop P ox.op t hi = some (v, hi) := fun hi hs => by
            obtain ⟨r', q1, q2⟩ := aop_read hrx t vx hs
            rw [r1] at q1
            cases r' with
            | none => simp at q1
            | some v' => simp at q1; subst q1; rw [q2]; rfl
          have keyR : ReadIn pure.R ox.op t → ∀ hi, SameR pure.R h.next h hi → aop P ox.op t hi = some (v, hi) := fun hR hi hs => by
            obtain ⟨r', q1, q2⟩ := aop_readR hrx t vx hR hs
            rw [r1] at q1
            cases r' with
            | none => simp at q1
            | some v' => simp at q1; subst q1; rw [q2]; rfl
          have fin : ∀ u hi, aop P ox.op t hi = some (v, hi) → PureK (pure.l.contains i) pure.R oi.op (upd t ox.dst v) h hi (K (upd (upd t oi.dst u) ox.dst v) hi) → PureK (pure.l.contains i) pure.R oi.op t h hi (OptK (aop P ox.op t hi) fun v h' => PureK (pure.l.contains x) pure.R ox.op (upd t oi.dst u) hi h' (K (upd (upd t oi.dst u) ox.dst v) h')) := by
            intro u hi hk ⟨q1, q2⟩
            rw [hk]
            exact ⟨fun hb => ⟨(q1 hb).1, (ri v).1 (q1 hb).2⟩, fun hb => ⟨fun _ _ _ => rfl, (rx u).2 (p1 hb).2⟩, q2⟩
          by_cases hri : clsOf P oi.op = .read
          · simp only [notCallR hri] at hst ⊢
            obtain ⟨ri', s1, _⟩ := aop_read hri t vi (show Same h.next h h from fun _ _ => rfl)
            rw [s1] at hst ⊢
            cases ri' with
            | none => exact hst.elim
            | some u => exact fin u h (key h fun _ _ => rfl) hst
          · by_cases hai : clsOf P oi.op = .alloc
            · simp only [notCallA hai] at hst ⊢
              cases hao : aop P oi.op t h with
              | none => rw [hao] at hst; exact hst.elim
              | some p =>
                obtain ⟨u, hi⟩ := p
                rw [hao] at hst
                exact fin u hi (key hi (aop_alloc hai hao)) hst
            · have hcx : pure.l.contains i = true ∧ pure.l.contains x = true := by
                revert hcl; rw [hrx]
                cases hc : clsOf P oi.op <;> simp_all
              exact astep_mono (fun u hi hq => fin u hi (keyR (p1 hcx.2).2 hi (hq.1 hcx.1).1) hq) hst
      · have hri : clsOf P oi.op = .read := by
          revert hcl
          cases hc : clsOf P ox.op <;> cases hc' : clsOf P oi.op <;> simp_all
        simp only [notCallR hri] at hst ⊢
        obtain ⟨r, r1, _⟩ := aop_read hri t vi (show Same h.next h h from fun _ _ => rfl)
        -- what comes first leaves it
        have key : ∀ hx, Same h.next h hx → aop P oi.op t hx = r.map fun v => (v, hx) := fun hx hs => by
          obtain ⟨r', q1, q2⟩ := aop_read hri t vi hs
          rw [r1] at q1
          have : r' = r := by cases r' <;> cases r <;> simp_all
          rw [q2, this]
        have keyR : ReadIn pure.R oi.op t → ∀ hx, SameR pure.R h.next h hx → aop P oi.op t hx = r.map fun v => (v, hx) := fun hR hx hs => by
          obtain ⟨r', q1, q2⟩ := aop_readR hri t vi hR hs
          rw [r1] at q1
          have : r' = r := by cases r' <;> cases r <;> simp_all
          rw [q2, this]
        by_cases hax : clsOf P ox.op = .alloc
        · rw [notCallA hax] at hst
          cases hao : aop P ox.op t h with
          | none => rw [hao] at hst; exact hst.elim
          | some p =>
            obtain ⟨v, hx⟩ := p
            rw [hao] at hst
            simp only [OptK_some] at hst
            obtain ⟨p1, hst⟩ := hst
            rw [key hx (aop_alloc hax hao)] at hst
            rw [r1]
            cases r with
            | none => exact hst.elim
            | some u =>
              simp only [Option.map_some, OptK_some] at hst ⊢
              rw [notCallA hax, hao]
              obtain ⟨q1, q2⟩ := hst
              exact ⟨fun hb => ⟨fun _ _ _ => rfl, (ri v).1 (q1 hb).2⟩, fun hb => ⟨(p1 hb).1, (rx u).2 (p1 hb).2⟩, q2⟩
        · have hcx : pure.l.contains i = true ∧ pure.l.contains x = true := by
            revert hcl; rw [hri]
            cases hc : clsOf P ox.op <;> simp_all
          have hR : ReadIn pure.R oi.op t := by
            obtain ⟨v, hx, q0, hF⟩ := astep_some hr hokx hst
            cases hao : aop P oi.op t hx with
            | none => rw [hao] at hF; exact hF.elim
            | some p => rw [hao] at hF; exact (ri v).1 (hF.1 hcx.1).2
          rw [r1]
          cases r with
          | none =>
            obtain ⟨v, hx, q0, hF⟩ := astep_some hr hokx hst
            rw [keyR hR hx (q0 hcx.2).1] at hF
            exact hF.elim
          | some u =>
            simp only [Option.map_some, OptK_some]
            refine ⟨fun hb => ⟨fun _ _ _ => rfl, hR⟩, astep_mono (fun v hx ⟨q0, hF⟩ => ?_) hst⟩
            rw [keyR hR hx (q0 hcx.2).1] at hF
            exact ⟨fun hb => ⟨(q0 hb).1, (rx u).2 (q0 hb).2⟩, hF.2⟩

end
end Go.Mini
