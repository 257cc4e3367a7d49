/-
  A loop over a function: its rounds run on names, in the frame of the one that loops; the function that is looped over runs between them.
-/
import Derived.Test.YtmnemfeofhinaaaDoorM26
import Derived.Test.YtmnemfeofhinaaaDoorM25
set_option linter.unusedSimpArgs false
set_option linter.unusedVariables false
set_option linter.unusedSectionVars false
namespace Go.Mini
open Go

/-- What leaves all records alone may be called where one is. -/
theorem ACall.any [E : REnv] {P : Program} {f : FuncId} {args : List Value} {h : Hp} {K : Value → Hp → Prop} (hc : @ACall noEnv P f args h K) : ACall P f args h K :=
  ⟨hc.1, fun B w0 ρ w hs ha => (hc.2 (Bd.un B) w ρ w (SimE.plain hs.open_) ha).mono fun _ _ ⟨r, h', ρ', he, hK, h1, h2, h3, h4, h5⟩ => ⟨r, h', ρ', he, hK, hs.close_ (@SimE.sim noEnv _ _ _ _ _ h1) (h5 rfl) h3 h4, h2, h3, h4, fun _ => h5 rfl⟩⟩

theorem ACall.anyJ [E : REnv] {P : Program} {f : FuncId} {args : List Value} {h : Hp} {K : Value → Hp → Prop} (hc : @ACall noEnv P f args h fun r h' => h'.jump = h.jump → K r h') : ACall P f args h K :=
  ⟨hc.1, fun B w0 ρ w hs ha => (hc.2 (Bd.un B) w ρ w (SimE.plain hs.open_) ha).mono fun _ _ ⟨r, h', ρ', he, hK, h1, h2, h3, h4, h5⟩ => ⟨r, h', ρ', he, hK (h5 rfl), hs.close_ (@SimE.sim noEnv _ _ _ _ _ h1) (h5 rfl) h3 h4, h2, h3, h4, fun _ => h5 rfl⟩⟩

/-! ### Worlds that turn where nothing is named -/
section
variable {B : Bd} {w0 w : World} {ρ : Rn} {h : Hp}
/-- A block that is not one's own turns: told from the world behind. -/
theorem Sim.turnF (hs : Sim B w0 ρ h w) {R : Nat} (hb : B.b ≤ R) (hF : B.F R) (o : Obj) : Sim B (w.putObj R o) ρ h (w.putObj R o) := by
  refine ⟨hs.lt, hs.wf, fun i b hi => ?_, hs.inj, ⟨by rw [World.putObj_size]; exact hs.base.1, fun k hk => by rw [World.putObj_size]; exact hs.base.2 k hk⟩, BelowF.refl _ _, hs.gl, hs.nx⟩
  obtain ⟨cs, e, fr, q⟩ := hs.real i b hi
  refine ⟨cs, e, fr, ?_, q.cell, q.own, q.ro⟩
  rw [World.putObj_heap_other]
  · exact q.at_
  · intro e
    cases ho : b.own with
    | true => exact (q.own ho).1.2 (e ▸ hF)
    | false => have h1 : (ρ i).blk < B.b := (q.ro ho).1; omega
theorem Sim.own_ne (hs : Sim B w0 ρ h w) {R : Nat} (hF : B.F R) : ∀ i b, h.blks i = some b → b.own = true → (ρ i).blk ≠ R := fun i b hi ho e => by
  obtain ⟨_, _, _, q⟩ := hs.real i b hi
  exact (q.own ho).1.2 (e ▸ hF)
theorem Sim.named_lt (hs : Sim B w0 ρ h w) : ∀ i b, h.blks i = some b → (ρ i).blk < w.heap.size := fun i b hi => by
  obtain ⟨_, _, _, q⟩ := hs.real i b hi
  exact (Array.getElem?_eq_some_iff.1 q.at_).1
end

/-! ### What a round is handed -/
def setPs (t : Tm) : List Tmp → List Value → Tm
  | p :: ps, v :: vs => setPs (upd t (some p) v) ps vs
  | _, _ => t
theorem TR.setPs {ρ : Rn} {n nx : Nat} (ps : List Tmp) : ∀ {t : Tm} {tmps : Array Value} (vs : List Value), TR ρ n t nx tmps → (∀ p ∈ ps, p < n) → (∀ v ∈ vs, vtop v ≤ nx) →
    TR ρ n (Go.Mini.setPs t ps vs) nx ((ps.zip (vs.map (rl ρ))).foldl (fun t (p : Tmp × Value) => t.setIfInBounds p.1 p.2) tmps) := by
  induction ps with
  | nil => intro t tmps vs h _ _; simpa [Go.Mini.setPs] using h
  | cons p ps ih =>
    intro t tmps vs h hp hv
    cases vs with
    | nil => simpa [Go.Mini.setPs] using h
    | cons v vs =>
      simp only [Go.Mini.setPs, List.map_cons, List.zip_cons_cons, List.foldl_cons]
      have h1 : TR ρ n t nx (Act.mk tmps []).tmps := h
      exact ih vs (h1.put (some p) (hv v (by simp)) fun k hk => by cases hk; exact hp p (by simp)) (fun q hq => hp q (by simp [hq])) fun u hu => hv u (by simp [hu])
theorem zip_foldl (ps : Array Tmp) (vs : List Value) (tmps : Array Value) : (ps.zip vs.toArray).foldl (fun (t : Array Value) (x : Tmp × Value) => match x with | (p, v) => t.setIfInBounds p v) tmps = (ps.toList.zip vs).foldl (fun t (p : Tmp × Value) => t.setIfInBounds p.1 p.2) tmps := by
  rw [← Array.foldl_toList, Array.toList_zip]

/-- How a round ends. -/
def roundQ (K : Value → Hp → Prop) : APost := fun e _ h => match e with
  | .normal => K (.bool true) h
  | .ret => K (.bool false) { h with jump := some .ret }
  | .exit id => K (.bool false) { h with jump := some (.exit id) }
  | _ => False
theorem roundQ_normal (K : Value → Hp → Prop) (t : Tm) (h : Hp) : roundQ K .normal t h = K (.bool true) h := _root_.id rfl
theorem roundQ_ret (K : Value → Hp → Prop) (t : Tm) (h : Hp) : roundQ K .ret t h = K (.bool false) { h with jump := some .ret } := _root_.id rfl
theorem roundQ_exit (K : Value → Hp → Prop) (k : Nat) (t : Tm) (h : Hp) : roundQ K (.exit k) t h = K (.bool false) { h with jump := some (.exit k) } := _root_.id rfl
/-- How the loop ends. -/
def rangeQ (Q : APost) (t : Tm) (h h' : Hp) : Prop := match h'.jump with
  | none => Q .normal t { h' with jump := h.jump }
  | some .ret => Q .ret t { h' with jump := h.jump }
  | some (.exit id) => Q (.exit id) t { h' with jump := h.jump }
  | _ => False

section
variable {P : Program} {n : Nat}

/-- The loop's record. -/
def recOf (fn : FuncId) (tmps : Array Value) (ps : Array Tmp) (assign body : Code) (D : Nat) : Option Code → Loop
  | none => { state := .ready, pending := none, fn, tmps, params := ps, assign, body, defers := D }
  | some c => { state := .done, pending := some c, fn, tmps, params := ps, assign, body, defers := D }
/-- Where rounds may be asked for. -/
abbrev recEnv (N : Nat) (ρ0 : Rn) (R : Nat) (rec : Option Code → Loop) : REnv where
  N := N + 1
  S := fun k => k = R
  can := true
  Γ := fun j ρ w => Goes N ρ0 ρ ∧ (ρ N).blk = R ∧ w.heap[R]? = some (.loop (rec j))
  mono := fun ⟨h1, h2, h3⟩ hg hw => ⟨fun i hi => (h1 i hi).trans (hg i (by omega)), by rw [← hg N (by omega)]; exact h2, by rw [hw _ rfl]; exact h3⟩
  mapN := none
  mapC := fun h => by cases h
  mapG := fun h => by cases h
  mapS := fun _ _ h => by cases h

theorem awp_range {g : Operand} {ps : Array Tmp} {assign body : Code} {Q : APost} {t : Tm} {h : Hp} {gf : FuncId} {caps : Array Value} (hg : ev t g = .func (.func gf) #[] caps) (okg : okOpnd n g = true) (hps : ∀ p ∈ ps.toList, p < n) (na : hasRange assign = false) (nb : hasRange body = false)
    (H : ∀ E1 : REnv, E1.can = true → (∀ args hh K, hh.jump = none → h.next < hh.next → args.length = ps.size → @Awp noEnv P n assign (thenQ (fun t1 hA => @Awp noEnv P n body (roundQ K) t1 hA) (fun _ _ _ => False)) (setPs t ps.toList args) hh → @YCall E1 P h.next args hh K) →
      @ACall E1 P gf (.func (.yield h.next) #[] #[] :: caps.toList) ⟨h.next + 1, h.blks, none⟩ (fun _ h' => rangeQ Q t h h')) : Awp P n (.rangeFunc g ps assign body) Q t h := by
  intro ro hro B w0 ρ w a hs ht
  obtain rfl := hro rfl
  obtain ⟨g1, g2⟩ := ht.ev hs.sim.gl hs.sim.nx okg
  rw [hg, rl_func] at g1
  rw [hg, vtop_func] at g2
  refine wpIn_rangeFunc ?_
  intro fn hfn
  obtain ⟨rec, hrec⟩ : ∃ rec, rec = recOf fn a.tmps ps assign body w.heap.size := ⟨_, rfl⟩
  obtain ⟨R, hR⟩ : ∃ R, R = w.heap.size + 1 := ⟨_, rfl⟩
  obtain ⟨D, hD⟩ : ∃ D, D = w.heap.size := ⟨_, rfl⟩
  obtain ⟨W, hW⟩ : ∃ W, W = (w.alloc (.deferred (some []))).alloc (.loop (rec none)) := ⟨_, rfl⟩
  have Wsz : W.heap.size = w.heap.size + 2 := by rw [hW]; simp
  have Wold : ∀ k, k < w.heap.size → W.heap[k]? = w.heap[k]? := fun k hk => by
    rw [hW, RowKit.Below.heap_alloc _ _ _ (by simp; omega), RowKit.Below.heap_alloc _ _ _ hk]
  have WD : W.heap[D]? = some (.deferred (some [])) := by
    rw [hW, hD, RowKit.Below.heap_alloc _ _ _ (by simp)]
    exact World.alloc_heap_new w _
  have WR : W.heap[R]? = some (.loop (rec none)) := by
    have := World.alloc_heap_new (w.alloc (.deferred (some []))) (.loop (rec none))
    rw [World.size_alloc] at this
    rw [hW, hR]; exact this
  have Wb : BelowF B w W := ⟨by rw [hW]; rfl, by rw [hW]; rfl, by rw [hW]; rfl, by omega, fun k hk => Wold k (by rcases hk with hk | hk; have := hs.sim.base.1; omega; exact hs.sim.base.2 k hk)⟩
  have hbD : B.b ≤ D := by rw [hD]; exact hs.sim.base.1
  have hFD : ¬ B.F D := fun hk => by have := hs.sim.base.2 D hk; omega
  have hFR : ¬ (B.plus [D]).F R := by
    rintro (hk | hk)
    · have := hs.sim.base.2 R hk; omega
    · simp at hk; omega
  -- the world where the loop begins
  have hsW : Sim (B.plus [D]) W (ρ.new h.next ⟨R, 0, 0⟩) ⟨h.next + 1, h.blks, none⟩ W := by
    have hgn := Goes.new ρ h.next ⟨R, 0, 0⟩
    refine ⟨fun i b hi => ?_, fun i b hi v hv => ?_, fun i b hi => ?_, fun i j b c hi hj ob oc e => ?_, ⟨?_, fun k hk => ?_⟩, BelowF.refl _ _, fun q hq => ?_, ?_⟩
    · have := hs.sim.lt i b hi
      show i < h.next + 1
      omega
    · obtain ⟨q1, q2⟩ := hs.sim.wf i b hi v hv
      exact ⟨by show vtop v ≤ h.next + 1; omega, q2⟩
    · obtain ⟨cs, e, fr, q⟩ := hs.sim.real i b hi
      have hl := hs.sim.lt i b hi
      have hbl := (Array.getElem?_eq_some_iff.1 q.at_).1
      refine ⟨cs, e, fr, ?_, fun j hj => ?_, fun ho => ?_, fun ho => ?_⟩
      · rw [← hgn i hl, Wold _ hbl]; exact q.at_
      · rw [← hgn i hl, q.cell j hj, hgn.rl (hs.sim.wf i b hi _ (Array.getElem_mem hj)).1]
      · rw [← hgn i hl]
        obtain ⟨q1, q2⟩ := q.own ho
        refine ⟨⟨q1.1, ?_⟩, q2⟩
        rintro (hk | hk)
        · exact q1.2 hk
        · simp at hk; omega
      · rw [← hgn i hl]; exact q.ro ho
    · rw [← hgn i (hs.sim.lt i b hi), ← hgn j (hs.sim.lt j c hj)] at e
      exact hs.sim.inj i j b c hi hj ob oc e
    · show B.b ≤ W.heap.size
      have := hs.sim.base.1; omega
    · rcases hk with hk | hk
      · have := hs.sim.base.2 k hk; omega
      · simp at hk; omega
    · rw [← hgn (100 + q) (by have := hs.sim.nx; omega)]; exact hs.sim.gl q hq
    · have := hs.sim.nx; show 150 ≤ h.next + 1; omega
  have hse : @SimE (recEnv h.next ρ R rec) (B.plus [D]) W (ρ.new h.next ⟨R, 0, 0⟩) ⟨h.next + 1, h.blks, none⟩ W := by
    refine @SimE.mk (recEnv h.next ρ R rec) _ _ _ _ _ hsW ⟨Goes.new _ _ _, by simp [Rn.new], WR⟩ (Nat.le_refl _) (fun k hk => ?_) (fun i b hi ho hk => ?_)
    · obtain rfl : k = R := hk
      exact ⟨by omega, by show B.b ≤ _; omega, hFR⟩
    · have hl := hs.sim.lt i b hi
      have hbl := hs.sim.named_lt i b hi
      have hk' : ((ρ.new h.next ⟨R, 0, 0⟩) i).blk = R := hk
      rw [← Goes.new ρ h.next ⟨R, 0, 0⟩ i hl] at hk'
      omega
  have hYC : ∀ args hh K, hh.jump = none → h.next < hh.next → args.length = ps.size → @Awp noEnv P n assign (thenQ (fun t1 hA => @Awp noEnv P n body (roundQ K) t1 hA) (fun _ _ _ => False)) (setPs t ps.toList args) hh → @YCall (recEnv h.next ρ R rec) P h.next args hh K := by
    intro args hh K hj hnx hlen hawp B' v0 ρ' v hv hargs
    have hvo := @SimE.open_ (recEnv h.next ρ R rec) _ _ _ _ _ hv
    obtain ⟨hvs, ⟨e1, e2, e3⟩, _, hsep, _⟩ := hv
    rw [hj] at e3
    obtain ⟨s1, s2, s3⟩ := hsep R rfl
    have hun : (Bd.un (E := recEnv h.next ρ R rec) B').F R := .inr rfl
    have hy := run_yield (P := P) (args := (args.map (rl ρ')).toArray) e3 (by rw [hrec]; simpa [recOf] using hlen)
    refine ⟨fn, _, assign, body, by rw [e2]; rw [hrec] at hy; exact hy, ?_⟩
    rw [e2]
    refine roundIn_of_wpIn trivial ?_
    have htm : TR ρ' n (setPs t ps.toList args) hh.next ((ps.zip (args.map (rl ρ')).toArray).foldl (fun (t : Array Value) (x : Tmp × Value) => match x with | (p, v) => t.setIfInBounds p v) a.tmps) := by
      rw [zip_foldl]
      refine TR.setPs ps.toList args ?_ hps hargs
      exact ht.mono e1 (Nat.le_of_lt hnx)
    have hop : @SimE noEnv (Bd.un (E := recEnv h.next ρ R rec) B') v ρ' hh v := SimE.plain hvo
    refine wpIn_mono (hawp (some R) (fun q => by rw [na] at q; cases q) (Bd.un (E := recEnv h.next ρ R rec) B') v ρ' v { tmps := _, defers := [] } hop htm) ?_
    intro ex aA vA hp
    obtain ⟨ρA, tA, hA, w1, Ds, q, hsA, htA, _, hnA, hgA, hmA, hjA⟩ := hp
    cases ex with
    | normal =>
      have q : Awp P n body (roundQ K) tA hA := q
      have hFA : ((Bd.un (E := recEnv h.next ρ R rec) B').plus Ds).F R := .inl hun
      have recA : vA.heap[R]? = some (.loop (rec none)) := by
        rw [hsA.sim.below.block R (.inr hFA), hmA.below.block R (.inr hun)]; exact e3
      refine ⟨_, run_beginRound recA (by rw [hrec]; rfl), ?_⟩
      obtain ⟨vB, hvB⟩ : ∃ vB, vB = vA.putObj R (.loop { rec none with state := .busy }) := ⟨_, rfl⟩
      rw [← hvB]
      have recB : vB.heap[R]? = some (.loop { rec none with state := .busy }) := by
        rw [hvB]; exact World.putObj_heap_same (Array.getElem?_eq_some_iff.1 recA).1
      have hsB : @SimE noEnv ((Bd.un (E := recEnv h.next ρ R rec) B').plus Ds) vB ρA hA vB := SimE.plain (by rw [hvB]; exact hsA.sim.turnF s2 hFA _)
      have bB : BelowF B' v0 vB := by
        refine (hvs.below.trans ((hmA.below.trans (hsA.sim.below.less (Nat.le_refl _) fun k hk => .inl hk)).less (Nat.le_refl _) fun k hk => .inl hk)).trans ?_
        rw [hvB]; exact BelowF.putObj vA s2 s3 _
      refine wpIn_mono (q (some R) (fun q => by rw [nb] at q; cases q) _ vB ρA vB aA hsB htA) ?_
      intro ex aC vC hp
      obtain ⟨ρC, tC, hC, w2, Es, q, hsC, htC, _, hnC, hgC, hmC, hjC⟩ := hp
      have hFC : (((Bd.un (E := recEnv h.next ρ R rec) B').plus Ds).plus Es).F R := .inl hFA
      have recC : vC.heap[R]? = some (.loop { rec none with state := .busy }) := by
        rw [hsC.sim.below.block R (.inr hFC), hmC.below.block R (.inr hFA)]; exact recB
      have bC : BelowF B' v0 vC := bB.trans ((hmC.below.trans (hsC.sim.below.less (Nat.le_refl _) fun k hk => .inl hk)).less (Nat.le_refl _) fun k hk => .inl (.inl hk))
      have gC : Goes hh.next ρ' ρC := hgA.trans hnA hgC
      -- how it ends
      have fin : ∀ (j : Option Code), { rec none with state := (if j.isNone then .ready else .done), pending := j } = rec j → K (.bool j.isNone) { hC with jump := j } →
          ∃ v' w', (Instr.endRound R j).run P vC = .ok v' w' ∧ ∃ r h' ρ'', Ending.returned v' = .returned (rl ρ'' r) ∧ K r h' ∧ @SimE (recEnv h.next ρ R rec) B' v0 ρ'' h' w' ∧ vtop r ≤ h'.next ∧ hh.next ≤ h'.next ∧ Goes hh.next ρ' ρ'' := by
        intro j hrj hK
        refine ⟨_, _, run_endRound j recC, .bool j.isNone, { hC with jump := j }, ρC, rfl, hK, ?_, Nat.zero_le _, by show hh.next ≤ hC.next; omega, gC⟩
        rw [hrj]
        have hsD : Sim B' v0 ρC hC (vC.putObj R (.loop (rec j))) := by
          have h1 : Sim (((Bd.un (E := recEnv h.next ρ R rec) B').plus Ds).plus Es) (vC.putObj R (.loop (rec j))) ρC hC (vC.putObj R (.loop (rec j))) := hsC.sim.turnF s2 hFC _
          exact h1.rebase rfl (fun k hk => .inl (.inl (.inl hk))) (bC.trans (BelowF.putObj vC s2 s3 _))
        refine @SimE.mk (recEnv h.next ρ R rec) _ _ _ _ _ (hsD.jmp j) ⟨fun i hi => (e1 i hi).trans (gC i (by omega)), ?_, World.putObj_heap_same (Array.getElem?_eq_some_iff.1 recC).1⟩ ?_ (fun k hk => ?_) (fun i b hi ho hk => ?_)
        · rw [← gC h.next hnx]; exact e2
        · show h.next + 1 ≤ hC.next; omega
        · obtain rfl : k = R := hk
          exact ⟨by rw [World.putObj_size]; exact (Array.getElem?_eq_some_iff.1 recC).1, s2, s3⟩
        · exact hsC.sim.own_ne hFC i b hi ho hk
      have jC : hC.jump = none := by rw [hjC rfl, hjA rfl]; exact hj
      cases ex with
      | normal =>
        have := fin none (by rw [hrec]; rfl) (by
          have e : ({ hC with jump := none } : Hp) = hC := by rw [← jC]
          rw [e]; exact q)
        exact this
      | ret => exact fin (some .ret) (by rw [hrec]; rfl) q
      | exit id => exact fin (some (.exit id)) (by rw [hrec]; rfl) q
      | goto l => exact q.elim
      | panic ch => exact q.elim
      | outgrown => exact q.elim
    | _ => exact q.elim
  have hcall := H (recEnv h.next ρ R rec) rfl hYC
  have hargs1 : ∀ v ∈ (Value.func (.yield h.next) #[] #[] :: caps.toList), vtop v ≤ h.next + 1 := fun v hv => by
    rcases List.mem_cons.1 hv with rfl | hv
    · simp [vtop, fnTop, vtopL]
    · have := g2.2.2 v (by simpa using hv); omega
  have hcl := hcall.2 (B.plus [D]) W (ρ.new h.next ⟨R, 0, 0⟩) W hse hargs1
  have hargs2 : ((Value.func (.yield h.next) #[] #[] :: caps.toList).map (rl (ρ.new h.next ⟨R, 0, 0⟩))).toArray = #[.func (.yield R) #[] #[]] ++ caps.map (rl ρ) := by
    apply Array.ext'
    rw [List.map_cons, rl_func]
    simp only [rlFn, Rn.new]
    simp
    intro v hv
    exact (rl_congr v h.next (g2.2.2 v (by simpa using hv)) (Goes.new ρ h.next ⟨R, 0, 0⟩)).symm
  rw [hargs2] at hcl
  refine ⟨R, [mark D], W, { target := .fn (.func gf) (caps.map (rl ρ)), args := #[.func (.yield R) #[] #[]] }, W, gf, #[.func (.yield R) #[] #[]] ++ caps.map (rl ρ), W, ?_, ?_, fun _ _ => trivial, ?_, fun q => absurd q (by simp [WF, Fence.wide]), ?_⟩
  · rw [hW, hR, hD, hrec]
    exact run_enterLoop_outer fn a.tmps ps assign body
  · simp only [resolve, g1]
    simp [go_sem, rlFn]
  · simp only [invoke]
    exact run_callFunc hcall.1
  · refine (calls_in hcl).mono ?_
    rintro e w3 ⟨r, h', ρ3, rfl, hq, hs3, _, hn3, hg3, _⟩
    obtain ⟨hs3s, ⟨k1, k2, k3⟩, _, hsep, hown⟩ := hs3
    obtain ⟨s1, s2, s3⟩ := hsep R rfl
    have hend := run_endLoop (P := P) k3 (by cases h'.jump <;> (rw [hrec]; simp [recOf]))
    have hn3' : h.next + 1 ≤ h'.next := hn3
    obtain ⟨W4, hW4⟩ : ∃ W4, W4 = w3.putObj R (.loop { rec h'.jump with state := .exhausted }) := ⟨_, rfl⟩
    rw [← hW4] at hend
    have hs4 : Sim (B.plus [D]) W ρ3 { h' with jump := h.jump } W4 := by
      rw [hW4]
      exact (hs3s.turn s2 s3 (fun i b hi ho e => hown i b hi ho e) _).jmp _
    have ht4 : TR ρ3 n t h'.next a.tmps := ht.mono k1 (by omega)
    have post : ∀ e, Q e t { h' with jump := h.jump } → Post n B w0 ρ h a.defers Q e { a with defers := [mark D] ++ a.defers } W4 := fun e hq =>
      ⟨ρ3, t, { h' with jump := h.jump }, W, [D], hq, SimE.plain hs4, ht4, rfl, by show h.next ≤ h'.next; omega, k1, ⟨hs.sim.below.trans Wb, by simp, fun D' hD' => by
        obtain rfl : D' = D := by simpa using hD'
        exact ⟨⟨hbD, hFD⟩, WD⟩⟩, fun _ => rfl⟩
    have hrq : rangeQ Q t h h' := hq
    unfold rangeQ at hrq
    refine ⟨_, W4, hend, ?_⟩
    cases hjj : h'.jump with
    | none =>
      rw [hjj] at hrq
      rw [hrec]
      exact post .normal hrq
    | some c =>
      rw [hjj] at hrq
      rw [hrec]
      show c.wpIn (WF none) 0 P _ _ W4
      cases c with
      | ret => exact wpIn_ret (post .ret hrq)
      | exit id => exact wpIn_exit (post (.exit id) hrq)
      | _ => exact hrq.elim

/-- The same, with the asks told by a relation: the rounds are proved where no record is. -/
theorem awp_rangeR (R : List Value → Hp → (Value → Hp → Prop) → Prop) {g : Operand} {ps : Array Tmp} {assign body : Code} {Q : APost} {t : Tm} {h : Hp} {gf : FuncId} {caps : Array Value} (hg : ev t g = .func (.func gf) #[] caps) (okg : okOpnd n g = true) (hps : ∀ p ∈ ps.toList, p < n) (na : hasRange assign = false) (nb : hasRange body = false)
    (HR : ∀ args hh K, R args hh K → (hh.jump = none ∧ h.next < hh.next ∧ args.length = ps.size) ∧ @Awp noEnv P n assign (thenQ (fun t1 hA => @Awp noEnv P n body (roundQ K) t1 hA) (fun _ _ _ => False)) (setPs t ps.toList args) hh)
    (HC : ∀ E1 : REnv, E1.can = true → (∀ args hh K, R args hh K → @YCall E1 P h.next args hh K) → @ACall E1 P gf (.func (.yield h.next) #[] #[] :: caps.toList) ⟨h.next + 1, h.blks, none⟩ (fun _ h' => rangeQ Q t h h')) : Awp P n (.rangeFunc g ps assign body) Q t h :=
  awp_range hg okg hps na nb fun E1 hcan hY => HC E1 hcan fun args hh K hr => by
    obtain ⟨⟨h1, h2, h3⟩, h4⟩ := HR args hh K hr
    exact hY args hh K h1 h2 h3 h4
/-- The same, of a loop that is not left. -/
theorem awp_rangeN (R : List Value → Hp → (Value → Hp → Prop) → Prop) (I : Hp → Prop) {g : Operand} {ps : Array Tmp} {assign body : Code} {Q : APost} {t : Tm} {h : Hp} {gf : FuncId} {caps : Array Value} (hg : ev t g = .func (.func gf) #[] caps) (okg : okOpnd n g = true) (hps : ∀ p ∈ ps.toList, p < n) (na : hasRange assign = false) (nb : hasRange body = false)
    (HR : ∀ args hh K, R args hh K → (hh.jump = none ∧ h.next < hh.next ∧ args.length = ps.size) ∧ @Awp noEnv P n assign (thenQ (fun t1 hA => @Awp noEnv P n body (roundQ K) t1 hA) (fun _ _ _ => False)) (setPs t ps.toList args) hh)
    (HE : ∀ h', I h' → h'.jump = none ∧ apQ Q .normal t { h' with jump := h.jump } (.mk _))
    (HC : ∀ E1 : REnv, E1.can = true → (∀ args hh K, R args hh K → @YCall E1 P h.next args hh K) → @ACall E1 P gf (.func (.yield h.next) #[] #[] :: caps.toList) ⟨h.next + 1, h.blks, none⟩ (fun _ h' => I h')) : Awp P n (.rangeFunc g ps assign body) Q t h :=
  awp_rangeR R hg okg hps na nb HR fun E1 hcan hY => (HC E1 hcan hY).mono fun r h' hi => by
    obtain ⟨h1, h2⟩ := HE h' hi
    unfold rangeQ
    rw [h1]
    exact h2
theorem awpF_gen {c : Code} {Q : APost} {t : Tm} {h : Hp} {u1 : Tag c} {u2 : Tag Q} {u3 : Tag t} {u4 : Tag h} (H : ∀ T G, T = t → G = h → Awp P n c Q T G) : AwpF P n c Q t h u1 u2 u3 u4 := H t h rfl rfl
end
end Go.Mini
