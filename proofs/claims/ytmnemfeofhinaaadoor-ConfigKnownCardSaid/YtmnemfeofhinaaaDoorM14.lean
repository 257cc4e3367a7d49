/-
  Code carried out on names, and whole functions: what is to be shown of a function's text is one sentence about names, numbers and lists.
-/
import Derived.Test.YtmnemfeofhinaaaDoorM13
set_option linter.unusedSimpArgs false
set_option linter.unusedVariables false
set_option linter.unusedSectionVars false
namespace Go.Mini
open Go

section
variable {P : Program} {n : Nat} [E : REnv]

def CondV (v : Value) (A C : Prop) : Prop :=
  match v with
  | .bool b => (b = true → A) ∧ (b = false → C)
  | _ => False
@[congr] theorem CondV_congr {v v' : Value} {A C : Prop} (e : v = v') : CondV v A C = CondV v' A C := by rw [e]
theorem CondV_true (A C : Prop) : CondV (.bool true) A C = A := by simp [CondV]
theorem CondV_false (A C : Prop) : CondV (.bool false) A C = C := by simp [CondV]
theorem CondV_intro {b : Bool} {A C : Prop} (h1 : b = true → A) (h2 : b = false → C) : CondV (.bool b) A C := ⟨h1, h2⟩

def thenQ (N : Tm → Hp → Prop) (Q : APost) : APost := fun e t h => match e with | .normal => N t h | e => Q e t h
def blockQ (id : Nat) (Q : APost) : APost := fun e t h => match e with | .exit id' => if id' = id then Q .normal t h else Q (.exit id') t h | e => Q e t h
def scopeQ (Q : APost) : APost := fun e t h => match e with | .goto _ => False | e => Q e t h
theorem thenQ_normal (N : Tm → Hp → Prop) (Q : APost) (t : Tm) (h : Hp) : thenQ N Q .normal t h = N t h := _root_.id rfl
theorem thenQ_ret (N : Tm → Hp → Prop) (Q : APost) (t : Tm) (h : Hp) : thenQ N Q .ret t h = Q .ret t h := _root_.id rfl
theorem thenQ_exit (N : Tm → Hp → Prop) (Q : APost) (k : Nat) (t : Tm) (h : Hp) : thenQ N Q (.exit k) t h = Q (.exit k) t h := _root_.id rfl
theorem blockQ_normal (id : Nat) (Q : APost) (t : Tm) (h : Hp) : blockQ id Q .normal t h = Q .normal t h := _root_.id rfl
theorem blockQ_ret (id : Nat) (Q : APost) (t : Tm) (h : Hp) : blockQ id Q .ret t h = Q .ret t h := _root_.id rfl
theorem blockQ_exit (id k : Nat) (Q : APost) (t : Tm) (h : Hp) : blockQ id Q (.exit k) t h = if k = id then Q .normal t h else Q (.exit k) t h := _root_.id rfl
theorem scopeQ_normal (Q : APost) (t : Tm) (h : Hp) : scopeQ Q .normal t h = Q .normal t h := _root_.id rfl
theorem scopeQ_ret (Q : APost) (t : Tm) (h : Hp) : scopeQ Q .ret t h = Q .ret t h := _root_.id rfl
theorem scopeQ_exit (k : Nat) (Q : APost) (t : Tm) (h : Hp) : scopeQ Q (.exit k) t h = Q (.exit k) t h := _root_.id rfl

/-- A table's mark may stand for all names that there are at the region's start: 1000000 among the marked ones says so. -/
def Marks.at (m : Marks) (N : Nat) : Marks := { l := m.l, R := fun x => if m.l.contains 1000000 = true then x < N else m.R x, nv := m.nv }
theorem Marks.at_nv (m : Marks) (N : Nat) : (m.at N).nv = m.nv := _root_.id rfl
theorem Marks.at_l (m : Marks) (N : Nat) : (m.at N).l = m.l := _root_.id rfl
theorem Marks.at_R (m : Marks) (N x : Nat) : (m.at N).R x = (if m.l.contains 1000000 = true then x < N else m.R x) := _root_.id rfl
def vc (P : Program) (n : Nat) (tb : Nat → Marks) : Code → APost → Tm → Hp → Prop
  | .skip, Q, t, h => Q .normal t h
  | .label _, Q, t, h => Q .normal t h
  | .seq a b, Q, t, h => vc P n tb a (thenQ (fun t h => vc P n tb b Q t h) Q) t h
  | .cond c a b, Q, t, h => CondV (ev t c) (vc P n tb a Q t h) (vc P n tb b Q t h)
  | .block id b, Q, t, h => vc P n tb b (blockQ id Q) t h
  | .scope b, Q, t, h => vc P n tb b (scopeQ Q) t h
  | .region id ops true, Q, t, h => if (tb id).l.contains 4000000 = true then Awp P n (.region id ops true) Q t h else aopsD P ops ((tb id).at h.next) 0 ops.toList (fun t h => Q .normal t h) t h
  | .region _ ops false, Q, t, h => aops P ops ops.toList (fun t h => Q .normal t h) t h
  | .ret, Q, t, h => Q .ret t h
  | .exit id, Q, t, h => Q (.exit id) t h
  | c, Q, t, h => Awp P n c Q t h

def okCode (P : Program) (n : Nat) (tb : Nat → Marks) : Code → Bool
  | .seq a b => okCode P n tb a && okCode P n tb b
  | .cond c a b => okOpnd n c && okCode P n tb a && okCode P n tb b
  | .block _ b | .scope b | .loop b => okCode P n tb b
  | .region id ops draw => ops.all (fun o => okOper n o) && (!draw || (tb id).l.contains 4000000 || drawOk P ops (tb id).l)
  | .skip | .label _ | .ret | .exit _ | .rangeFunc .. => true
  | _ => false

theorem Post.thenQ {ro : Option Nat} {B : Bd} {w0 w : World} {ρ : Rn} {h : Hp} {ds : List Deferred} {N : Tm → Hp → Prop} {Q : APost} {y : Code} (hr : hasRange y = true → ro = none) (hy : ∀ t h, N t h → Awp P n y Q t h) {e : Exit} {a : Act}
    (hp : Post n B w0 ρ h ds (Go.Mini.thenQ N Q) e a w) : Exit.then (y.wpIn (WF ro) 0 P (Post n B w0 ρ h ds Q)) (Post n B w0 ρ h ds Q) e a w := by
  obtain ⟨ρ', t', h', w1, Ds, q, hs, ht, hd, hn, hg, hm, hj⟩ := hp
  cases e with
  | normal =>
    simp only [Exit.then]
    have := hy t' h' q ro hr (B.plus Ds) w1 ρ' w a hs ht
    rw [hd] at this
    exact wpIn_mono this fun e a w hp => hp.back hm hn hg hj
  | _ => exact ⟨ρ', t', h', w1, Ds, q, hs, ht, hd, hn, hg, hm, hj⟩

theorem SimE.drew {B : Bd} {w0 w : World} {ρ : Rn} {h : Hp} (hs : SimE B w0 ρ h w) : SimE B w0 ρ h w.drew := ⟨hs.sim.drew, E.mono hs.env (fun _ _ => rfl) fun _ _ => rfl, hs.top, hs.sep, hs.own⟩
theorem vc_sound (hm : P.follows .mixedOrders = true) {tb : Nat → Marks} (c : Code) : ∀ {Q : APost} {t : Tm} {h : Hp}, okCode P n tb c = true → vc P n tb c Q t h → Awp P n c Q t h := by
  induction c with
  | skip => intro Q t h _ hv ro _ B w0 ρ w a hs ht; exact wpIn_skip (Post.of hv hs ht rfl (Nat.le_refl _) (Goes.refl _ _) fun _ => rfl)
  | label l => intro Q t h _ hv ro _ B w0 ρ w a hs ht; exact wpIn_label (Post.of hv hs ht rfl (Nat.le_refl _) (Goes.refl _ _) fun _ => rfl)
  | ret => intro Q t h _ hv ro _ B w0 ρ w a hs ht; exact wpIn_ret (Post.of hv hs ht rfl (Nat.le_refl _) (Goes.refl _ _) fun _ => rfl)
  | exit id => intro Q t h _ hv ro _ B w0 ρ w a hs ht; exact wpIn_exit (Post.of hv hs ht rfl (Nat.le_refl _) (Goes.refl _ _) fun _ => rfl)
  | seq x y ihx ihy =>
    intro Q t h hok hv ro hr B w0 ρ w a hs ht
    simp only [okCode, Bool.and_eq_true] at hok
    refine wpIn_seq (wpIn_mono (ihx hok.1 hv ro (fun q => hr (by simp [hasRange, q])) B w0 ρ w a hs ht) fun e a' w' hp => ?_)
    exact Post.thenQ (fun q => hr (by simp [hasRange, q])) (fun t h q => ihy hok.2 q) hp
  | cond c x y ihx ihy =>
    intro Q t h hok hv ro hr B w0 ρ w a hs ht
    simp only [okCode, Bool.and_eq_true] at hok
    obtain ⟨h1, _⟩ := ht.ev hs.sim.gl hs.sim.nx hok.1.1
    unfold vc CondV at hv
    split at hv
    · rename_i b hb
      rw [hb] at h1
      refine wpIn_cond h1 ?_
      cases b with
      | true => exact ihx hok.1.2 (hv.1 rfl) ro (fun q => hr (by simp [hasRange, q])) B w0 ρ w a hs ht
      | false => exact ihy hok.2 (hv.2 rfl) ro (fun q => hr (by simp [hasRange, q])) B w0 ρ w a hs ht
    · exact hv.elim
  | block id b ih =>
    intro Q t h hok hv ro hr B w0 ρ w a hs ht
    refine wpIn_block (wpIn_mono (ih hok hv ro (fun q => hr (by simpa [hasRange] using q)) B w0 ρ w a hs ht) fun e a' w' hp => ?_)
    obtain ⟨ρ', t', h', w1, Ds, q, rest⟩ := hp
    cases e with
    | exit id' =>
      simp only [Exit.inBlock]
      simp only [blockQ] at q
      split
      · rename_i he; rw [if_pos he] at q; exact ⟨ρ', t', h', w1, Ds, q, rest⟩
      · rename_i he; rw [if_neg he] at q; exact ⟨ρ', t', h', w1, Ds, q, rest⟩
    | _ => exact ⟨ρ', t', h', w1, Ds, q, rest⟩
  | scope b ih =>
    intro Q t h hok hv ro hr B w0 ρ w a hs ht
    refine wpIn_scope_straight (wpIn_mono (ih hok hv ro (fun q => hr (by simpa [hasRange] using q)) B w0 ρ w a hs ht) fun e a' w' hp => ?_)
    obtain ⟨ρ', t', h', w1, Ds, q, rest⟩ := hp
    cases e with
    | goto l => exact q.elim
    | _ => exact ⟨ρ', t', h', w1, Ds, q, rest⟩
  | region id ops draw =>
    intro Q t h hok hv ro hr B w0 ρ w a hs ht
    simp only [okCode, Bool.and_eq_true] at hok
    have hall : ∀ o ∈ ops, okOper n o = true := fun o ho => Array.all_eq_true'.1 hok.1 o ho
    cases draw with
    | false => exact wpIn_region_list (aops_sound hall Q ops.toList (fun o ho => hall o (by simpa using ho)) hs ht rfl (Nat.le_refl _) (Goes.refl _ _) (fun _ => rfl) hv)
    | true =>
      by_cases hst : (tb id).l.contains 4000000 = true
      · unfold vc at hv
        rw [if_pos hst] at hv
        exact hv ro hr B w0 ρ w a hs ht
      unfold vc at hv
      rw [if_neg hst] at hv
      have hdraw : drawOk P ops ((tb id).at h.next).l = true := by rw [Marks.at_l]; simp only [Bool.not_true, Bool.false_or, Bool.or_eq_true] at hok; exact hok.2.resolve_left hst
      refine wpIn_region_any hm ?_
      have hunl : unl ops (Array.replicate ops.size false) = List.range ops.size := by
        unfold unl
        apply List.filter_eq_self.2
        intro j hj
        have : j < ops.size := List.mem_range.1 hj
        simp [this]
      refine any_sound hall hdraw Q ops.size (by simp) ?_ (by rw [hunl]; simp) hs.drew ht rfl (Nat.le_refl _) (Goes.refl _ _) (fun _ => rfl) ?_
      · intro j o hj hl
        have : j < ops.size := (Array.getElem?_eq_some_iff.1 hj).1
        simp [this] at hl
      · rw [hunl]
        have := hv
        rw [aopsD_DL ops.toList 0 t h (by simp)] at this
        simpa [List.range_eq_range'] using this
  | loop b ih => intro Q t h _ hv; exact hv
  | rangeFunc f ps as b ih1 ih2 => intro Q t h _ hv; exact hv
  | goto l => intro Q t h _ hv; exact hv
  | refuse w => intro Q t h _ hv; exact hv

theorem Awp.mono {c : Code} {Q Q' : APost} {t : Tm} {h : Hp} (hq : ∀ e t h, Q e t h → Q' e t h) (ha : Awp P n c Q t h) : Awp P n c Q' t h := fun ro hr B w0 ρ w a hs ht =>
  wpIn_mono (ha ro hr B w0 ρ w a hs ht) fun _ _ _ ⟨ρ', t', h', w1, Ds, q, rest⟩ => ⟨ρ', t', h', w1, Ds, hq _ _ _ q, rest⟩

theorem least {p : Nat → Prop} (hx : ∃ m, p m) : ∃ m, p m ∧ ∀ k, p k → m ≤ k := by
  obtain ⟨m, hm⟩ := hx
  induction m using Nat.strongRecOn with
  | _ m ih =>
    by_cases hb : ∃ k, k < m ∧ p k
    · obtain ⟨k, hk, hpk⟩ := hb; exact ih k hk hpk
    · exact ⟨m, hm, fun k hk => Nat.le_of_not_lt fun hlt => hb ⟨k, hlt, hk⟩⟩

/-- A loop, by what holds at each round's head and a number that each round lowers. -/
theorem awp_loop {c : Code} {Q : APost} {t : Tm} {h : Hp} (I : Tm → Hp → Prop) (μ : Tm → Hp → Nat) (h0 : I t h) (round : ∀ t h, I t h → Awp P n c (thenQ (fun t' h' => I t' h' ∧ μ t' h' < μ t h) Q) t h) : Awp P n (.loop c) Q t h := by
  classical
  intro ro hro B w0 ρ w a hs ht
  let R : Act → World → Nat → Prop := fun a' w' m => ∃ ρ' t' h' w1 Ds, I t' h' ∧ SimE (B.plus Ds) w1 ρ' h' w' ∧ TR ρ' n t' h'.next a'.tmps ∧ a'.defers = Ds.map mark ++ a.defers ∧ h.next ≤ h'.next ∧ Goes h.next ρ ρ' ∧ Mk B w0 w1 Ds ∧ (E.can = false → h'.jump = h.jump) ∧ μ t' h' = m
  let M : Act → World → Nat := fun a' w' => if hx : ∃ m, R a' w' m then Classical.choose (least hx) else 0
  refine wpIn_loop (fun a' w' => ∃ m, R a' w' m) M ⟨_, ρ, t, h, w0, [], h0, by rw [Bd.plus_nil]; exact hs, ht, by simp, Nat.le_refl _, Goes.refl _ _, Mk.nil B w0, fun _ => rfl, rfl⟩ ?_
  intro a' w' hx
  have hM : M a' w' = Classical.choose (least hx) := by simp only [M]; rw [dif_pos hx]
  obtain ⟨ρ', t', h', w1, Ds, hI, hs', ht', hd', hn', hg', hm', hj', hμ⟩ := (Classical.choose_spec (least hx)).1
  refine wpIn_mono (round t' h' hI ro hro (B.plus Ds) w1 ρ' w' a' hs' ht') fun e a2 w2 hp0 => ?_
  rw [hd'] at hp0
  have hp := hp0.back hm' hn' hg' hj'
  obtain ⟨ρ2, t2, h2, w2', Es, q, hs2, ht2, hd2, hn2, hg2, hm2, hj2⟩ := hp
  cases e with
  | normal =>
    simp only [Exit.then]
    obtain ⟨q1, q2⟩ := q
    have hR : R a2 w2 (μ t2 h2) := ⟨ρ2, t2, h2, w2', Es, q1, hs2, ht2, hd2, hn2, hg2, hm2, hj2, rfl⟩
    refine ⟨⟨_, hR⟩, ?_⟩
    have e1 : M a2 w2 ≤ μ t2 h2 := by
      simp only [M]
      rw [dif_pos ⟨_, hR⟩]
      exact (Classical.choose_spec (least (p := R a2 w2) ⟨_, hR⟩)).2 _ hR
    rw [hM, ← hμ]
    omega
  | _ => exact ⟨ρ2, t2, h2, w2', Es, q, hs2, ht2, hd2, hn2, hg2, hm2, hj2⟩

/-! ### Whole functions -/
def ares (P : Program) (t : Tm) (h : Hp) : ResultVar → Option Value
  | .tmp k => some (t k)
  | .cell k ty => aload P ty h (t k)
def aresL (P : Program) (t : Tm) (h : Hp) : List ResultVar → Option (List Value)
  | [] => some []
  | r :: rs => match ares P t h r, aresL P t h rs with
    | some v, some l => some (v :: l)
    | _, _ => none
def aresult (P : Program) (rs : List ResultVar) (t : Tm) (h : Hp) : Option Value :=
  match aresL P t h rs with
  | some [v] => some v
  | some l => some (.tuple l.toArray)
  | none => none
def okRes (n : Nat) : ResultVar → Bool
  | .tmp k => decide (k < n)
  | .cell k _ => decide (k < n)

theorem run_ares {f : ResultVar → Sem Value} {tmps : Array Value} (f1 : ∀ k, f (.tmp k) = pure (tmps.getD k undef)) (f2 : ∀ k ty, f (.cell k ty) = (do loadVar ty (← asAddr (tmps.getD k undef)))) {B : Bd} {w0 w : World} {ρ : Rn} {h : Hp} {t : Tm} (hs : Sim B w0 ρ h w) (ht : TR ρ n t h.next tmps) (rs : List ResultVar) : ∀ {l : List Value}, (∀ r ∈ rs, okRes n r = true) → aresL P t h rs = some l →
    (rs.mapM (m := Sem) f).run P w = .ok (l.map (rl ρ)) w ∧ ∀ v ∈ l, vtop v ≤ h.next := by
  induction rs with
  | nil => intro l _ hl; simp only [aresL, Option.some.injEq] at hl; subst hl; simp
  | cons r rs ih =>
    intro l hok hl
    have hget : ∀ k, k < n → tmps.getD k undef = rl ρ (t k) := fun k hk => by simp [Array.getD_eq_getD_getElem?, ht.get k hk]
    simp only [aresL] at hl
    split at hl
    · rename_i v l' h1 h2
      cases hl
      obtain ⟨q1, q2⟩ := ih (fun r hr => hok r (by simp [hr])) h2
      have hr := hok r (by simp)
      cases r with
      | tmp k =>
        have hk : k < n := by simpa [okRes] using hr
        simp only [ares, Option.some.injEq] at h1
        subst h1
        refine ⟨?_, fun v hv => ?_⟩
        · simp only [List.mapM_cons, f1, Sem.run_bind, Sem.run_pure, Result.andThen_ok, q1, hget k hk]; rfl
        · rcases List.mem_cons.1 hv with rfl | hv
          · exact ht.top k hk
          · exact q2 v hv
      | cell k ty =>
        have hk : k < n := by simpa [okRes] using hr
        simp only [ares] at h1
        obtain ⟨s1, s2⟩ := run_aload (P := P) hs h1
        refine ⟨?_, fun v hv => ?_⟩
        · have s3 : (do loadVar ty (← asAddr (tmps.getD k undef)) : Sem Value).run P w = .ok (rl ρ v) w := by
            rw [hget k hk]
            unfold aload at h1
            split at h1
            · rename_i a ha
              rw [ha] at s1 ⊢
              simpa only [Instr.loadAt, rl, Instr.sureAddr, asAddr] using s1
            · cases h1
          rw [List.mapM_cons, Sem.run_bind, f2, s3]
          simp only [Sem.run_bind, Result.andThen_ok, q1, Sem.run_pure]; rfl
        · rcases List.mem_cons.1 hv with rfl | hv
          · exact s2
          · exact q2 v hv
    · cases hl

theorem run_aresult {B : Bd} {w0 w : World} {ρ : Rn} {h : Hp} {t : Tm} {tmps : Array Value} {fn : Func} {v : Value} (hs : Sim B w0 ρ h w) (ht : TR ρ n t h.next tmps) (hok : fn.results.all (okRes n) = true) (hr : aresult P fn.results.toList t h = some v) :
    (results fn tmps).run P w = .ok (rl ρ v) w ∧ vtop v ≤ h.next := by
  unfold aresult at hr
  have hok' : ∀ r ∈ fn.results.toList, okRes n r = true := fun r hr' => Array.all_eq_true'.1 hok r (by simpa using hr')
  have run : ∀ l, aresL P t h fn.results.toList = some l → (results fn tmps).run P w = .ok (if hx : (l.map (rl ρ)).toArray.size = 1 then (l.map (rl ρ)).toArray[0] else .tuple (l.map (rl ρ)).toArray) w := by
    intro l hl
    unfold results
    rw [Sem.run_bind]
    conv => lhs; rw [← Array.toArray_toList (xs := fn.results)]
    rw [List.mapM_toArray, Sem.run_map, (run_ares (P := P) (fun _ => rfl) (fun _ _ => rfl) hs ht fn.results.toList hok' hl).1]
    rfl
  split at hr
  · rename_i u hu
    cases hr
    obtain ⟨_, q2⟩ := run_ares (P := P) (f := fun | .tmp k => pure (tmps.getD k undef) | .cell k ty => do loadVar ty (← asAddr (tmps.getD k undef))) (fun _ => rfl) (fun _ _ => rfl) hs ht fn.results.toList hok' hu
    exact ⟨by rw [run _ hu]; simp, q2 _ (by simp)⟩
  · rename_i l hne hl
    cases hr
    obtain ⟨_, q2⟩ := run_ares (P := P) (f := fun | .tmp k => pure (tmps.getD k undef) | .cell k ty => do loadVar ty (← asAddr (tmps.getD k undef))) (fun _ => rfl) (fun _ _ => rfl) hs ht fn.results.toList hok' hl
    refine ⟨?_, vtop_tuple.2 fun u hu => q2 u (by simpa using hu)⟩
    rw [run _ hl, rl_tuple]
    have hsz : ¬ (l.map (rl ρ)).toArray.size = 1 := by
      intro hsz
      simp at hsz
      obtain ⟨u, rfl⟩ := List.length_eq_one_iff.1 hsz
      exact hne u rfl
    rw [dif_neg hsz]
    simp
  · cases hr

/-- What is kept behind a call: of a block that was there, as it was or as it is now; what it holds is known. -/
def Keep (h h1 h2 : Hp) : Prop := h.next ≤ h2.next ∧ h2.next ≤ h1.next ∧ ∀ i b, h2.blks i = some b → h1.blks i = some b ∧ (h2.next = h1.next ∨ h.blks i = some b ∨ (i < h2.next ∧ ∀ v ∈ b.cells, vtop v ≤ h2.next))

def RetK (P : Program) (rs : List ResultVar) (h : Hp) (K : Value → Hp → Prop) (t : Tm) (h1 : Hp) : Prop :=
  ∃ r h2, aresult P rs t h1 = some r ∧ K r h2 ∧ (h2.next = h1.next ∨ vtop r ≤ h2.next) ∧ (h2.jump = h1.jump ∨ (E.can = false ∧ h2.jump = h.jump)) ∧ (h.next ≤ h1.next → Keep h h1 h2)

def FnQ (P : Program) (rs : List ResultVar) (h : Hp) (K : Value → Hp → Prop) : APost := fun e t h1 => match e with
  | .normal => RetK P rs h K t h1
  | .ret => RetK P rs h K t h1
  | _ => False
theorem FnQ_normal (rs : List ResultVar) (h : Hp) (K : Value → Hp → Prop) (t : Tm) (h1 : Hp) : FnQ P rs h K .normal t h1 = RetK P rs h K t h1 := _root_.id rfl
theorem FnQ_ret (rs : List ResultVar) (h : Hp) (K : Value → Hp → Prop) (t : Tm) (h1 : Hp) : FnQ P rs h K .ret t h1 = RetK P rs h K t h1 := _root_.id rfl

/-- The temporaries at a function's beginning. -/
def tm0 (args : List Value) : Tm := fun k => args.getD k undef

/-- What is known of a heap that some world realises. -/
structure Wf (h : Hp) (args : List Value) : Prop where
  lt : ∀ i b, h.blks i = some b → i < h.next
  top : ∀ i b, h.blks i = some b → ∀ v ∈ b.cells, vtop v ≤ h.next
  args : ∀ v ∈ args, vtop v ≤ h.next

/-- A block that holds no calls is shut. -/
theorem SimE.shut {B : Bd} {w0 w : World} {ρ : Rn} {h : Hp} {D : Nat} {Ds : List Nat} (hs : SimE (B.plus (D :: Ds)) w0 ρ h w) (hm : B.mine D) (hnd : D ∉ Ds) (o : Obj) : SimE (B.plus Ds) w0 ρ h (w.putObj D o) := by
  have oth : ∀ k, k ≠ D → (w.putObj D o).heap[k]? = w.heap[k]? := fun k hk => World.putObj_heap_other hk
  have hsz : (w.putObj D o).heap.size = w.heap.size := World.putObj_size
  have sub : ∀ k, (B.plus Ds).F k → (B.plus (D :: Ds)).F k := fun k hk => hk.elim .inl fun q => .inr (List.mem_cons_of_mem _ q)
  have neD : ∀ k, (k < B.b ∨ (B.plus Ds).F k) → k ≠ D := fun k hk e => by
    subst e
    rcases hk with hk | hk | hk
    · have := hm.1; omega
    · exact hm.2 hk
    · exact hnd hk
  have sD : ¬ E.S D := fun hk => (hs.sep D hk).2.2 (.inr (List.mem_cons_self ..))
  refine ⟨⟨hs.sim.lt, hs.sim.wf, fun i b hi => ?_, hs.sim.inj, ⟨by rw [hsz]; exact hs.sim.base.1, fun k hk => by rw [hsz]; exact hs.sim.base.2 k (sub k hk)⟩, ⟨hs.sim.below.os, hs.sim.below.tape, hs.sim.below.output, by rw [hsz]; exact hs.sim.below.size, fun k hk => ?_⟩, hs.sim.gl, hs.sim.nx⟩, ?_, hs.top, fun k hk => ?_, hs.own⟩
  · obtain ⟨cs, e, fr, q⟩ := hs.sim.real i b hi
    refine ⟨cs, e, fr, ?_, q.cell, fun ho => ?_, q.ro⟩
    · rw [oth]
      · exact q.at_
      · intro e
        cases hb : b.own with
        | true => exact (q.own hb).1.2 (.inr (by rw [e]; exact List.mem_cons_self ..))
        | false => have h1 : (ρ i).blk < B.b := (q.ro hb).1; have h2 := hm.1; rw [e] at h1; omega
    · obtain ⟨q1, q2⟩ := q.own ho
      exact ⟨⟨q1.1, fun hk => q1.2 (sub _ hk)⟩, q2⟩
  · rw [oth k (neD k hk)]
    exact hs.sim.below.block k (hk.imp id (sub k))
  · exact E.mono hs.env (fun _ _ => rfl) fun k hk => oth k fun e => sD (e ▸ hk)
  · obtain ⟨q1, q2, q3⟩ := hs.sep k hk
    exact ⟨by rw [hsz]; exact q1, q2, fun hk => q3 (sub k hk)⟩
theorem leaves_marks {fn : Func} {tmps : Array Value} {R : Ending → World → Prop} {B : Bd} {w0 : World} {ρ : Rn} {h : Hp} (Ds : List Nat) : ∀ {w : World}, Ds.Nodup → (∀ D ∈ Ds, B.mine D ∧ w.heap[D]? = some (.deferred (some []))) → SimE (B.plus Ds) w0 ρ h w →
    (∀ w2, SimE B w0 ρ h w2 → ∃ v, (results fn tmps).run P w2 = .ok v w2 ∧ R (.returned v) w2) → LeavesInM (WF none) 0 P fn tmps R (Ds.map mark) .returning w := by
  induction Ds with
  | nil =>
    intro w _ _ hs hR
    rw [Bd.plus_nil] at hs
    exact hR w hs
  | cons D Ds ih =>
    intro w hnd hall hs hR
    obtain ⟨n1, n2⟩ := List.nodup_cons.1 hnd
    obtain ⟨m1, m2⟩ := hall D (by simp)
    refine ⟨by simp, .inl ⟨D, _, rfl, run_takeDeferred m2, ih n2 (fun D' hD' => ?_) (hs.shut m1 n1 _) hR⟩⟩
    obtain ⟨q1, q2⟩ := hall D' (by simp [hD'])
    refine ⟨q1, ?_⟩
    rw [World.putObj_heap_other (fun e : D' = D => n1 (by rw [← e]; exact hD'))]
    exact q2

/-- One behind the other. -/
theorem awp_seq {x y : Code} {Q : APost} {t : Tm} {h : Hp} (hx : Awp P n x (thenQ (fun t h => Awp P n y Q t h) Q) t h) : Awp P n (.seq x y) Q t h := fun ro hr B w0 ρ w a hs ht =>
  wpIn_seq (wpIn_mono (hx ro (fun q => hr (by simp [hasRange, q])) B w0 ρ w a hs ht) fun e a' w' hp => Post.thenQ (fun q => hr (by simp [hasRange, q])) (fun t h q => q) hp)

/-- A function: its code's sentence, however it is come by. -/
theorem acall_awp {f : FuncId} {fn : Func} {c : Code} {args : List Value} {h : Hp} {K : Value → Hp → Prop} (hf : P.funcs[f]? = some fn) (hb : fn.body = some c) (hname : (fn.name == "runtime.NumGoroutine") = false)
    (hok : (fn.results.all (okRes fn.ntmps) && decide (args.length ≤ fn.ntmps)) = true)
    (hv : Wf h args → Awp P fn.ntmps c (FnQ P fn.results.toList h K) (tm0 args) h) : ACall P f args h K := by
  simp only [Bool.and_eq_true, decide_eq_true_eq] at hok
  obtain ⟨hok2, hlen⟩ := hok
  refine ⟨⟨fn, c, hf, hb, hname⟩, fun B w0 ρ w hs ha => ?_⟩
  have hwf : Wf h args := ⟨hs.sim.lt, fun i b hb v hv => (hs.sim.wf i b hb v hv).1, ha⟩
  refine callsIn_wide.1 (callsIn_of_wp_marks (F := WF none) (n := 0) hf hb trivial ?_)
  have ht : TR ρ fn.ntmps (tm0 args) h.next ((args.map (rl ρ)).toArray ++ Array.replicate (fn.ntmps - (args.map (rl ρ)).toArray.size) undef) := by
    refine ⟨by simp; omega, fun k hk => ?_, fun k hk => ?_⟩
    · by_cases hka : k < args.length
      · rw [Array.getElem?_append_left (by simpa using hka)]
        simp [tm0, hka]
      · rw [Array.getElem?_append_right (by simp; omega)]
        simp only [List.size_toArray, List.length_map]
        have : tm0 args k = undef := by simp [tm0, List.getElem?_eq_none (Nat.le_of_not_lt hka)]
        rw [this, rl_undef]
        have hk' : k - args.length < fn.ntmps - args.length := by omega
        simp [hk']
    · by_cases hka : k < args.length
      · have : tm0 args k = args[k] := by simp [tm0, hka]
        rw [this]; exact ha _ (List.getElem_mem hka)
      · have : tm0 args k = undef := by simp [tm0, List.getElem?_eq_none (Nat.le_of_not_lt hka)]
        rw [this, vtop_undef]; exact Nat.zero_le _
  refine wpIn_mono ((hv hwf) none (fun _ => rfl) B w0 ρ w _ hs ht) fun e a w' hp => ?_
  obtain ⟨ρ', t', h1, w1, Ds, q, hs1, ht1, hd1, hn1, hg1, hm1, hj1⟩ := hp
  have fin : RetK P fn.results.toList h K t' h1 → LeavesInM (WF none) 0 P fn a.tmps (fun e w' => ∃ r h' ρ', e = .returned (rl ρ' r) ∧ K r h' ∧ SimE B w0 ρ' h' w' ∧ vtop r ≤ h'.next ∧ h.next ≤ h'.next ∧ Goes h.next ρ ρ' ∧ (E.can = false → h'.jump = h.jump)) a.defers .returning w' := by
    rintro ⟨r, h2, hr, hK, hr2, hj2, hk⟩
    obtain ⟨hk1, hk2, hk3⟩ := hk hn1
    rw [hd1, List.append_nil]
    have hall : ∀ D ∈ Ds, B.mine D ∧ w'.heap[D]? = some (.deferred (some [])) := fun D hD => ⟨(hm1.at_ D hD).1, by rw [hs1.sim.below.block D (.inr (.inr hD))]; exact (hm1.at_ D hD).2⟩
    refine leaves_marks Ds hm1.nd hall hs1 fun w2 hs2 => ?_
    have hs2 := hs2.rebase hm1.below
    obtain ⟨s1, s2⟩ := run_aresult hs2.sim ht1 hok2 hr
    have hf2 : Sim B w0 ρ' h2 w2 := hs2.sim.forget h2 (Nat.le_trans hs.sim.nx hk1) fun i b hi => by
      obtain ⟨q1, q2⟩ := hk3 i b hi
      refine ⟨q1, ?_⟩
      rcases q2 with q2 | q2 | q2
      · have := hs2.sim.lt i b q1
        exact ⟨by omega, fun v hv => by have := (hs2.sim.wf i b q1 v hv).1; omega⟩
      · have := hs.sim.lt i b q2
        exact ⟨by omega, fun v hv => Nat.le_trans (hs.sim.wf i b q2 v hv).1 hk1⟩
      · exact q2
    have hj3 : E.can = false → h2.jump = h.jump := fun hc => hj2.elim (fun q => q.trans (hj1 hc)) fun q => q.2
    have hj4 : h2.jump = h1.jump := hj2.elim id fun q => q.2.trans (hj1 q.1).symm
    exact ⟨_, s1, r, h2, ρ', rfl, hK, ⟨hf2, by rw [hj4]; exact hs2.env, Nat.le_trans hs.top hk1, hs2.sep, fun i b hi ho => hs2.own i b (hk3 i b hi).1 ho⟩, hr2.elim (fun e => by omega) id, hk1, hg1, hj3⟩
  cases e with
  | normal => exact fin q
  | ret => exact fin q
  | _ => exact q.elim

/-- A function: its code's sentence. -/
theorem acall_of {f : FuncId} {fn : Func} {c : Code} {args : List Value} {h : Hp} {K : Value → Hp → Prop} (tb : Nat → Marks) (hf : P.funcs[f]? = some fn) (hb : fn.body = some c) (hname : (fn.name == "runtime.NumGoroutine") = false) (hm : P.follows .mixedOrders = true)
    (hok : (okCode P fn.ntmps tb c && fn.results.all (okRes fn.ntmps) && decide (args.length ≤ fn.ntmps)) = true)
    (hv : Wf h args → vc P fn.ntmps tb c (FnQ P fn.results.toList h K) (tm0 args) h) : ACall P f args h K := by
  simp only [Bool.and_eq_true] at hok
  exact acall_awp hf hb hname (by simp only [Bool.and_eq_true]; exact ⟨hok.1.2, hok.2⟩) fun hwf => vc_sound hm c hok.1.1 (hv hwf)

/-- Nothing is kept but what was there. -/
theorem Keep.same {h h1 : Hp} (hwf : ∀ i b, h.blks i = some b → i < h.next) (hs : ∀ i, i < h.next → h1.blks i = h.blks i) : h.next ≤ h1.next → Keep h h1 h := fun hn =>
  ⟨Nat.le_refl _, hn, fun i b hi => ⟨by rw [hs i (hwf i b hi)]; exact hi, .inr (.inl hi)⟩⟩
theorem Keep.all {h h1 : Hp} : h.next ≤ h1.next → Keep h h1 h1 := fun hn => ⟨hn, Nat.le_refl _, fun _ _ hi => ⟨hi, .inl rfl⟩⟩
/-- The names are kept, of the blocks not all. -/
theorem Keep.some {h h1 h2 : Hp} (he : h2.next = h1.next) (hs : ∀ i b, h2.blks i = some b → h1.blks i = some b) : h.next ≤ h1.next → Keep h h1 h2 := fun hn => ⟨by omega, by omega, fun i b hi => ⟨hs i b hi, .inl he⟩⟩

/-- The result, and all that there is. -/
theorem RetK.all {rs : List ResultVar} {h h1 : Hp} {K : Value → Hp → Prop} {t : Tm} {r : Value} (hr : aresult P rs t h1 = Option.some r) (hK : K r h1) : RetK P rs h K t h1 := ⟨r, h1, hr, hK, .inl rfl, .inl rfl, Keep.all⟩
/-- The result, and what there was. -/
theorem RetK.same {rs : List ResultVar} {args : List Value} {h h1 : Hp} {K : Value → Hp → Prop} {t : Tm} {r : Value} (hwf : Wf h args) (hr : aresult P rs t h1 = Option.some r) (hv : vtop r ≤ h.next) (hs : ∀ i, i < h.next → h1.blks i = h.blks i) (hK : K r h) (hc : E.can = false := by rfl) : RetK P rs h K t h1 :=
  ⟨r, h, hr, hK, .inr hv, .inr ⟨hc, rfl⟩, Keep.same hwf.lt hs⟩

end
end Go.Mini
