/-
  Regions, code, loops and whole functions, carried out on names.
-/
import Derived.Test.YtmnemfeofhinaaaDoorM12
set_option linter.unusedSimpArgs false
set_option linter.unusedVariables false
set_option linter.unusedSectionVars false
namespace Go.Mini
open Go

section
variable {P : Program} {n : Nat} [E : REnv]

/-! ### What stands ahead of what -/
def maskOf (o : Oper) (acc : List Nat) : Nat := o.after.toList.foldl (fun s e => if Region.binds .any e then s ||| 2 ^ e.on ||| acc.getD e.on 0 else s) 0
def masks : List Oper → List Nat → List Nat
  | [], acc => acc
  | o :: r, acc => masks r (acc ++ [maskOf o acc])

/-! Blocks that come late: an 'alloc' that waits for nothing, and that all but blocks of its own kind behind it wait for, may come at any time: its name is given where the text has it. 2000000 + i among the marks says so of operation i. -/
def isLate (pure : List Nat) (i : Nat) : Bool := pure.contains (2000000 + i)
def lateOp (P : Program) (o : Oper) : Bool :=
  (match o.op with | .alloc ty => (zeroOf P ty).isSome | _ => false) && o.guard.isNone && (o.after.all fun e => !Region.binds .any e)
def beforeAll (ops : Array Oper) (pure : List Nat) (ms : List Nat) (i x : Nat) : Bool :=
  (List.range ops.size).all fun j => !decide (i < j) || isLate pure j || (ms.getD j 0).testBit x

def drawOk (P : Program) (ops : Array Oper) (pure : List Nat) : Bool :=
  let ms := masks ops.toList []
  (List.range ops.size).all fun i => match ops[i]? with
    | some oi => (oi.after.all fun e => !Region.binds .any e || decide (e.on < i)) &&
        (if isLate pure i = true then lateOp P oi && beforeAll ops pure ms i i && ((List.range i).all fun x => match ops[x]? with
            | some ox => ox.apart ops oi && (isLate pure x || swapOk P ops pure x i ox oi || beforeAll ops pure ms i x)
            | none => true)
         else (List.range i).all fun x => (ms.getD i 0).testBit x || (match ops[x]? with | some ox => !isLate pure x && swapOk P ops pure x i ox oi | none => true))
    | none => true

structure DrawSpec (P : Program) (ops : Array Oper) (pure : List Nat) : Prop where
  edge : ∀ i oi, ops[i]? = some oi → ∀ e ∈ oi.after, Region.binds .any e = true → e.on < i
  late : ∀ i oi, ops[i]? = some oi → isLate pure i = true → lateOp P oi = true
  behind : ∀ i j, i < ops.size → isLate pure i = true → i < j → j < ops.size → isLate pure j = false → ((masks ops.toList []).getD j 0).testBit i = true
  ahead : ∀ i oi x ox, ops[i]? = some oi → isLate pure i = true → x < i → ops[x]? = some ox → ox.apart ops oi = true ∧ (isLate pure x = true ∨ swapOk P ops pure x i ox oi = true ∨ ∀ j, i < j → j < ops.size → isLate pure j = false → ((masks ops.toList []).getD j 0).testBit x = true)
  swap : ∀ i oi x ox, ops[i]? = some oi → isLate pure i = false → x < i → ops[x]? = some ox → ((masks ops.toList []).getD i 0).testBit x = true ∨ (isLate pure x = false ∧ swapOk P ops pure x i ox oi = true)
theorem beforeAll_spec {ops : Array Oper} {pure ms : List Nat} {i x : Nat} (h : beforeAll ops pure ms i x = true) : ∀ j, i < j → j < ops.size → isLate pure j = false → (ms.getD j 0).testBit x = true := by
  intro j h1 h2 h3
  have := List.all_eq_true.1 h j (List.mem_range.2 h2)
  simpa [h1, h3] using this
theorem drawOk_spec {ops : Array Oper} {pure : List Nat} (h : drawOk P ops pure = true) : DrawSpec P ops pure := by
  have hA : ∀ i oi, ops[i]? = some oi → _ := fun i oi hi => by
    have := List.all_eq_true.1 h i (List.mem_range.2 (Array.getElem?_eq_some_iff.1 hi).1)
    simp only [hi, Bool.and_eq_true] at this
    exact this
  refine ⟨fun i oi hi e he hb => ?_, fun i oi hi hl => ?_, fun i j hi hl h1 h2 h3 => ?_, fun i oi x ox hi hl hx hox => ?_, fun i oi x ox hi hl hx hox => ?_⟩
  · have := Array.all_eq_true'.1 (hA i oi hi).1 e he
    simpa [hb] using this
  · have := (hA i oi hi).2
    rw [if_pos hl] at this
    simp only [Bool.and_eq_true] at this
    exact this.1.1
  · have := (hA i ops[i] (by simp [hi])).2
    rw [if_pos hl] at this
    simp only [Bool.and_eq_true] at this
    exact beforeAll_spec this.1.2 j h1 h2 h3
  · have := (hA i oi hi).2
    rw [if_pos hl] at this
    simp only [Bool.and_eq_true] at this
    have := List.all_eq_true.1 this.2 x (List.mem_range.2 hx)
    simp only [hox, Bool.and_eq_true, Bool.or_eq_true] at this
    refine ⟨this.1, ?_⟩
    rcases this.2 with (h1 | h1) | h1
    · exact .inl h1
    · exact .inr (.inl h1)
    · exact .inr (.inr (beforeAll_spec h1))
  · have := (hA i oi hi).2
    rw [if_neg (by simp [hl])] at this
    have := List.all_eq_true.1 this x (List.mem_range.2 hx)
    simp only [hox, Bool.or_eq_true, Bool.and_eq_true, Bool.not_eq_true'] at this
    exact this

def Closed (ops : Array Oper) (listed : Array Bool) : Prop := ∀ j o, ops[j]? = some o → listed.getD j false = true → ∀ e ∈ o.after, Region.binds .any e = true → listed.getD e.on false = true

def MaskInv (ops : Array Oper) (acc : List Nat) : Prop := ∀ k o, k < acc.length → ops[k]? = some o → ∀ x, (acc.getD k 0).testBit x = true → ∀ listed, Closed ops listed → (∀ e ∈ o.after, Region.binds .any e = true → listed.getD e.on false = true) → listed.getD x false = true

theorem mask_fold (acc : List Nat) (x : Nat) (l : List Edge) : ∀ s, (l.foldl (fun s e => if Region.binds .any e then s ||| 2 ^ e.on ||| acc.getD e.on 0 else s) s).testBit x = true →
    s.testBit x = true ∨ ∃ e ∈ l, Region.binds .any e = true ∧ (e.on = x ∨ (acc.getD e.on 0).testBit x = true) := by
  induction l with
  | nil => intro s h; exact .inl h
  | cons e l ih =>
    intro s h
    simp only [List.foldl_cons] at h
    rcases ih _ h with h | ⟨e', he, hb, hx⟩
    · by_cases hb : Region.binds .any e = true
      · rw [if_pos hb, Nat.testBit_or, Nat.testBit_or, Bool.or_eq_true, Bool.or_eq_true] at h
        rcases h with (h | h) | h
        · exact .inl h
        · exact .inr ⟨e, by simp, hb, .inl (by
            rw [Nat.testBit_two_pow] at h
            simpa using h)⟩
        · exact .inr ⟨e, by simp, hb, .inr h⟩
      · rw [if_neg hb] at h; exact .inl h
    · exact .inr ⟨e', by simp [he], hb, hx⟩

theorem mask_inv (ops : Array Oper) (l : List Oper) : ∀ acc, (∀ j, l[j]? = ops[acc.length + j]?) → MaskInv ops acc → MaskInv ops (masks l acc) := by
  induction l with
  | nil => intro acc _ h; exact h
  | cons o l ih =>
    intro acc hl h
    have h0 : ops[acc.length]? = some o := by simpa using (hl 0).symm
    refine ih _ (fun j => by have := hl (j + 1); simp only [List.getElem?_cons_succ] at this; rw [this, List.length_append]; congr 1; simp; omega) ?_
    intro k o' hk ho' x hx listed hc hr
    simp only [List.length_append, List.length_singleton] at hk
    by_cases hk' : k < acc.length
    · have e : (acc ++ [maskOf o acc]).getD k 0 = acc.getD k 0 := by simp [List.getElem?_append_left hk']
      rw [e] at hx
      exact h k o' hk' ho' x hx listed hc hr
    · have hke : k = acc.length := by omega
      subst hke
      rw [h0] at ho'
      cases ho'
      have e : (acc ++ [maskOf o acc]).getD acc.length 0 = maskOf o acc := by simp
      rw [e] at hx
      rcases mask_fold acc x _ _ hx with h1 | ⟨e', he', hb, h1 | h1⟩
      · simp at h1
      · subst h1; exact hr e' (by simpa using he') hb
      · have hlt : e'.on < acc.length := by
          by_cases hlt : e'.on < acc.length
          · exact hlt
          · simp [List.getElem?_eq_none (Nat.le_of_not_lt hlt)] at h1
        have hon := hr e' (by simpa using he') hb
        cases ho : ops[e'.on]? with
        | none =>
          have : l.length + 1 ≤ 0 ∨ True := .inr trivial
          exact absurd ho (by
            have h2 : acc.length < ops.size := (Array.getElem?_eq_some_iff.1 h0).1
            have h3 : e'.on < ops.size := by omega
            simp [h3])
        | some o2 => exact h e'.on o2 hlt ho x h1 listed hc (fun e2 h2 h3 => hc e'.on o2 ho hon e2 h2 h3)

/-! ### Any order -/
def unl (ops : Array Oper) (listed : Array Bool) : List Nat := (List.range ops.size).filter fun j => !listed.getD j true

theorem DL_pull {all : Array Oper} (hall : ∀ o ∈ all, okOper n o = true) {pure : Marks} {i : Nat} {oi : Oper} (hi : all[i]? = some oi) {K : Tm → Hp → Prop} (L2 : List Nat) (L1 : List Nat) : ∀ {t : Tm} {h : Hp}, (∀ x ∈ L1, ∃ ox, all[x]? = some ox ∧ swapOk P all pure.l x i ox oi = true) → Real n t h →
    DL P all pure (L1 ++ i :: L2) K t h → stepD P all pure i oi t h fun t' h' => DL P all pure (L1 ++ L2) K t' h' := by
  induction L1 with
  | nil => intro t h _ _ hd; simpa only [List.nil_append, DL, hi] using hd
  | cons x L1 ih =>
    intro t h hx hr hd
    obtain ⟨ox, hox, hsw⟩ := hx x (by simp)
    have hokx := hall ox (Array.mem_of_getElem? hox)
    simp only [List.cons_append, DL, hox] at hd ⊢
    have h1 := stepD_mono (fun t' h' ⟨q1, q2⟩ => ih (fun y hy => hx y (by simp [hy])) q2 q1) (stepD_real hokx hr hd)
    exact stepD_swap hsw hr hokx (hall oi (Array.mem_of_getElem? hi)) h1

theorem filter_ne (i : Nat) (L1 L2 : List Nat) (hnd : (L1 ++ i :: L2).Nodup) : (L1 ++ i :: L2).filter (fun j => decide (j ≠ i)) = L1 ++ L2 := by
  rw [List.nodup_append] at hnd
  obtain ⟨h1, h2, h3⟩ := hnd
  rw [List.nodup_cons] at h2
  rw [List.filter_append, List.filter_cons]
  have e1 : L1.filter (fun j => decide (j ≠ i)) = L1 := List.filter_eq_self.2 fun a ha => by simpa using h3 a ha i (by simp)
  have e2 : L2.filter (fun j => decide (j ≠ i)) = L2 := List.filter_eq_self.2 fun a ha => by simp; intro e; exact h2.1 (e ▸ ha)
  rw [e1, e2]
  simp

theorem unl_set {ops : Array Oper} {listed : Array Bool} (hsz : listed.size = ops.size) {i : Nat} : unl ops (listed.setIfInBounds i true) = (unl ops listed).filter fun j => decide (j ≠ i) := by
  unfold unl
  rw [List.filter_filter]
  apply List.filter_congr
  intro j hj
  have hjs : j < listed.size := by rw [hsz]; simpa using hj
  by_cases hij : i = j
  · subst hij; simp [hjs]
  · have : j ≠ i := fun e => hij e.symm
    simp [Array.getElem?_setIfInBounds_ne hij, this]

/-! What has come and has no name yet. -/
structure Pd where
  i : Nat
  o : Oper
  z : Array Value
  r : Nat
  ex : Nat
def Pd.ptr (p : Pd) : Value := .pointer (some ⟨p.r, 0, none⟩)
def puts (a : Act) : List Pd → Act
  | [] => a
  | p :: l => (puts a l).put p.o.dst p.ptr
theorem put_put_defers (a : Act) (d : Option Tmp) (v : Value) : (a.put d v).defers = a.defers := by unfold Act.put; split <;> rfl
theorem puts_defers (a : Act) (l : List Pd) : (puts a l).defers = a.defers := by
  induction l with
  | nil => rfl
  | cons p l ih => simp only [puts, put_put_defers, ih]
theorem puts_put (a : Act) (d : Option Tmp) (v : Value) (l : List Pd) (h : ∀ p ∈ l, ∀ k, d = some k → p.o.dst ≠ some k) : (puts a l).put d v = puts (a.put d v) l := by
  induction l with
  | nil => rfl
  | cons p l ih =>
    simp only [puts]
    rw [← ih fun q hq => h q (by simp [hq])]
    exact Act.put_comm _ _ _ fun k hk he => h p (by simp) k he hk
theorem puts_mid (a : Act) (p : Pd) (l1 l2 : List Pd) (h : ∀ q ∈ l1, ∀ k, p.o.dst = some k → q.o.dst ≠ some k) : puts a (l1 ++ p :: l2) = (puts a (l1 ++ l2)).put p.o.dst p.ptr := by
  induction l1 with
  | nil => rfl
  | cons q l1 ih =>
    simp only [List.cons_append, puts]
    rw [ih fun r hr => h r (by simp [hr])]
    exact Act.put_comm _ _ _ fun k hk he => h q (by simp) k hk he
theorem puts_exec {ops : Array Oper} (o : Oper) (hs : ∀ cs b, o.op ≠ .select cs b) (a : Act) (l : List Pd) (h : ∀ p ∈ l, ∀ d, p.o.dst = some d → d ∉ o.looksAt ops) : execOp (puts a l).eval o = execOp a.eval o := by
  induction l with
  | nil => rfl
  | cons p l ih => rw [puts, execOp_put o hs _ _ _ (h p (by simp)), ih fun q hq => h q (by simp [hq])]
theorem puts_wanted {ops : Array Oper} (o : Oper) (a : Act) (l : List Pd) (h : ∀ p ∈ l, ∀ d, p.o.dst = some d → d ∉ o.looksAt ops) : Region.wanted o (yielded ops (puts a l).tmps) = Region.wanted o (yielded ops a.tmps) := by
  induction l with
  | nil => rfl
  | cons p l ih => rw [puts, wanted_put o _ _ _ (h p (by simp)), ih fun q hq => h q (by simp [hq])]

def Bd.with (B : Bd) (l : List Pd) : Bd := ⟨B.b, fun k => B.F k ∨ ∃ p ∈ l, p.r = k⟩
/-- A block that came is given its name. -/
theorem Sim.adopt {B : Bd} {w0 w : World} {ρ : Rn} {h : Hp} {p : Pd} {l1 l2 : List Pd} (hs : Sim (B.with (l1 ++ p :: l2)) w0 ρ h w) (hr : ∀ q ∈ l1 ++ l2, q.r ≠ p.r) (hm : B.mine p.r) {cs : Array Value} {e : TypeId} {fr : Nat × Nat}
    (hat : w.heap[p.r]? = some (.cells cs e fr)) (hsz : cs.size = p.z.size + p.ex) (hfr : ∀ j, j < cs.size → ¬ (fr.1 ≤ j ∧ j < fr.2)) (hc : ∀ (j : Nat) (hj : j < p.z.size), cs[j]? = some p.z[j]) (hz : ∀ v ∈ p.z, vtop v = 0 ∧ v.oneCell' = true) :
    Sim (B.with (l1 ++ l2)) w0 (ρ.new h.next ⟨p.r, 0, p.ex⟩) (h.alloc ⟨p.z, 1, true⟩) w := by
  have hg := Goes.new ρ h.next ⟨p.r, 0, p.ex⟩
  have hnew : (ρ.new h.next ⟨p.r, 0, p.ex⟩) h.next = ⟨p.r, 0, p.ex⟩ := by simp [Rn.new]
  have sub : ∀ k, (B.with (l1 ++ l2)).F k → (B.with (l1 ++ p :: l2)).F k := by
    rintro k (hk | ⟨q, hq, e⟩)
    · exact .inl hk
    · refine .inr ⟨q, ?_, e⟩
      rcases List.mem_append.1 hq with hq | hq <;> simp [hq]
  have notp : ∀ i b, h.blks i = some b → b.own = true → (ρ i).blk ≠ p.r := fun i b hi ho he => by
    obtain ⟨_, _, _, q⟩ := hs.real i b hi
    exact (q.own ho).1.2 (.inr ⟨p, by simp, he.symm⟩)
  refine ⟨fun j c hc' => ?_, fun j c hc' u hu => ?_, fun j c hc' => ?_, fun j k c d hc' hd oc od he => ?_, ⟨hs.base.1, fun k hk => hs.base.2 k (sub k hk)⟩, hs.below.less (Nat.le_refl _) sub, fun g hg' => by rw [← hg (100 + g) (by have := hs.nx; omega)]; exact hs.gl g hg', by have := hs.nx; simp; omega⟩
  · simp only [Hp.blks_alloc] at hc'
    simp only [Hp.next_alloc]
    split at hc'
    · omega
    · have := hs.lt _ _ hc'; omega
  · simp only [Hp.blks_alloc] at hc'
    simp only [Hp.next_alloc]
    split at hc'
    · cases hc'; have := hz u hu; exact ⟨by omega, this.2⟩
    · have := hs.wf _ _ hc' u hu; exact ⟨by omega, this.2⟩
  · simp only [Hp.blks_alloc] at hc'
    split at hc'
    · rename_i hj
      subst hj
      cases hc'
      refine ⟨cs, e, fr, ?_⟩
      rw [hnew]
      refine ⟨hat, fun q hq => ?_, fun _ => ⟨⟨hm.1, ?_⟩, rfl, by simpa using hsz, hfr⟩, fun h' => by cases h'⟩
      · rw [Nat.zero_add, hc q hq, rl_id _ (hz _ (Array.getElem_mem hq)).1]
      · rintro (hk | ⟨q, hq, e⟩)
        · exact hm.2 hk
        · exact hr q hq e
    · have hlt := hs.lt _ _ hc'
      obtain ⟨cs', e', fr', hr'⟩ := hs.real j c hc'
      refine ⟨cs', e', fr', ?_⟩
      rw [← hg j hlt]
      refine ⟨hr'.at_, fun q hq => ?_, fun ho => ?_, hr'.ro⟩
      · rw [hr'.cell q hq, hg.rl (hs.wf _ _ hc' _ (Array.getElem_mem hq)).1]
      · obtain ⟨q1, q2⟩ := hr'.own ho
        exact ⟨⟨q1.1, fun hk => q1.2 (sub _ hk)⟩, q2⟩
  · simp only [Hp.blks_alloc] at hc' hd
    split at hc' <;> split at hd
    · omega
    · rename_i hj hk
      rw [hj, hnew, ← hg k (hs.lt _ _ hd)] at he
      exact absurd he.symm (notp k d hd od)
    · rename_i hj hk
      rw [hk, hnew, ← hg j (hs.lt _ _ hc')] at he
      exact absurd he (notp j c hc' oc)
    · rw [← hg k (hs.lt _ _ hd), ← hg j (hs.lt _ _ hc')] at he
      exact hs.inj j k c d hc' hd oc od he

/-- Where a region stands: what came, what of it the text's walk has. -/
structure Inv (P : Program) (n : Nat) (ops : Array Oper) (pure : Marks) (Q : APost) (B : Bd) (w0 : World) (ρ0 : Rn) (h0 : Hp) (ds : List Deferred) (listed listedA : Array Bool) (pend : List Pd) (w1 w : World) (ρ : Rn) (h : Hp) (t : Tm) (a : Act) : Prop where
  sz : listedA.size = ops.size
  la : ∀ j, j < ops.size → (listedA.getD j true = false ↔ (listed.getD j true = false ∨ ∃ p ∈ pend, p.i = j))
  nd : (pend.map Pd.i).Nodup
  nr : (pend.map Pd.r).Nodup
  pd : ∀ p ∈ pend, ops[p.i]? = some p.o ∧ listed.getD p.i false = true ∧ isLate pure.l p.i = true ∧ (∃ ty, p.o.op = .alloc ty ∧ zeroOf P ty = some p.z) ∧ B.mine p.r ∧
    ∃ cs e fr, w1.heap[p.r]? = some (.cells cs e fr) ∧ cs.size = p.z.size + p.ex ∧ (∀ j, j < cs.size → ¬ (fr.1 ≤ j ∧ j < fr.2)) ∧ ∀ (j : Nat) (hj : j < p.z.size), cs[j]? = some p.z[j]
  b1 : BelowF B w0 w1
  sim : SimE (B.with pend) w1 ρ h w
  jm : E.can = false → h.jump = h0.jump
  tr : TR ρ n t h.next a.tmps
  df : a.defers = ds
  le : h0.next ≤ h.next
  go : Goes h0.next ρ0 ρ
  dl : DL P ops pure (unl ops listedA) (Q .normal) t h

theorem late_alloc {o : Oper} (h : lateOp P o = true) : ∃ ty z, o.op = .alloc ty ∧ zeroOf P ty = some z ∧ o.guard = none ∧ ∀ e ∈ o.after, Region.binds .any e = false := by
  obtain ⟨dst, op, ty, pos, after, guard⟩ := o
  simp only [lateOp, Bool.and_eq_true] at h
  obtain ⟨⟨h1, h2⟩, h3⟩ := h
  cases op <;> simp only [Bool.false_eq_true] at h1
  rename_i ty'
  cases hz : zeroOf P ty' with
  | none => simp [hz] at h1
  | some z =>
    refine ⟨ty', z, rfl, hz, by simpa using h2, fun e he => ?_⟩
    have := Array.all_eq_true'.1 h3 e he
    simpa using this

theorem late_step {all : Array Oper} {pure : Marks} {i : Nat} {o : Oper} {t : Tm} {h : Hp} {K : Tm → Hp → Prop} {ty : TypeId} {z : Array Value} (ho : o.op = .alloc ty) (hz : zeroOf P ty = some z) (hg : o.guard = none) (hst : stepD P all pure i o t h K) :
    K (upd t o.dst (.pointer (some ⟨h.next, 0, none⟩))) (h.alloc ⟨z, 1, true⟩) := by
  obtain ⟨dst, op, oty, pos, after, guard⟩ := o
  simp only at ho hg
  subst ho hg
  replace hst := stepD_astep hst
  have hw : wantedA all ⟨dst, .alloc ty, oty, pos, after, none⟩ t = true := rfl
  rw [hw] at hst
  have : OptK (aop P (.alloc ty) t h) fun v h' => K (upd t dst v) h' := hst
  simp only [aop, hz, OptK] at this
  exact this

theorem late_dst {ops : Array Oper} {pure : List Nat} (hsp : DrawSpec P ops pure) {i k : Nat} {oi ok : Oper} (hi : ops[i]? = some oi) (hk : ops[k]? = some ok) (li : isLate pure i = true) (lk : isLate pure k = true) (hne : i ≠ k) : ∀ d, oi.dst = some d → ok.dst ≠ some d := by
  intro d hd he
  rcases Nat.lt_or_ge i k with h | h
  · exact (Oper.apart_spec (hsp.ahead k ok i oi hk lk h hi).1).2.1 d hd he
  · exact (Oper.apart_spec (hsp.ahead i oi k ok hi li (by omega) hk).1).2.1 d he hd
theorem getD_self {a : Array Bool} {i : Nat} (h : i < a.size) : (a.setIfInBounds i true).getD i true = true := by
  simp [h]
theorem getD_tf {a : Array Bool} {i : Nat} (h : a.getD i false = true) : a.getD i true = true := by
  by_cases hi : i < a.size
  · simp [hi] at h ⊢; exact h
  · simp [hi]

theorem Inv.flush1 {ops : Array Oper} (hall : ∀ o ∈ ops, okOper n o = true) {pure : Marks} (hsp : DrawSpec P ops pure.l) {Q : APost} {B : Bd} {w0 w1 w : World} {ρ0 ρ : Rn} {h0 h : Hp} {ds : List Deferred} {listed listedA : Array Bool} {l1 l2 : List Pd} {p : Pd} {t : Tm} {a : Act}
    (iv : Inv P n ops pure Q B w0 ρ0 h0 ds listed listedA (l1 ++ p :: l2) w1 w ρ h t a)
    (hsw : ∀ y, y < p.i → listedA.getD y true = false → ∃ oy, ops[y]? = some oy ∧ swapOk P ops pure.l y p.i oy p.o = true) :
    ∃ ρ' h' t' a', Inv P n ops pure Q B w0 ρ0 h0 ds listed (listedA.setIfInBounds p.i true) (l1 ++ l2) w1 w ρ' h' t' a' ∧ puts a' (l1 ++ l2) = puts a (l1 ++ p :: l2) := by
  obtain ⟨hp, hlst, hlate, ⟨ty, hop, hz⟩, hm, cs, e, fr, hat, hsz, hfr, hc⟩ := iv.pd p (by simp)
  obtain ⟨_, _, hop', hz', hgd, _⟩ := late_alloc (hsp.late p.i p.o hp hlate)
  have hlt : p.i < ops.size := (Array.getElem?_eq_some_iff.1 hp).1
  have hun : listedA.getD p.i true = false := (iv.la p.i hlt).2 (.inr ⟨p, by simp, rfl⟩)
  have him : p.i ∈ unl ops listedA := List.mem_filter.2 ⟨List.mem_range.2 hlt, by rw [hun]; rfl⟩
  obtain ⟨L1, L2, hL⟩ := List.append_of_mem him
  have hnd : (unl ops listedA).Nodup := List.Nodup.sublist List.filter_sublist List.nodup_range
  have hsorted : (unl ops listedA).Pairwise (· < ·) := List.Pairwise.sublist List.filter_sublist List.pairwise_lt_range
  have hdl := iv.dl
  rw [hL] at hdl hsorted
  have hreal : Real n t h := ⟨_, _, ρ, w, iv.sim, iv.tr.top⟩
  have hpull := DL_pull hall hp L2 L1 (fun x hx => by
    have hxm : x ∈ unl ops listedA := by rw [hL]; simp [hx]
    obtain ⟨q1, q2⟩ := List.mem_filter.1 hxm
    exact hsw x ((List.pairwise_append.1 hsorted).2.2 x hx p.i (by simp)) (by simpa using q2)) hreal hdl
  have hdl' := late_step hop hz hgd hpull
  have hatw : w.heap[p.r]? = some (.cells cs e fr) := by rw [iv.sim.sim.below.block p.r (.inr (.inr ⟨p, by simp, rfl⟩))]; exact hat
  obtain ⟨_, _, _, _, _, hz0⟩ := zeroOf_spec hz
  have hndi := iv.nd
  have hndr := iv.nr
  rw [List.map_append, List.map_cons, List.nodup_append] at hndi hndr
  have hqi : ∀ q ∈ l1 ++ l2, q.i ≠ p.i := by
    intro q hq e
    rcases List.mem_append.1 hq with hq | hq
    · exact hndi.2.2 q.i (List.mem_map_of_mem hq) p.i (by simp) e
    · exact (List.nodup_cons.1 hndi.2.1).1 (by rw [← e]; exact List.mem_map_of_mem hq)
  have hqr : ∀ q ∈ l1 ++ l2, q.r ≠ p.r := by
    intro q hq e
    rcases List.mem_append.1 hq with hq | hq
    · exact hndr.2.2 q.r (List.mem_map_of_mem hq) p.r (by simp) e
    · exact (List.nodup_cons.1 hndr.2.1).1 (by rw [← e]; exact List.mem_map_of_mem hq)
  have hsub : ∀ q, q ∈ l1 ++ l2 → q ∈ l1 ++ p :: l2 := fun q hq => by
    rcases List.mem_append.1 hq with hq | hq <;> simp [hq]
  have hdst : ∀ q ∈ l1 ++ l2, ∀ k, p.o.dst = some k → q.o.dst ≠ some k := fun q hq => by
    obtain ⟨q1, _, q3, _⟩ := iv.pd q (hsub q hq)
    exact late_dst hsp hp q1 hlate q3 (fun e => hqi q hq e.symm)
  have sim0 := iv.sim.sim.adopt hqr hm hatw hsz hfr hc hz0
  have hg := Goes.new ρ h.next ⟨p.r, 0, p.ex⟩
  have sim' : SimE (B.with (l1 ++ l2)) w1 (ρ.new h.next ⟨p.r, 0, p.ex⟩) (h.alloc ⟨p.z, 1, true⟩) w := by
    refine ⟨sim0, E.mono iv.sim.env (fun i hi => hg i (Nat.lt_of_lt_of_le hi iv.sim.top)) fun _ _ => rfl, by have := iv.sim.top; simp; omega, fun k hk => ?_, fun i b hb ho hS => ?_⟩
    · obtain ⟨q1, q2, q3⟩ := iv.sim.sep k hk
      refine ⟨q1, q2, ?_⟩
      rintro (q | ⟨q, hq, e⟩)
      · exact q3 (.inl q)
      · exact q3 (.inr ⟨q, hsub q hq, e⟩)
    · simp only [Hp.blks_alloc] at hb
      split at hb
      · rename_i hi
        subst hi
        have : ((ρ.new h.next ⟨p.r, 0, p.ex⟩) h.next).blk = p.r := by simp [Rn.new]
        rw [this] at hS
        exact (iv.sim.sep p.r hS).2.2 (.inr ⟨p, by simp, rfl⟩)
      · have hl := iv.sim.sim.lt i b hb
        rw [← hg i hl] at hS
        exact iv.sim.own i b hb ho hS
  have hod : ∀ k, p.o.dst = some k → k < n := okDst_spec (by have := hall p.o (Array.mem_of_getElem? hp); simp [okOper] at this; exact this.2)
  have hrl : rl (ρ.new h.next ⟨p.r, 0, p.ex⟩) (.pointer (some ⟨h.next, 0, none⟩)) = p.ptr := by simp [rl, rlAddr, Rn.new, Pd.ptr]
  have tr' := (iv.tr.mono (nx' := (h.alloc ⟨p.z, 1, true⟩).next) hg (by simp)).put p.o.dst (v := .pointer (some ⟨h.next, 0, none⟩)) (by simp [vtop]) hod
  rw [hrl] at tr'
  refine ⟨_, _, _, _, ⟨by simp [iv.sz], fun j hj => ?_, ?_, ?_, fun q hq => iv.pd q (hsub q hq), iv.b1, sim', iv.jm, tr', by rw [put_put_defers]; exact iv.df, by have := iv.le; simp; omega, iv.go.trans iv.le hg, ?_⟩, ?_⟩
  · by_cases hjp : j = p.i
    · subst hjp
      rw [getD_self (by rw [iv.sz]; exact hlt)]
      constructor
      · intro h; cases h
      · rintro (h | ⟨q, hq, e⟩)
        · rw [getD_tf hlst] at h; exact h
        · exact absurd e (hqi q hq)
    · rw [getD_set_ne true (fun e => hjp e.symm), iv.la j hj]
      constructor
      · rintro (h | ⟨q, hq, e⟩)
        · exact .inl h
        · refine .inr ⟨q, ?_, e⟩
          rcases List.mem_append.1 hq with hq | hq
          · simp [hq]
          · rcases List.mem_cons.1 hq with rfl | hq
            · exact absurd e.symm hjp
            · simp [hq]
      · rintro (h | ⟨q, hq, e⟩)
        · exact .inl h
        · exact .inr ⟨q, hsub q hq, e⟩
  · rw [List.map_append, List.nodup_append]
    exact ⟨hndi.1, (List.nodup_cons.1 hndi.2.1).2, fun x hx y hy => hndi.2.2 x hx y (by simp only [List.mem_cons]; exact .inr hy)⟩
  · rw [List.map_append, List.nodup_append]
    exact ⟨hndr.1, (List.nodup_cons.1 hndr.2.1).2, fun x hx y hy => hndr.2.2 x hx y (by simp only [List.mem_cons]; exact .inr hy)⟩
  · rw [unl_set iv.sz, hL, filter_ne p.i L1 L2 (hL ▸ hnd)]
    exact hdl'
  · rw [puts_mid a p l1 l2 fun q hq => hdst q (by simp [hq]), puts_put a _ _ _ hdst]

theorem min_pd (l : List Pd) (J : Nat) (h : ∃ p ∈ l, p.i < J) : ∃ p ∈ l, p.i < J ∧ ∀ q ∈ l, q.i < J → p.i ≤ q.i := by
  obtain ⟨p, hp, hpJ⟩ := h
  generalize hm : p.i = m at hpJ
  induction m using Nat.strongRecOn generalizing p with
  | _ m ih =>
    by_cases hb : ∃ q ∈ l, q.i < m
    · obtain ⟨q, hq, hqm⟩ := hb
      exact ih q.i hqm q hq rfl (by omega)
    · exact ⟨p, hp, by omega, fun q hq _ => Nat.le_of_not_lt fun hlt => hb ⟨q, hq, by omega⟩⟩

theorem Inv.flush {ops : Array Oper} (hall : ∀ o ∈ ops, okOper n o = true) {pure : Marks} (hsp : DrawSpec P ops pure.l) {Q : APost} {B : Bd} {w0 w1 w : World} {ρ0 : Rn} {h0 : Hp} {ds : List Deferred} {listed : Array Bool} (J : Nat) : ∀ (k : Nat) {listedA : Array Bool} {pend : List Pd} {ρ : Rn} {h : Hp} {t : Tm} {a : Act}, pend.length = k →
    Inv P n ops pure Q B w0 ρ0 h0 ds listed listedA pend w1 w ρ h t a →
    (∀ p ∈ pend, p.i < J → ∀ y, y < p.i → listed.getD y true = false → ∃ oy, ops[y]? = some oy ∧ swapOk P ops pure.l y p.i oy p.o = true) →
    ∃ listedA' pend' ρ' h' t' a', Inv P n ops pure Q B w0 ρ0 h0 ds listed listedA' pend' w1 w ρ' h' t' a' ∧ puts a' pend' = puts a pend ∧ (∀ p ∈ pend', J ≤ p.i) := by
  intro k
  induction k with
  | zero =>
    intro listedA pend ρ h t a hk iv _
    have : pend = [] := List.eq_nil_of_length_eq_zero hk
    subst this
    exact ⟨_, _, _, _, _, _, iv, rfl, fun p hp => by cases hp⟩
  | succ k ih =>
    intro listedA pend ρ h t a hk iv hC
    by_cases hex : ∃ p ∈ pend, p.i < J
    · obtain ⟨p, hp, hpJ, hmin⟩ := min_pd pend J hex
      obtain ⟨l1, l2, rfl⟩ := List.append_of_mem hp
      have hlt : p.i < ops.size := (Array.getElem?_eq_some_iff.1 (iv.pd p hp).1).1
      obtain ⟨ρ', h', t', a', iv', ep⟩ := iv.flush1 hall hsp fun y hy hu => by
        rcases (iv.la y (by omega)).1 hu with hu | ⟨q, hq, e⟩
        · exact hC p hp hpJ y hy hu
        · have := hmin q hq (by omega)
          omega
      obtain ⟨lA, pe, ρ2, h2, t2, a2, iv2, ep2, hJ⟩ := ih (by simp at hk ⊢; omega) iv' fun q hq => hC q (by
        rcases List.mem_append.1 hq with hq | hq <;> simp [hq])
      exact ⟨lA, pe, ρ2, h2, t2, a2, iv2, ep2.trans ep, hJ⟩
    · exact ⟨_, _, _, _, _, _, iv, rfl, fun p hp => Nat.le_of_not_lt fun h => hex ⟨p, hp, h⟩⟩

theorem wp_puts {ro : Option Nat} {o : Oper} {a : Act} {l : List Pd} {w w1 : World} {B : Bd} {ρ : Rn} {h : Hp} {K : Value → Hp → Prop} {N : Act → World → Prop} {Q : Exit → Act → World → Prop} (hnd : ∀ c, o.op ≠ .defer c) (he : execOp (puts a l).eval o = execOp a.eval o) (hd : ∀ p ∈ l, ∀ k, o.dst = some k → p.o.dst ≠ some k)
    (hw : o.wpIn (WF ro) 0 P a w (Next1 B w1 ρ h a o.dst K) (fun _ _ _ => False)) (hn : ∀ a' w', Next1 B w1 ρ h a o.dst K a' w' → N (puts a' l) w') : o.wpIn (WF ro) 0 P (puts a l) w N Q := by
  refine ⟨fun _ _ => trivial, ?_⟩
  obtain ⟨_, hw⟩ := hw
  have hw : o.uponIn (WF ro) 0 P a (Next1 B w1 ρ h a o.dst K) (fun _ _ _ => False) ((o.semAt ro a.eval).run P w) := hw
  show o.uponIn (WF ro) 0 P (puts a l) N Q ((o.semAt ro (puts a l).eval).run P w)
  rw [Oper.semAt_eq ro _ o hnd] at hw ⊢
  rw [he]
  generalize (execOp a.eval o).run P w = r at hw ⊢
  have hv : ∀ v w', Next1 B w1 ρ h a o.dst K (a.put o.dst v) w' → N ((puts a l).put o.dst v) w' := fun v w' hq => by
    rw [puts_put a _ _ _ hd]
    exact hn _ _ hq
  cases r with
  | ok nx w' =>
    cases nx <;> simp only [Oper.uponIn] at hw ⊢
    case value u => exact hv _ _ hw
    case skip => exact hv _ _ hw
    case defer d =>
      obtain ⟨ρ', v, h', _, _, _, ea, _⟩ := hw
      have := congrArg Act.defers ea
      rw [put_put_defers, put_put_defers] at this
      have := congrArg List.length this
      simp at this
    case enter f args =>
      refine ⟨hw.1, hw.2.mono fun e w'' hq => ?_⟩
      cases e with
      | returned u => exact hv _ _ hq
      | panicked c => exact hq.elim
      | outgrown => obtain ⟨_, _, q⟩ := hq; exact q.elim
    case row row args => exact ⟨hw.1, hw.2.mono fun u w'' hq => hv _ _ hq⟩
    case round l' f tmps assign body =>
      refine ⟨hw.1, hw.2.mono fun e w'' hq => ?_⟩
      cases e with
      | returned u => exact hv _ _ hq
      | panicked c => exact hq.elim
      | outgrown => obtain ⟨_, _, q⟩ := hq; exact q.elim
  | halt x w' =>
    cases x <;> simp only [Oper.uponIn] at hw

theorem any_inv {ro : Option Nat} {ops : Array Oper} (hall : ∀ o ∈ ops, okOper n o = true) {pure : Marks} (hsp : DrawSpec P ops pure.l) (Q : APost) {B : Bd} {w0 : World} {ρ0 : Rn} {h0 : Hp} {ds : List Deferred} : ∀ (fuel : Nat) {listed listedA : Array Bool} {pend : List Pd} {w1 w : World} {ρ : Rn} {h : Hp} {t : Tm} {a : Act},
    listed.size = ops.size → Closed ops listed → (unl ops listed).length = fuel → Inv P n ops pure Q B w0 ρ0 h0 ds listed listedA pend w1 w ρ h t a → wpAnyIn (WF ro) 0 P .any ops (Post n B w0 ρ0 h0 ds Q) fuel listed (puts a pend) w := by
  have hd : ∀ o ∈ ops, okDst n o.dst = true := fun o ho => by have := hall o ho; simp [okOper] at this; exact this.2
  have hM : MaskInv ops (masks ops.toList []) := mask_inv ops ops.toList [] (by simp) (fun k o hk => by simp at hk)
  have hlenM : (masks ops.toList []).length = ops.size := by
    have : ∀ (l : List Oper) acc, (masks l acc).length = acc.length + l.length := by
      intro l; induction l with
      | nil => intro acc; simp [masks]
      | cons o l ih => intro acc; simp only [masks, ih, List.length_append, List.length_cons]; simp; omega
    rw [this]; simp
  intro fuel
  induction fuel with
  | zero =>
    intro listed listedA pend w1 w ρ h t a hsz hcl hlen iv
    have hnil : unl ops listed = [] := List.eq_nil_of_length_eq_zero hlen
    have hnone : ∀ j, j < ops.size → listed.getD j true = false → False := fun j hj hb => by
      have : j ∈ unl ops listed := List.mem_filter.2 ⟨List.mem_range.2 hj, by rw [hb]; rfl⟩
      rw [hnil] at this
      cases this
    refine ⟨?_, ?_⟩
    · apply List.eq_nil_iff_forall_not_mem.2
      intro i hi
      obtain ⟨h1, o, ho, _⟩ := mem_ready.1 hi
      exact hnone i (Array.getElem?_eq_some_iff.1 ho).1 h1
    · obtain ⟨lA, pe, ρ', h', t', a', iv', ep, hJ⟩ := iv.flush hall hsp ops.size _ rfl fun p hp _ y hy hu => (hnone y (by have := (Array.getElem?_eq_some_iff.1 (iv.pd p hp).1).1; omega) hu).elim
      have hpe : pe = [] := by
        apply List.eq_nil_iff_forall_not_mem.2
        intro p hp
        have := (Array.getElem?_eq_some_iff.1 (iv'.pd p hp).1).1
        have := hJ p hp
        omega
      subst hpe
      rw [← ep]
      have hnA : unl ops lA = [] := by
        apply List.eq_nil_iff_forall_not_mem.2
        intro j hj
        obtain ⟨q1, q2⟩ := List.mem_filter.1 hj
        rcases (iv'.la j (List.mem_range.1 q1)).1 (by simpa using q2) with q | ⟨p, hp, _⟩
        · exact hnone j (List.mem_range.1 q1) q
        · cases hp
      have hD := iv'.dl
      rw [hnA] at hD
      have hw : B.with [] = B := by cases B; simp [Bd.with]
      have q := iv'.sim
      rw [hw] at q
      exact Post.of hD (q.rebase iv'.b1) iv'.tr iv'.df iv'.le iv'.go iv'.jm
  | succ fuel ih =>
    intro listed listedA pend w1 w ρ h t a hsz hcl hlen iv
    have hnd : (unl ops listed).Nodup := List.Nodup.sublist List.filter_sublist List.nodup_range
    refine ⟨fun hre => ?_, fun i hi => ?_⟩
    · -- the first one that is not listed is ready
      exfalso
      cases hu : unl ops listed with
      | nil => rw [hu] at hlen; simp at hlen
      | cons i0 L =>
        have hi0 : i0 ∈ unl ops listed := by rw [hu]; simp
        obtain ⟨h1, h2⟩ := List.mem_filter.1 hi0
        have hlt : i0 < ops.size := List.mem_range.1 h1
        have hmin : ∀ j, j < i0 → listed.getD j false = true := by
          intro j hj
          cases hb : listed.getD j false with
          | true => rfl
          | false =>
            have hjs : j < listed.size := by omega
            have hb' : listed.getD j true = false := by simp [hjs] at hb ⊢; exact hb
            have hjm : j ∈ unl ops listed := List.mem_filter.2 ⟨List.mem_range.2 (by omega), by simp [hb']⟩
            have hsorted : (unl ops listed).Pairwise (· < ·) := List.Pairwise.sublist List.filter_sublist List.pairwise_lt_range
            rw [hu] at hjm hsorted
            rcases List.mem_cons.1 hjm with rfl | hjm
            · omega
            · have := (List.pairwise_cons.1 hsorted).1 j hjm; omega
        have : i0 ∈ Region.ready .any ops listed := mem_ready.2 ⟨by simpa using h2, ops[i0], by simp [hlt], fun e he hb => hmin e.on (hsp.edge i0 ops[i0] (by simp [hlt]) e he hb)⟩
        rw [hre] at this
        cases this
    · obtain ⟨h1, oi, hoi, hrd⟩ := mem_ready.1 hi
      have hlt : i < ops.size := (Array.getElem?_eq_some_iff.1 hoi).1
      have him : i ∈ unl ops listed := List.mem_filter.2 ⟨List.mem_range.2 hlt, by simp [h1]⟩
      obtain ⟨M1, M2, hML⟩ := List.append_of_mem him
      have hoki := hall oi (Array.mem_of_getElem? hoi)
      have hod : ∀ k, oi.dst = some k → k < n := okDst_spec (hd oi (Array.mem_of_getElem? hoi))
      have hunl : unl ops (listed.setIfInBounds i true) = M1 ++ M2 := by rw [unl_set hsz, hML, filter_ne i M1 M2 (hML ▸ hnd)]
      have hsz' : (listed.setIfInBounds i true).size = ops.size := by simp [hsz]
      have hcl' : Closed ops (listed.setIfInBounds i true) := by
        intro j o hj hl e he hb
        by_cases hij : i = j
        · subst hij
          rw [hoi] at hj; cases hj
          exact getD_set_true (hrd e he hb)
        · rw [getD_set_ne false hij] at hl
          exact getD_set_true (hcl j o hj hl e he hb)
      have hlen' : (unl ops (listed.setIfInBounds i true)).length = fuel := by
        rw [hunl]; rw [hML] at hlen; simp at hlen ⊢; omega
      have hself : (listed.setIfInBounds i true).getD i false = true := by simp [hsz, hlt]
      have hcame : ∀ x, ((masks ops.toList []).getD i 0).testBit x = true → listed.getD x true = false → False := fun x hx hu => by
        have := getD_tf (hM i oi (by rw [hlenM]; exact hlt) hoi x hx listed hcl hrd)
        rw [this] at hu; cases hu
      unfold wpOpIn
      simp only [hoi]
      cases hli : isLate pure.l i with
      | true =>
        obtain ⟨ty, z, hop, hz, hgd, _⟩ := late_alloc (hsp.late i oi hoi hli)
        have hwant : Region.wanted oi (yielded ops (puts a pend).tmps) = true := by unfold Region.wanted; rw [hgd]
        rw [if_pos hwant]
        have hexec : execOp (puts a pend).eval oi = execOp a.eval oi := execOp_congr oi (fun cs b e => by rw [hop] at e; cases e) (fun x hx => by rw [hop] at hx; simp [Op.operands] at hx)
        obtain ⟨ρ', w', nx, r1, r2, r3o, _, _, r6⟩ := aop_sound iv.sim.open_ iv.tr (by simp [okOper] at hoki; exact hoki.1) (show aop P oi.op t h = some (.pointer (some ⟨h.next, 0, none⟩), h.alloc ⟨z, 1, true⟩) by rw [hop]; simp [aop, hz])
        have c3 : SimE (B.with pend) w1 ρ' (h.alloc ⟨z, 1, true⟩) w' := iv.sim.close_ r3o rfl (by simp) r6
        have r3 := c3.sim
        have hnx : nx = .value (rl ρ' (.pointer (some ⟨h.next, 0, none⟩))) := by
          rcases r2 with r2 | ⟨_, r2⟩
          · exact r2
          · cases r2
        refine ⟨fun _ _ => trivial, ?_⟩
        show oi.uponIn (WF ro) 0 P _ _ _ ((oi.semAt ro (puts a pend).eval).run P w)
        rw [Oper.semAt_eq ro _ oi (fun c e => by rw [hop] at e; cases e), hexec, r1, hnx]
        obtain ⟨cs, e, fr, q⟩ := r3.real h.next _ (show (h.alloc ⟨z, 1, true⟩).blks h.next = some ⟨z, 1, true⟩ by simp [Hp.blks_alloc])
        obtain ⟨q1, q2, q3, q4⟩ := q.own rfl
        obtain ⟨_, _, _, _, _, hz0⟩ := zeroOf_spec hz
        have hptr : rl ρ' (.pointer (some ⟨h.next, 0, none⟩)) = Pd.ptr ⟨i, oi, z, (ρ' h.next).blk, (ρ' h.next).extra⟩ := by simp [rl, rlAddr, Pd.ptr, q2]
        show wpAnyIn (WF ro) 0 P .any ops _ fuel (listed.setIfInBounds i true) ((puts a pend).put oi.dst _) w'
        rw [hptr]
        have hrlt : (ρ' h.next).blk < w'.heap.size := (Array.getElem?_eq_some_iff.1 q.at_).1
        have hni : ∀ p ∈ pend, p.i ≠ i := fun p hp e => by
          have := getD_tf (iv.pd p hp).2.1
          rw [e, h1] at this; cases this
        refine ih (listedA := listedA) (pend := ⟨i, oi, z, (ρ' h.next).blk, (ρ' h.next).extra⟩ :: pend) (w1 := w') (ρ := ρ') (h := h) (t := t) (a := a) hsz' hcl' hlen' ⟨iv.sz, fun j hj => ?_, ?_, ?_, fun p hp => ?_, iv.b1.trans (r3.below.less (Nat.le_refl _) fun k hk => .inl hk), ?_, iv.jm, iv.tr.mono r6 (Nat.le_refl _), iv.df, iv.le, iv.go.trans iv.le r6, iv.dl⟩
        · by_cases hji : j = i
          · subst hji
            exact ⟨fun _ => .inr ⟨_, List.mem_cons_self, rfl⟩, fun _ => (iv.la j hj).2 (.inl h1)⟩
          · rw [getD_set_ne true (fun e => hji e.symm), iv.la j hj]
            constructor
            · rintro (q | ⟨p, hp, e⟩)
              · exact .inl q
              · exact .inr ⟨p, by simp [hp], e⟩
            · rintro (q | ⟨p, hp, e⟩)
              · exact .inl q
              · rcases List.mem_cons.1 hp with rfl | hp
                · exact absurd e.symm hji
                · exact .inr ⟨p, hp, e⟩
        · rw [List.map_cons, List.nodup_cons]
          refine ⟨fun hm => ?_, iv.nd⟩
          obtain ⟨p, hp, e⟩ := List.mem_map.1 hm
          exact hni p hp e
        · rw [List.map_cons, List.nodup_cons]
          refine ⟨fun hm => ?_, iv.nr⟩
          obtain ⟨p, hp, e⟩ := List.mem_map.1 hm
          exact q1.2 (.inr ⟨p, hp, e⟩)
        · rcases List.mem_cons.1 hp with rfl | hp
          · exact ⟨hoi, hself, hli, ⟨ty, hop, hz⟩, ⟨q1.1, fun hF => q1.2 (.inl hF)⟩, cs, e, fr, q.at_, by simpa using q3, q4, fun j hj => by
              have := q.cell j hj
              rw [q2, Nat.zero_add] at this
              rw [this, rl_id _ (hz0 _ (Array.getElem_mem hj)).1]⟩
          · obtain ⟨p1, p2, p3, p4, p5, cs', e', fr', p6, p7⟩ := iv.pd p hp
            exact ⟨p1, getD_set_true p2, p3, p4, p5, cs', e', fr', by rw [r3.below.block p.r (.inr (.inr ⟨p, hp, rfl⟩))]; exact p6, p7⟩
        · have sf : Sim (B.with pend) w1 ρ' h w' := r3.forget h iv.sim.sim.nx fun k b hb => by
            have hkl := iv.sim.sim.lt k b hb
            exact ⟨by rw [Hp.blks_alloc, if_neg (by omega)]; exact hb, hkl, fun v hv => (iv.sim.sim.wf k b hb v hv).1⟩
          refine ⟨?_, c3.env, iv.sim.top, fun k hk => ⟨(c3.sep k hk).1, (c3.sep k hk).2.1, ?_⟩, fun i b hi ho => c3.own i b (by rw [Hp.blks_alloc, if_neg (by have := iv.sim.sim.lt i b hi; omega)]; exact hi) ho⟩
          rotate_left
          · rintro (hF | ⟨p, hp, ep⟩)
            · exact (c3.sep k hk).2.2 (.inl hF)
            · rcases List.mem_cons.1 hp with rfl | hp
              · exact c3.own h.next ⟨z, 1, true⟩ (by simp [Hp.blks_alloc]) rfl (by have ep' : (ρ' h.next).blk = k := ep; rw [ep']; exact hk)
              · exact (c3.sep k hk).2.2 (.inr ⟨p, hp, ep⟩)
          refine ⟨sf.lt, sf.wf, fun k b hb => ?_, sf.inj, ⟨sf.base.1, ?_⟩, BelowF.refl _ _, sf.gl, sf.nx⟩
          · obtain ⟨cs', e', fr', s⟩ := sf.real k b hb
            refine ⟨cs', e', fr', s.at_, s.cell, fun ho => ?_, s.ro⟩
            obtain ⟨s1, s2⟩ := s.own ho
            refine ⟨⟨s1.1, ?_⟩, s2⟩
            rintro (hF | ⟨p, hp, ep⟩)
            · exact s1.2 (.inl hF)
            · rcases List.mem_cons.1 hp with rfl | hp
              · have hkl := iv.sim.sim.lt k b hb
                have := r3.inj h.next k ⟨z, 1, true⟩ b (by simp [Hp.blks_alloc]) (by rw [Hp.blks_alloc, if_neg (by omega)]; exact hb) rfl ho ep
                omega
              · exact s1.2 (.inr ⟨p, hp, ep⟩)
          · rintro k (hF | ⟨p, hp, ep⟩)
            · exact sf.base.2 k (.inl hF)
            · rcases List.mem_cons.1 hp with rfl | hp
              · rw [← ep]; exact hrlt
              · exact sf.base.2 k (.inr ⟨p, hp, ep⟩)
      | false =>
        obtain ⟨lA, pe, ρ', h', t', a', iv', ep, hJ⟩ := iv.flush hall hsp i _ rfl fun p hp hpi y hy hu => by
          obtain ⟨p1, _, p3, _⟩ := iv.pd p hp
          have hyl : y < ops.size := by omega
          obtain ⟨oy, hoy⟩ : ∃ oy, ops[y]? = some oy := ⟨ops[y], by simp [hyl]⟩
          refine ⟨oy, hoy, ?_⟩
          rcases (hsp.ahead p.i p.o y oy p1 p3 hy hoy).2 with q | q | q
          · exact (hcame y (hsp.behind y i hyl q (by omega) hlt hli) hu).elim
          · exact q
          · exact (hcame y (q i hpi hlt hli) hu).elim
        rw [← ep]
        have hni : ∀ p ∈ pe, p.i ≠ i := fun p hp e => by
          have := getD_tf (iv'.pd p hp).2.1
          rw [e, h1] at this; cases this
        have hap : ∀ p ∈ pe, oi.apart ops p.o = true := fun p hp => by
          obtain ⟨p1, _, p3, _⟩ := iv'.pd p hp
          exact (hsp.ahead p.i p.o i oi p1 p3 (by have := hJ p hp; have := hni p hp; omega) hoi).1
        have hlook : ∀ p ∈ pe, ∀ d, p.o.dst = some d → d ∉ oi.looksAt ops := fun p hp => (Oper.apart_spec (hap p hp)).2.2
        have hdst : ∀ p ∈ pe, ∀ k, oi.dst = some k → p.o.dst ≠ some k := fun p hp => (Oper.apart_spec (hap p hp)).2.1
        have hunA : lA.getD i true = false := (iv'.la i hlt).2 (.inl h1)
        have himA : i ∈ unl ops lA := List.mem_filter.2 ⟨List.mem_range.2 hlt, by rw [hunA]; rfl⟩
        obtain ⟨L1, L2, hL⟩ := List.append_of_mem himA
        have hndA : (unl ops lA).Nodup := List.Nodup.sublist List.filter_sublist List.nodup_range
        have hsorted : (unl ops lA).Pairwise (· < ·) := List.Pairwise.sublist List.filter_sublist List.pairwise_lt_range
        have hdl := iv'.dl
        rw [hL] at hdl hsorted
        have hreal : Real n t' h' := ⟨_, _, ρ', w, iv'.sim, iv'.tr.top⟩
        have hpull := DL_pull hall hoi L2 L1 (fun x hx => by
          have hxm : x ∈ unl ops lA := by rw [hL]; simp [hx]
          obtain ⟨q1, q2⟩ := List.mem_filter.1 hxm
          have hxl : x < ops.size := List.mem_range.1 q1
          have hxi : x < i := (List.pairwise_append.1 hsorted).2.2 x hx i (by simp)
          have hux : listed.getD x true = false := by
            rcases (iv'.la x hxl).1 (by simpa using q2) with q | ⟨p, hp, e⟩
            · exact q
            · have := hJ p hp; omega
          refine ⟨ops[x], by simp [hxl], ?_⟩
          rcases hsp.swap i oi x ops[x] hoi hli hxi (by simp [hxl]) with q | q
          · exact (hcame x q hux).elim
          · exact q.2) hreal hdl
        have hunlA : unl ops (lA.setIfInBounds i true) = L1 ++ L2 := by rw [unl_set iv'.sz, hL, filter_ne i L1 L2 (hL ▸ hndA)]
        have next : ∀ {w2 : World} {ρ2 : Rn} {h2 : Hp} {t2 : Tm} {a2 : Act}, SimE (B.with pe) w1 ρ2 h2 w2 → TR ρ2 n t2 h2.next a2.tmps → a2.defers = ds → h'.next ≤ h2.next → Goes h'.next ρ' ρ2 → (E.can = false → h2.jump = h'.jump) → DL P ops pure (L1 ++ L2) (Q .normal) t2 h2 →
            wpAnyIn (WF ro) 0 P .any ops (Post n B w0 ρ0 h0 ds Q) fuel (listed.setIfInBounds i true) (puts a2 pe) w2 := by
          intro w2 ρ2 h2 t2 a2 s1 s2 s3 s4 s5 s5j s6
          refine ih (listedA := lA.setIfInBounds i true) hsz' hcl' hlen' ⟨by simp [iv'.sz], fun j hj => ?_, iv'.nd, iv'.nr, fun p hp => ?_, iv'.b1, s1, fun hc => (s5j hc).trans (iv'.jm hc), s2, s3, by have := iv'.le; omega, iv'.go.trans iv'.le s5, by rw [hunlA]; exact s6⟩
          · by_cases hji : j = i
            · subst hji
              rw [getD_self (by rw [iv'.sz]; exact hlt), getD_self (by rw [hsz]; exact hlt)]
              constructor
              · intro q; cases q
              · rintro (q | ⟨p, hp, e⟩)
                · exact q
                · exact absurd e (hni p hp)
            · rw [getD_set_ne true (fun e => hji e.symm), getD_set_ne true (fun e => hji e.symm), iv'.la j hj]
          · obtain ⟨p1, p2, p3⟩ := iv'.pd p hp
            exact ⟨p1, getD_set_true p2, p3⟩
        rw [puts_wanted oi a' pe hlook, wanted_eq iv'.tr hd]
        replace hpull := stepD_astep hpull
        cases hw : wantedA ops oi t' with
        | true =>
          rw [hw] at hpull
          simp only [if_true]
          have hns : ∀ cs b, oi.op ≠ .select cs b := fun cs b e => by
            rw [GuardK_true, e] at hpull
            exact hpull.elim
          have hnd : ∀ c, oi.op ≠ .defer c := fun c e => by
            rw [GuardK_true, e] at hpull
            exact hpull.elim
          refine wp_puts hnd (puts_exec oi hns a' pe hlook) hdst (astep_sound (iv'.sim) iv'.tr hoki hpull) ?_
          rintro a2 w2 ⟨ρ2, v, h2, k1, k2, k3, rfl, k4, k5, k6⟩
          exact next k2 ((iv'.tr.mono k5 k4).put oi.dst k3 hod) (by rw [put_put_defers]; exact iv'.df) k4 k5 k6 k1
        | false =>
          rw [hw] at hpull
          simp only [Bool.false_eq_true, if_false]
          have ht' := iv'.tr.put oi.dst (v := undef) (by simp [vtop_undef]) hod
          rw [rl_undef] at ht'
          rw [puts_put a' _ _ _ hdst]
          exact ⟨fun _ _ => trivial, next iv'.sim ht' (by rw [put_put_defers]; exact iv'.df) (Nat.le_refl _) (Goes.refl _ _) (fun _ => rfl) hpull⟩

theorem any_sound {ro : Option Nat} {ops : Array Oper} (hall : ∀ o ∈ ops, okOper n o = true) {pure : Marks} (hdraw : drawOk P ops pure.l = true) (Q : APost) {B : Bd} {w0 : World} {ρ0 : Rn} {h0 : Hp} {ds : List Deferred} (fuel : Nat) {listed : Array Bool} {w : World} {ρ : Rn} {h : Hp} {t : Tm} {a : Act}
    (hsz : listed.size = ops.size) (hcl : Closed ops listed) (hlen : (unl ops listed).length = fuel) (hs : SimE B w0 ρ h w) (ht : TR ρ n t h.next a.tmps) (hds : a.defers = ds) (hn : h0.next ≤ h.next) (hg : Goes h0.next ρ0 ρ) (hj : E.can = false → h.jump = h0.jump)
    (hD : DL P ops pure (unl ops listed) (Q .normal) t h) : wpAnyIn (WF ro) 0 P .any ops (Post n B w0 ρ0 h0 ds Q) fuel listed a w := by
  have no : ∀ k, ¬ (∃ p ∈ ([] : List Pd), p.r = k) := fun k ⟨p, hp, _⟩ => by cases hp
  have hw : B.with [] = B := by cases B; simp [Bd.with]
  have hs' : SimE (B.with []) w0 ρ h w := by rw [hw]; exact hs
  refine any_inv hall (drawOk_spec hdraw) Q fuel (listedA := listed) (pend := []) (w1 := w0) hsz hcl hlen ⟨hsz, fun j hj => ?_, by simp, by simp, (fun p hp => by cases hp), BelowF.refl _ _, hs', hj, ht, hds, hn, hg, hD⟩
  constructor
  · exact .inl
  · rintro (q | ⟨p, hp, _⟩)
    · exact q
    · cases hp

theorem aopsD_DL {ops : Array Oper} {pure : Marks} {K : Tm → Hp → Prop} (l : List Oper) : ∀ k t h, (∀ j, l[j]? = ops[k + j]?) → aopsD P ops pure k l K t h = DL P ops pure (List.range' k l.length) K t h := by
  induction l with
  | nil => intro k t h _; rfl
  | cons o l ih =>
    intro k t h hl
    have h0 : ops[k]? = some o := by simpa using (hl 0).symm
    simp only [aopsD, List.length_cons, List.range'_succ, DL, h0]
    congr 1
    funext t' h'
    exact ih (k + 1) t' h' fun j => by have := hl (j + 1); simp only [List.getElem?_cons_succ] at this; rw [this]; congr 1; omega

end
end Go.Mini
