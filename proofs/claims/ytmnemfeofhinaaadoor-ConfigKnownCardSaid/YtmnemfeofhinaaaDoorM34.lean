/-
  A small region that draws its order, told by all of its orders; a slice that comes in at a name above the program's variables.
-/
import Derived.Test.YtmnemfeofhinaaaDoorM33
set_option linter.unusedSimpArgs false
set_option linter.unusedVariables false
set_option linter.unusedSectionVars false
namespace Go.Mini
open Go

section
variable {P : Program} {n : Nat} [E : REnv]
def noCall : Op → Bool
  | .call _ => false
  | .defer _ => false
  | _ => true
def extsOk (n : Nat) (ops : Array Oper) : Nat → Array Bool → Bool
  | 0, l => (Region.ready .any ops l).isEmpty
  | f + 1, l => !(Region.ready .any ops l).isEmpty && (Region.ready .any ops l).all fun i => (match ops[i]? with | some o => okOper n o && noCall o.op | none => false) && extsOk n ops f (l.setIfInBounds i true)
/-- The operations in an order of one's own. -/
def aopsI (P : Program) (all : Array Oper) : List Nat → (Tm → Hp → Prop) → Tm → Hp → Prop
  | [], K, t, h => K t h
  | i :: r, K, t, h => match all[i]? with
    | some o => GuardK (wantedA all o t) (astep P o.op t h fun v h' => aopsI P all r K (upd t o.dst v) h') (aopsI P all r K (upd t o.dst undef) h)
    | none => False
def exts (ops : Array Oper) : Nat → Array Bool → List (List Nat)
  | 0, _ => [[]]
  | f + 1, l => (Region.ready .any ops l).flatMap fun i => (exts ops f (l.setIfInBounds i true)).map (i :: ·)
theorem exts_ne {ops : Array Oper} : ∀ (f : Nat) (l : Array Bool), extsOk n ops f l = true → ∃ L, L ∈ exts ops f l
  | 0, _, _ => ⟨[], by simp [exts]⟩
  | f + 1, l, h => by
    simp only [extsOk, Bool.and_eq_true, Bool.not_eq_true', List.all_eq_true] at h
    obtain ⟨h1, h2⟩ := h
    cases hr : Region.ready .any ops l with
    | nil => rw [hr] at h1; simp at h1
    | cons i r =>
      obtain ⟨h3, h4⟩ := h2 i (by rw [hr]; simp)
      obtain ⟨L, hL⟩ := exts_ne f _ h4
      refine ⟨i :: L, ?_⟩
      unfold exts
      rw [hr, List.flatMap_cons]
      exact List.mem_append_left _ (List.mem_map.2 ⟨L, hL, rfl⟩)
theorem aops_all {all : Array Oper} {LL : List (List Nat)} {L0 : List Nat} (h0 : L0 ∈ LL) {i : Nat} {o : Oper} (hi : all[i]? = some o) (hn : noCall o.op = true) {K : Tm → Hp → Prop} {t : Tm} {h : Hp} (H : ∀ L ∈ LL, aopsI P all (i :: L) K t h) :
    GuardK (wantedA all o t) (astep P o.op t h fun v h' => ∀ L ∈ LL, aopsI P all L K (upd t o.dst v) h') (∀ L ∈ LL, aopsI P all L K (upd t o.dst undef) h) := by
  have e : ∀ K', astep P o.op t h K' = OptK (aopE P o.op t h) K' := fun K' => astep_eq (fun c hc => by rw [hc] at hn; cases hn)
  simp only [aopsI, hi] at H
  cases hw : wantedA all o t with
  | false => rw [hw] at H; exact H
  | true =>
    rw [hw] at H
    simp only [GuardK_true, e] at H ⊢
    cases hr : aopE P o.op t h with
    | none => rw [hr] at H; exact (H L0 h0).elim
    | some p =>
      obtain ⟨v, h'⟩ := p
      rw [hr] at H
      exact fun L hL => H L hL
theorem any_orders {ro : Option Nat} {ops : Array Oper} (hall : ∀ o ∈ ops, okOper n o = true) (Q : APost) {B : Bd} {w0 : World} {ρ0 : Rn} {h0 : Hp} {ds : List Deferred} : ∀ (f : Nat) {listed : Array Bool} {w : World} {ρ : Rn} {h : Hp} {t : Tm} {a : Act},
    extsOk n ops f listed = true → SimE B w0 ρ h w → TR ρ n t h.next a.tmps → a.defers = ds → h0.next ≤ h.next → Goes h0.next ρ0 ρ → (E.can = false → h.jump = h0.jump) → (∀ L ∈ exts ops f listed, aopsI P ops L (Q .normal) t h) → wpAnyIn (WF ro) 0 P .any ops (Post n B w0 ρ0 h0 ds Q) f listed a w := by
  have hd : ∀ o ∈ ops, okDst n o.dst = true := fun o ho => by have := hall o ho; simp [okOper] at this; exact this.2
  intro f
  induction f with
  | zero =>
    intro listed w ρ h t a hx hs ht hds hn hg hj H
    exact ⟨by simpa [extsOk] using hx, Post.of (H [] (by simp [exts])) hs ht hds hn hg hj⟩
  | succ f ih =>
    intro listed w ρ h t a hx hs ht hds hn hg hj H
    simp only [extsOk, Bool.and_eq_true, Bool.not_eq_true', List.all_eq_true] at hx
    obtain ⟨hx1, hx2⟩ := hx
    refine ⟨fun hre => by rw [hre] at hx1; simp at hx1, fun i hi => ?_⟩
    obtain ⟨h3, h4⟩ := hx2 i hi
    cases ho : ops[i]? with
    | none => rw [ho] at h3; cases h3
    | some o =>
      rw [ho] at h3
      simp only [Bool.and_eq_true] at h3
      obtain ⟨hok, hnc⟩ := h3
      have hod : ∀ k, o.dst = some k → k < n := okDst_spec (by simp [okOper] at hok; exact hok.2)
      have hde : ∀ u, (a.put o.dst u).defers = ds := fun u => by rw [← hds]; unfold Act.put; split <;> rfl
      obtain ⟨L0, hL0⟩ := exts_ne f _ h4
      have H' : ∀ L ∈ exts ops f (listed.setIfInBounds i true), aopsI P ops (i :: L) (Q .normal) t h := fun L hL => H _ (by
        unfold exts
        exact List.mem_flatMap.2 ⟨i, hi, List.mem_map.2 ⟨L, hL, rfl⟩⟩)
      have st := aops_all hL0 ho hnc H'
      unfold wpOpIn
      simp only [ho]
      rw [wanted_eq ht hd]
      cases hw : wantedA ops o t with
      | true =>
        rw [hw] at st
        simp only [GuardK_true] at st
        simp only [if_true]
        refine Oper.wpIn_mono (fun a2 w2 hq => ?_) (astep_sound hs ht hok st)
        obtain ⟨ρ2, v, h2, k1, k2, k3, rfl, k4, k5, k6⟩ := hq
        exact ih h4 k2 ((ht.mono k5 k4).put o.dst k3 hod) (hde _) (by omega) (hg.trans hn k5) (fun hc => (k6 hc).trans (hj hc)) k1
      | false =>
        rw [hw] at st
        simp only [GuardK_false] at st
        simp only [Bool.false_eq_true, if_false]
        have ht' := ht.put o.dst (v := undef) (by simp [vtop_undef]) hod
        rw [rl_undef] at ht'
        exact ⟨fun _ _ => trivial, ih h4 hs ht' (hde _) hn hg hj st⟩
def aopsIF (P : Program) (all : Array Oper) (l : List Nat) (K : Tm → Hp → Prop) (t : Tm) (h : Hp) (_ : Tag (all, l, K, t, h)) : Prop := aopsI P all l K t h
def stepI (P : Program) (all : Array Oper) (o : Option Oper) (l : List Nat) (K : Tm → Hp → Prop) (t : Tm) (h : Hp) (_ : Tag (all, l, K, t, h)) : Prop := match o with
  | some o => GuardK (wantedA all o t) (astep P o.op t h fun v h' => aopsI P all l K (upd t o.dst v) h') (aopsI P all l K (upd t o.dst undef) h)
  | none => False
@[simp] theorem aopsIF_nil (all : Array Oper) (K : Tm → Hp → Prop) (t : Tm) (h : Hp) (u : Tag (all, ([] : List Nat), K, t, h)) : aopsIF P all [] K t h u = K t h := _root_.id rfl
@[simp] theorem aopsIF_cons (all : List Oper) (i : Nat) (l : List Nat) (K : Tm → Hp → Prop) (t : Tm) (h : Hp) (u : Tag (all.toArray, i :: l, K, t, h)) : aopsIF P all.toArray (i :: l) K t h u = stepI P all.toArray all[i]? l K t h (.mk _) := by
  show aopsI P all.toArray (i :: l) K t h = _
  rw [aopsI, List.getElem?_toArray]
  rfl
@[simp] theorem stepI_some (all : Array Oper) (d : Option Tmp) (op : Op) (ty : TypeId) (pos : String) (af : Array Edge) (l : List Nat) (K : Tm → Hp → Prop) (t : Tm) (h : Hp) (u : Tag (all, l, K, t, h)) :
    stepI P all (some ⟨d, op, ty, pos, af, none⟩) l K t h u = astepF P op t h (fun v h' => aopsIF P all l K (upd t d v) h' (.mk _)) (.mk _) := _root_.id rfl
/-- A region that draws: each of its orders serves. -/
theorem awp_orders (hm : P.follows .mixedOrders = true) {id : Nat} {ops : Array Oper} {Q : APost} {t : Tm} {h : Hp} (LS : List (List Nat)) (hok : (ops.all (okOper n) && extsOk n ops ops.size (Array.replicate ops.size false)) = true) (hLS : exts ops ops.size (Array.replicate ops.size false) = LS)
    (H : ∀ L ∈ LS, aopsIF P ops L (fun t h => apQ Q .normal t h (.mk _)) t h (.mk _)) : Awp P n (.region id ops true) Q t h := by
  intro ro hr B w0 ρ w a hs ht
  simp only [Bool.and_eq_true] at hok
  refine wpIn_region_any hm ?_
  exact any_orders (fun o ho => Array.all_eq_true'.1 hok.1 o ho) Q ops.size hok.2 hs.drew ht rfl (Nat.le_refl _) (Goes.refl _ _) (fun _ => rfl) (by rw [hLS]; exact H)
@[simp] theorem apQ_exitQ (Q : APost) (j : Option Code) (e : Exit) (t : Tm) (h : Hp) (u : Tag (exitQ Q j, t, h)) : apQ (exitQ Q j) e t h u = apQ Q e t { h with jump := j } (.mk _) := _root_.id rfl
end

section
variable {P : Program} {mt kt et : TypeId}
theorem PairMap.askNew (hp : PairMap P mt kt et) (k : Int × Int) (c : Nat) : ∀ (l : List (Int × Int)) (i j : Nat), k ∉ l → ∃ m, pureRun P (Instr.findAsking kt (pairV k) (entK i l ++ [MapEntry.mk (pairV k) (.int .i64 0) c]) j) = some (some (m, .int .i64 0))
  | [], i, j, _ => by
    refine ⟨j, ?_⟩
    rw [entK, List.nil_append, Instr.findAsking, pureRun_bind, hp.eql]
    simp
  | x :: l, i, j, hn => by
    obtain ⟨m, h1⟩ := hp.askNew k c l (i + 1) (j + 1) fun h => hn (by simp [h])
    refine ⟨m, ?_⟩
    have hx : ¬ k = x := fun e => hn (by simp [e])
    rw [entK, List.cons_append, Instr.findAsking, pureRun_bind, hp.eql]
    simp only [Option.bind_some, decide_eq_false hx, Bool.false_eq_true, if_false]
    exact h1
variable [E : REnv]
/-- What has just been entered is looked up as if it were not there yet. -/
theorem PairMap.lookNew (hp : PairMap P mt kt et) {r : Nat} {h : Hp} {l : List (Int × Int)} {a b : Int} {c ck : Nat} (hN : E.mapN = some r) (hj : h.jump = some (encE (entK 0 l ++ [MapEntry.mk (pairV (a, b)) (.int .i64 0) c]) ck)) (hn : (a, b) ∉ l) :
    lookE P mt (.map (some r)) (.agg #[.int .u8 a, .int .u8 b]) h = some (.int .i64 0, h) := by
  obtain ⟨m, h1⟩ := hp.askNew (a, b) c l 0 0 hn
  have h2 : pureRun P (Instr.findKey kt (pairV (a, b)) (entK 0 l ++ [MapEntry.mk (pairV (a, b)) (.int .i64 0) c])) = some (some (m, .int .i64 0)) := by
    have hk := hp.key
    unfold Instr.findKey
    rw [pureRun_bind, pure_und0]
    cases hu : P.underlying kt with
    | none => rw [hu] at hk; cases hk
    | some d =>
      rw [hu] at hk
      cases d <;> simp at hk
      simp only [Option.bind_some]
      cases l with
      | nil => exact h1
      | cons x l => exact h1
  have hl : pureRun P (lookM mt (entK 0 l ++ [MapEntry.mk (pairV (a, b)) (.int .i64 0) c]) (pairV (a, b))) = some (.int .i64 0) := by
    unfold lookM
    rw [pureRun_bind, pure_und0, hp.und]
    simp only [Option.bind_some]
    rw [pureRun_bind, hp.chk]
    simp only [Option.bind_some]
    rw [pureRun_bind, h2]
    rfl
  unfold lookE
  rw [asMap_of hN hj]
  have hk : okV (.agg #[.int .u8 a, .int .u8 b]) = some (pairV (a, b)) := rfl
  simp only [Option.bind_some, hk, hl]
  rfl
end
end Go.Mini
