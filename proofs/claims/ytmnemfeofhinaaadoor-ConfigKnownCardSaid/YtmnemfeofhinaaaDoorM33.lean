/-
  A map that a function makes for itself: kept apart, its contents told beside the heap.
-/
import Derived.Test.YtmnemfeofhinaaaDoorM32
import Derived.Test.YtmnemfeofhinaaaDoorM27
import Derived.Test.YtmnemfeofhinaaaDoorM20
set_option linter.unusedSimpArgs false
set_option linter.unusedVariables false
set_option linter.unusedSectionVars false
namespace Go.Mini
open Go

section
variable {P : Program} {n : Nat}
/-- Where the map is kept. -/
abbrev mapEnv (N : Nat) (ρ0 : Rn) (R : Nat) : REnv where
  N := N + 1
  S := fun k => k = R
  can := true
  Γ := fun j ρ w => Goes N ρ0 ρ ∧ (ρ N).blk = R ∧ ∃ es ck, j = some (encE es ck) ∧ w.heap[R]? = some (.map es.toArray ck)
  mono := fun ⟨h1, h2, es, ck, h3, h4⟩ hg hw => ⟨fun i hi => (h1 i hi).trans (hg i (by omega)), by rw [← hg N (by omega)]; exact h2, es, ck, h3, by rw [hw _ rfl]; exact h4⟩
  mapN := some N
  mapC := fun _ => rfl
  mapG := fun hN ⟨h1, h2, es, ck, h3, h4⟩ => by cases hN; exact ⟨h2, es, ck, h3, by rw [h2]; exact h4⟩
  mapS := fun es ck hN ⟨h1, h2, es0, ck0, h3, h4⟩ => by cases hN; exact ⟨h1, h2, es, ck, rfl, by rw [h2]; exact World.putObj_heap_same (Array.getElem?_eq_some_iff.1 h4).1⟩

/-- Behind the map's time. -/
def exitQ (Q : APost) (j : Option Code) : APost := fun e t h => Q e t { h with jump := j }

theorem awp_makeMap {id : Nat} {d d' : Tmp} {mt ty ty' : TypeId} {pos pos' : String} {af af' : Array Edge} {rest : Code} {Q : APost} {t : Tm} {h : Hp} (hd : d < n) (hd' : d' < n)
    (H : ∀ E1 : REnv, E1.can = true → E1.mapN = some h.next → @Awp E1 P n rest (exitQ Q h.jump) (upd (upd t (some d) (.map (some h.next))) (some d') (.map (some h.next))) ⟨h.next + 1, h.blks, some (encE [] 0)⟩) :
    Awp P n (.seq (.region id #[⟨some d, .makeMap mt none, ty, pos, af, none⟩, ⟨some d', .assign (.tmp d), ty', pos', af', none⟩] false) rest) Q t h := by
  intro ro hro B w0 ρ w a hs ht
  obtain ⟨R, hR⟩ : ∃ R, R = w.heap.size := ⟨_, rfl⟩
  obtain ⟨W, hW⟩ : ∃ W, W = w.alloc (.map #[] 0) := ⟨_, rfl⟩
  have Wsz : W.heap.size = w.heap.size + 1 := by rw [hW]; simp
  have Wold : ∀ k, k < w.heap.size → W.heap[k]? = w.heap[k]? := fun k hk => by rw [hW, RowKit.Below.heap_alloc _ _ _ hk]
  have WR : W.heap[R]? = some (.map #[] 0) := by rw [hW, hR]; exact World.alloc_heap_new w _
  have Wb : BelowF B w W := ⟨by rw [hW]; rfl, by rw [hW]; rfl, by rw [hW]; rfl, by omega, fun k hk => Wold k (by rcases hk with hk | hk; have := hs.sim.base.1; omega; exact hs.sim.base.2 k hk)⟩
  have hgn := Goes.new ρ h.next ⟨R, 0, 0⟩
  have hsW : Sim B w0 (ρ.new h.next ⟨R, 0, 0⟩) ⟨h.next + 1, h.blks, some (encE [] 0)⟩ W := by
    refine ⟨fun i b hi => ?_, fun i b hi v hv => ?_, fun i b hi => ?_, fun i j b c hi hj ob oc e => ?_, ⟨?_, fun k hk => ?_⟩, hs.sim.below.trans Wb, fun q hq => ?_, ?_⟩
    · have := hs.sim.lt i b hi
      show i < h.next + 1
      omega
    · obtain ⟨q1, q2⟩ := hs.sim.wf i b hi v hv
      exact ⟨by show vtop v ≤ h.next + 1; omega, q2⟩
    · obtain ⟨cs, e, fr, q⟩ := hs.sim.real i b hi
      have hl := hs.sim.lt i b hi
      have hbl := (Array.getElem?_eq_some_iff.1 q.at_).1
      refine ⟨cs, e, fr, ?_, fun j hj => ?_, fun ho => ?_, fun ho => ?_⟩
      · rw [← hgn i hl, Wold _ hbl]; exact q.at_
      · rw [← hgn i hl, q.cell j hj, hgn.rl (hs.sim.wf i b hi _ (Array.getElem_mem hj)).1]
      · rw [← hgn i hl]; exact q.own ho
      · rw [← hgn i hl]; exact q.ro ho
    · rw [← hgn i (hs.sim.lt i b hi), ← hgn j (hs.sim.lt j c hj)] at e
      exact hs.sim.inj i j b c hi hj ob oc e
    · have := hs.sim.base.1; omega
    · have := hs.sim.base.2 k hk; omega
    · rw [← hgn (100 + q) (by have := hs.sim.nx; omega)]; exact hs.sim.gl q hq
    · have := hs.sim.nx; show 150 ≤ h.next + 1; omega
  have hse : @SimE (mapEnv h.next ρ R) B w0 (ρ.new h.next ⟨R, 0, 0⟩) ⟨h.next + 1, h.blks, some (encE [] 0)⟩ W := by
    refine @SimE.mk (mapEnv h.next ρ R) _ _ _ _ _ hsW ⟨hgn, by simp [Rn.new], [], 0, rfl, WR⟩ (Nat.le_refl _) (fun k hk => ?_) (fun i b hi ho hk => ?_)
    · have hk : k = R := hk
      rw [hk]
      exact ⟨by omega, by have := hs.sim.base.1; omega, fun hk => by have := hs.sim.base.2 R hk; omega⟩
    · have hl := hs.sim.lt i b hi
      have hbl := hs.sim.named_lt i b hi
      have hk' : ((ρ.new h.next ⟨R, 0, 0⟩) i).blk = R := hk
      rw [← hgn i hl] at hk'
      omega
  have hmv : rl (ρ.new h.next ⟨R, 0, 0⟩) (.map (some h.next)) = .map (some R) := by simp [rl, Rn.new]
  have hvt : vtop (.map (some h.next)) ≤ h.next + 1 := by simp [vtop]
  have ht1 : TR (ρ.new h.next ⟨R, 0, 0⟩) n t (h.next + 1) a.tmps := ht.mono hgn (by omega)
  have ht2 := (ht1.put (some d) hvt fun k hk => by cases hk; exact hd).put (some d') hvt fun k hk => by cases hk; exact hd'
  rw [hmv] at ht2
  have hop1 : (execOp a.eval ⟨some d, .makeMap mt none, ty, pos, af, none⟩).run P w = .ok (.value (.map (some R))) W := by
    simp [execOp, Instr.makeMap, newObj, Sem.run, hR, hW]
  have hget : (a.put (some d) (.map (some R))).eval (.tmp d) = .map (some R) := by
    have hdn : d < a.tmps.size := by rw [ht.size]; exact hd
    simp [Act.put, Act.eval, hdn]
  have hop2 : (execOp (a.put (some d) (.map (some R))).eval ⟨some d', .assign (.tmp d), ty', pos', af', none⟩).run P W = .ok (.value (.map (some R))) W := by
    simp [execOp, hget]
  refine wpIn_seq (wpIn_region_list ?_)
  have fin : (rest.wpIn (WF ro) 0 P (Post n B w0 ρ h a.defers Q) ((a.put (some d) (.map (some R))).put (some d') (.map (some R))) W) := by
    refine wpIn_mono (H (mapEnv h.next ρ R) rfl rfl ro (fun q => hro (by simp [hasRange, q])) B w0 _ W _ hse ht2) ?_
    rintro e a2 w2 ⟨ρ2, t2, h2, w3, Ds, q, hs2, ht3, hd2, hn2, hg2, hm2, _⟩
    have hn2 : h.next + 1 ≤ h2.next := hn2
    refine ⟨ρ2, t2, { h2 with jump := h.jump }, w3, Ds, q, SimE.plain ((@SimE.sim (mapEnv h.next ρ R) _ _ _ _ _ hs2).jmp _), ht3, ?_, by show h.next ≤ h2.next; omega, hgn.trans (Nat.le_succ _) hg2, hm2, fun _ => rfl⟩
    rw [hd2]
    unfold Act.put
    rfl
  unfold wpListIn
  rw [if_pos (by rfl)]
  refine ⟨fun _ _ => trivial, ?_⟩
  show Oper.uponIn (WF ro) 0 P _ a _ _ ((Oper.semAt ro a.eval _).run P w)
  rw [Oper.semAt_eq ro _ _ (fun c e => by cases e), hop1]
  show wpListIn (WF ro) 0 P _ _ _ _ _
  unfold wpListIn
  rw [if_pos (by rfl)]
  refine ⟨fun _ _ => trivial, ?_⟩
  show Oper.uponIn (WF ro) 0 P _ _ _ _ ((Oper.semAt ro _ _).run P W)
  rw [Oper.semAt_eq ro _ _ (fun c e => by cases e), hop2]
  exact fin
end

/-! ### The operations, as rules -/
section
variable [E : REnv] {P : Program} (t : Tm) (h : Hp) (K : Value → Hp → Prop)
def lookE (P : Program) (mt : TypeId) (x k : Value) (h : Hp) : Option (Value × Hp) := (asMap x h).bind fun p => (okV k).bind fun k => (pureRun P (lookM mt p.1 k)).bind fun v => (okV v).map fun v => (v, h)
def entE (P : Program) (mt : TypeId) (x k : Value) (h : Hp) : Option (Value × Hp) := (asMap x h).bind fun p => (okV k).bind fun k => (pureRun P (entM mt p.1 p.2 k)).bind fun q => (okV q.1).map fun v => (v, { h with jump := some (encE q.2.1 q.2.2) })
def stE (P : Program) (x s v : Value) (h : Hp) : Option (Value × Hp) := (asMap x h).bind fun p => (okV s).bind fun s => (okV v).bind fun v => (pureRun P (stM p.1 s v)).map fun q => (undef, { h with jump := some (encE q p.2) })
@[simp] theorem astep_lookup (mt : TypeId) (x k : Operand) (u : Tag ((.lookup mt x k false : Op), t, h, K)) : astepF P (.lookup mt x k false) t h K u = OptF (lookE P mt (evF t x (.mk _)) (evF t k (.mk _)) h) K (.mk K) := _root_.id rfl
@[simp] theorem astep_mapEntry (mt : TypeId) (x k : Operand) (u : Tag ((.mapEntry mt x k : Op), t, h, K)) : astepF P (.mapEntry mt x k) t h K u = OptF (entE P mt (evF t x (.mk _)) (evF t k (.mk _)) h) K (.mk K) := _root_.id rfl
@[simp] theorem astep_entryStore (mt : TypeId) (x s v : Operand) (u : Tag ((.entryStore mt x s v : Op), t, h, K)) : astepF P (.entryStore mt x s v) t h K u = OptF (stE P (evF t x (.mk _)) (evF t s (.mk _)) (evF t v (.mk _)) h) K (.mk K) := _root_.id rfl
theorem asMap_of {r : Nat} {h : Hp} {es : List MapEntry} {ck : Nat} (hN : E.mapN = some r) (hj : h.jump = some (encE es ck)) : asMap (.map (some r)) h = some (es, ck) := by
  unfold asMap
  rw [hN, hj]
  simp only [if_true, Option.bind_some, dec_enc]
end

/-! ### Maps whose keys are pairs of bytes, of numbers -/
def pairV (k : Int × Int) : Value := .agg #[.int .u8 k.1, .int .u8 k.2]
structure PairMap (P : Program) (mt kt et : TypeId) : Prop where
  und : P.underlying mt = some (.map kt et)
  key : (match P.underlying kt with | some (.struct _) => true | _ => false) = true
  chk : ∀ (e : Bool) (k : Int × Int), pureRun P (Instr.checkKey e 10000 kt (pairV k)) = some ()
  eql : ∀ k k' : Int × Int, pureRun P (Op.equal kt (pairV k) (pairV k')) = some (decide (k = k'))
  zer : pureRun P (zeroValue et) = some (.int .i64 0)
/-- Each key once, with one. -/
def entK : Nat → List (Int × Int) → List MapEntry
  | _, [] => []
  | i, k :: l => ⟨pairV k, .int .i64 1, i⟩ :: entK (i + 1) l
theorem entK_length : ∀ (l : List (Int × Int)) (i : Nat), (entK i l).length = l.length
  | [], _ => rfl
  | _ :: l, i => by rw [entK, List.length_cons, entK_length l, List.length_cons]
theorem entK_append : ∀ (l l' : List (Int × Int)) (i : Nat), entK i (l ++ l') = entK i l ++ entK (i + l.length) l'
  | [], _, _ => rfl
  | k :: l, l', i => by
    rw [List.cons_append, entK, entK, entK_append l l' (i + 1), List.cons_append, List.length_cons]
    congr 3; omega
section
variable {P : Program} {mt kt et : TypeId}
theorem PairMap.asking (hp : PairMap P mt kt et) (k : Int × Int) : ∀ (l : List (Int × Int)) (i j : Nat), ∃ o, pureRun P (Instr.findAsking kt (pairV k) (entK i l) j) = some o ∧ (k ∈ l → ∃ m, o = some (m, .int .i64 1)) ∧ (k ∉ l → o = none)
  | [], i, j => ⟨none, rfl, (fun h => absurd h (by simp)), fun _ => rfl⟩
  | x :: l, i, j => by
    obtain ⟨o, h1, h2, h3⟩ := hp.asking k l (i + 1) (j + 1)
    by_cases hx : k = x
    · refine ⟨some (j, .int .i64 1), ?_, fun _ => ⟨_, rfl⟩, fun hn => absurd (by simp [hx]) hn⟩
      rw [entK, Instr.findAsking, pureRun_bind, hp.eql]
      simp [hx]
    · refine ⟨o, ?_, fun hm => h2 (by simpa [hx] using hm), fun hn => h3 fun hm => hn (by simp [hm])⟩
      rw [entK, Instr.findAsking, pureRun_bind, hp.eql]
      simp only [Option.bind_some, decide_eq_false hx, Bool.false_eq_true, if_false]
      exact h1
theorem PairMap.find (hp : PairMap P mt kt et) (k : Int × Int) (l : List (Int × Int)) : ∃ o, pureRun P (Instr.findKey kt (pairV k) (entK 0 l)) = some o ∧ (k ∈ l → ∃ m, o = some (m, .int .i64 1)) ∧ (k ∉ l → o = none) := by
  obtain ⟨o, h1, h2, h3⟩ := hp.asking k l 0 0
  refine ⟨o, ?_, h2, h3⟩
  have hk := hp.key
  unfold Instr.findKey
  rw [pureRun_bind, pure_und0]
  cases hu : P.underlying kt with
  | none => rw [hu] at hk; cases hk
  | some d =>
    rw [hu] at hk
    cases d <;> simp at hk
    simp only [Option.bind_some]
    cases l with
    | nil => rw [h3 (by simp)]; rfl
    | cons x l => exact h1
variable [E : REnv]
theorem PairMap.look (hp : PairMap P mt kt et) {r : Nat} {h : Hp} {l : List (Int × Int)} {a b : Int} (hN : E.mapN = some r) (hj : h.jump = some (encE (entK 0 l) l.length)) :
    lookE P mt (.map (some r)) (.agg #[.int .u8 a, .int .u8 b]) h = some (.int .i64 (if (a, b) ∈ l then 1 else 0), h) := by
  obtain ⟨o, h1, h2, h3⟩ := hp.find (a, b) l
  have hl : pureRun P (lookM mt (entK 0 l) (pairV (a, b))) = some (.int .i64 (if (a, b) ∈ l then 1 else 0)) := by
    unfold lookM
    rw [pureRun_bind, pure_und0, hp.und]
    simp only [Option.bind_some]
    rw [pureRun_bind, hp.chk]
    simp only [Option.bind_some]
    rw [pureRun_bind, h1]
    simp only [Option.bind_some]
    by_cases hm : (a, b) ∈ l
    · obtain ⟨m, rfl⟩ := h2 hm
      simp [hm]
    · rw [h3 hm, if_neg hm]
      exact hp.zer
  unfold lookE
  rw [asMap_of hN hj]
  have hk : okV (.agg #[.int .u8 a, .int .u8 b]) = some (pairV (a, b)) := rfl
  simp only [Option.bind_some, hk, hl]
  rfl
theorem PairMap.ent (hp : PairMap P mt kt et) {r : Nat} {h : Hp} {l : List (Int × Int)} {a b : Int} (hN : E.mapN = some r) (hj : h.jump = some (encE (entK 0 l) l.length)) (hn : (a, b) ∉ l) :
    entE P mt (.map (some r)) (.agg #[.int .u8 a, .int .u8 b]) h = some (.tuple #[.int .i64 0, .int .i64 l.length], { h with jump := some (encE (entK 0 l ++ [MapEntry.mk (pairV (a, b)) (.int .i64 0) l.length]) (l.length + 1)) }) := by
  obtain ⟨o, h1, _, h3⟩ := hp.find (a, b) l
  have hl : pureRun P (entM mt (entK 0 l) l.length (pairV (a, b))) = some (.tuple #[.int .i64 0, .int .i64 l.length], entK 0 l ++ [MapEntry.mk (pairV (a, b)) (.int .i64 0) l.length], l.length + 1) := by
    unfold entM
    rw [pureRun_bind, pure_und0, hp.und]
    simp only [Option.bind_some]
    rw [pureRun_bind, hp.chk]
    simp only [Option.bind_some]
    rw [pureRun_bind, h1]
    simp only [Option.bind_some]
    rw [h3 hn]
    simp only
    rw [pureRun_bind, hp.zer]
    rfl
  unfold entE
  rw [asMap_of hN hj]
  have hk : okV (.agg #[.int .u8 a, .int .u8 b]) = some (pairV (a, b)) := rfl
  simp only [Option.bind_some, hk, hl]
  rfl
theorem entK_born : ∀ (l : List (Int × Int)) (i N : Nat), i + l.length ≤ N → ((entK i l).findIdx? fun e => (e.born : Int) == (N : Int)) = none
  | [], _, _, _ => rfl
  | k :: l, i, N, h => by
    rw [List.length_cons] at h
    rw [entK, List.findIdx?_cons, if_neg (by simp; omega), entK_born l (i + 1) N (by omega)]
    rfl
theorem PairMap.st {r : Nat} {h : Hp} {l : List (Int × Int)} {ck : Nat} {k : Int × Int} (hN : E.mapN = some r) (hj : h.jump = some (encE (entK 0 l ++ [MapEntry.mk (pairV k) (.int .i64 0) l.length]) ck)) :
    stE P (.map (some r)) (.int .i64 l.length) (.int .i64 1) h = some (undef, { h with jump := some (encE (entK 0 (l ++ [k])) ck) }) := by
  have hf : (entK 0 l ++ [MapEntry.mk (pairV k) (.int .i64 0) l.length]).toArray.findIdx? (fun e => (e.born : Int) == (l.length : Int)) = some l.length := by
    rw [List.findIdx?_toArray, List.findIdx?_append, entK_born l 0 l.length (by omega)]
    simp [entK_length]
  have hm : ((entK 0 l ++ [MapEntry.mk (pairV k) (.int .i64 0) l.length]).toArray.modify l.length fun e => { e with val := .int .i64 1 }).toList = entK 0 (l ++ [k]) := by
    rw [entK_append, Nat.zero_add]
    apply List.ext_getElem?
    intro j
    rw [Array.getElem?_toList, Array.getElem?_modify]
    by_cases hj : l.length = j
    · subst hj
      rw [if_pos rfl, List.getElem?_toArray, List.getElem?_append_right (by rw [entK_length]; omega), List.getElem?_append_right (by rw [entK_length]; omega), entK_length]
      simp [entK]
    · rw [if_neg hj, List.getElem?_toArray]
      by_cases hlt : j < l.length
      · rw [List.getElem?_append_left (by rw [entK_length]; exact hlt), List.getElem?_append_left (by rw [entK_length]; exact hlt)]
      · rw [List.getElem?_eq_none (by simp [entK_length]; omega), List.getElem?_eq_none (by simp [entK_length, entK]; omega)]
  have hl : pureRun P (stM (entK 0 l ++ [MapEntry.mk (pairV k) (.int .i64 0) l.length]) (.int .i64 l.length) (.int .i64 1)) = some (entK 0 (l ++ [k])) := by
    unfold stM
    rw [pureRun_bind]
    show ((some (l.length : Int)).bind fun a => _) = _
    simp only [Option.bind_some, hf, hm]
    rfl
  unfold stE
  rw [asMap_of hN hj]
  have hk1 : okV (Value.int .i64 (l.length : Int)) = some (.int .i64 l.length) := rfl
  have hk2 : okV (Value.int .i64 1) = some (.int .i64 1) := rfl
  simp only [Option.bind_some, hk1, hk2, hl]
  rfl
end
end Go.Mini
