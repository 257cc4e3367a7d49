/-
  BlkSame.
-/
import Derived.Test.YtkbiadobkheafaaX9
set_option linter.unusedSimpArgs false
set_option linter.unusedVariables false
set_option linter.unusedSectionVars false
namespace Go.Proofs.Ytkbiadobkheafaa
open Go Go.Mini Go.Proofs.Try
set_option maxRecDepth 100000

theorem zeroOf_r0 : zeroOf prog 51 = some (refC r0) := by rw [zeroOf_51]; rfl
theorem r0_one : oneAll (refC r0).toList = true := by rfl
theorem r0_ok : r0.ok := ⟨by show 0 < 4294967296; omega, by show 0 < 4294967296; omega, by show 0 < 18446744073709551616; omega, by show 0 < 4; omega, by show 0 < 4294967296; omega, by show 0 < 4294967296; omega, by show 0 < 18446744073709551616; omega, by show 0 < 4294967296; omega, by show 0 < 4294967296; omega, fun _ => .inl rfl⟩
theorem rel0 : Rel dev0 r0 (fun _ => 0) [] := ⟨rfl, rfl, rfl, rfl, rfl, fun q => by have : (0 : Nat) = 1 := q; omega, fun n hn => by
  show bytesM (fun _ => 0) (n * 64) 64 = if ([] : List UInt8) = [] then List.replicate 64 0 else []
  rw [if_pos rfl]
  apply List.ext_getElem?
  intro i
  rcases Nat.lt_or_ge i 64 with hi | hi
  · rw [bytesM_at _ _ _ _ hi, List.getElem?_replicate, if_pos hi]; rfl
  · rw [List.getElem?_eq_none (by rw [bytesM_length]; omega), List.getElem?_eq_none (by simp; omega)], fun i _ => rfl⟩
def Nm.ge (x : Nm) (n : Nat) : Prop := n ≤ x.p ∧ n ≤ x.pm ∧ n ≤ x.b ∧ n ≤ x.q ∧ n ≤ x.mr
def Nm.lt (x : Nm) (n : Nat) : Prop := x.p < n ∧ x.pm < n ∧ x.b < n ∧ x.q < n ∧ x.mr < n
def Nm.own (x : Nm) (i : Nat) : Prop := i = x.p ∨ i = x.pm ∨ i = x.b ∨ i = x.q ∨ i = x.mr
/-- All that there is but one's own. -/
def oth (x : Nm) (n : Nat) (i : Nat) : Prop := i < n ∧ ¬ x.own i
theorem mk_pr {h0 G H1 h1 H2 h3 : Hp} {p pm b q mr : Nat} (e0 : Ext h0 G) (hH1 : H1 = G.alloc ⟨devC dev0, 1, true⟩) (hp : p = G.next) (e1 : Ext H1 h1) (k1 : H1.next ≤ pm) (k2 : H1.next ≤ b) (r1 : Rm.Ram h1 pm b 4096 4096 (fun _ => 0) 0 0) (hH2 : H2 = h1.alloc ⟨refC r0, 1, true⟩) (hq : q = h1.next) (e3 : Ext H2 h3) (k3 : H2.next ≤ mr) (rf : Rm.Rf H2.next h3 mr 4096 (.slice none 0 0) [] 0 0) :
    PrM h0 (fun _ => False) h3 ⟨p, pm, b, q, mr⟩ dev0 r0 (fun _ => 0) 0 0 (.slice none 0 0) [] 0 0 ∧ Ext G h3 ∧ Nm.ge ⟨p, pm, b, q, mr⟩ G.next ∧ Nm.lt ⟨p, pm, b, q, mr⟩ h3.next := by
  subst hH1 hH2 hp hq
  have l0 := e0.le
  have l1 := e1.le
  have l3 := e3.le
  simp only [Hp.next_alloc] at k1 k2 l1 l3 k3
  have b0 : h1.blks G.next = some ⟨devC dev0, 1, true⟩ := by rw [e1.same _ (by simp)]; exact blks_alloc_eq _ _
  have bq : h3.blks h1.next = some ⟨refC r0, 1, true⟩ := by rw [e3.same _ (by simp)]; exact blks_alloc_eq _ _
  have e13 : Ext h1 h3 := (Ext.alloc _ _).trans e3
  have m1 : Dm h1 G.next dev0 pm b 4096 4096 (fun _ => 0) 0 0 := ⟨b0, dev0_ok, by omega, r1, by omega, by omega⟩
  have m3 : Dm h3 G.next dev0 pm b 4096 4096 (fun _ => 0) 0 0 := m1.fr (Fr.of_ext e13 fun _ => False) id id id
  have eG : Ext G h3 := ((Ext.alloc _ _).trans e1).trans e13
  have lpm := r1.plt
  have lb := r1.blt
  have lr := rf.rlt
  exact ⟨⟨⟨m3, e0.trans eG, by simp only; omega, by simp only; omega, by simp only; omega⟩, bq, r0_ok, ⟨rf.blk, Row.nil _ _ _, rf.rlt, by simp only; omega, by omega, rf.vr, rf.N1, rf.a1, rf.w0, rf.ok, rf.uq⟩, by simp only; omega, by simp only; omega, by simp only; omega, by simp only; omega, by simp only; omega, by simp only; omega, by simp only; omega, by simp only; omega, by simp only; omega, by simp [sblk], by simp [sblk], by simp [sblk], by simp [sblk], fun _ z => z.elim, fun _ z => z.elim⟩, eG, ⟨by simp only; omega, by simp only; omega, by simp only; omega, by simp only; omega, by simp only; omega⟩, ⟨by simp only; omega, by simp only; omega, by simp only; omega, by simp only; omega, by simp only; omega⟩⟩
theorem PrM.retag {h0 : Hp} {T : Nat → Prop} {h : Hp} {x : Nm} {d : Dev} {r : Rd} {M : Nat → Nat} {a : Nat} {w : Int} {L : Rm.By} {a' : Nat} {w' : Int} (P : PrM h0 T h x d r M a w (.slice none 0 0) L a' w') : PrM h0 (oth x h.next) h x d r M a w (.slice none 0 0) L a' w' :=
  ⟨P.ow, P.rb, P.rok, P.rf, P.q0, P.qlt, P.qp, P.qm, P.qb, P.qr, P.mp, P.mm, P.mb, P.vq, P.vp, P.vm, P.vb, fun i t => t.1, fun i t => ⟨fun e => t.2 (.inl e), fun e => t.2 (.inr (.inl e)), fun e => t.2 (.inr (.inr (.inl e))), fun e => t.2 (.inr (.inr (.inr (.inl e)))), fun e => t.2 (.inr (.inr (.inr (.inr e)))), by simp [sblk]⟩⟩
theorem PrM.frame0 {h0 : Hp} {T S : Nat → Prop} {h h' : Hp} {x : Nm} {d : Dev} {r : Rd} {M : Nat → Nat} {a : Nat} {w : Int} {L : Rm.By} {a' : Nat} {w' : Int} (P : PrM h0 T h x d r M a w (.slice none 0 0) L a' w') (f : Fr h h' S) (hS : ∀ i, S i → h0.next ≤ i) (hx : ∀ i, x.own i → ¬ S i) : PrM h0 (oth x h'.next) h' x d r M a w (.slice none 0 0) L a' w' :=
  PrM.retag (T := fun _ => False) ⟨P.ow.fr (P.ow.dm.fr f (hx _ (.inl rfl)) (hx _ (.inr (.inl rfl))) (hx _ (.inr (.inr (.inl rfl))))) f hS, by rw [f.same _ P.qlt (hx _ (.inr (.inr (.inr (.inl rfl)))))]; exact P.rb, P.rok, Rf_fr P.rf f (hx _ (.inr (.inr (.inr (.inr rfl))))) (fun i hi => by simp [sblk] at hi), P.q0, Nat.lt_of_lt_of_le P.qlt f.le, P.qp, P.qm, P.qb, P.qr, P.mp, P.mm, P.mb, P.vq, P.vp, P.vm, P.vb, fun _ z => z.elim, fun _ z => z.elim⟩
theorem FT.at_ {x : Nm} {n : Nat} {h h' : Hp} (f : FT (oth x n) h h') {i : Nat} (hi : i < h.next) (hn : i < n) (ho : ¬ x.own i) : h'.blks i = h.blks i := f.same i hi fun z => z ⟨hn, ho⟩
theorem own_lt {x : Nm} {n i : Nat} (h : x.lt n) (hi : n ≤ i) : ¬ x.own i := fun z => by
  obtain ⟨h1, h2, h3, h4, h5⟩ := h
  rcases z with z | z | z | z | z <;> omega
theorem own_ge {x : Nm} {n i : Nat} (h : x.ge n) (hi : i < n) : ¬ x.own i := fun z => by
  obtain ⟨h1, h2, h3, h4, h5⟩ := h
  rcases z with z | z | z | z | z <;> omega
def tbS : Nat → Marks := fun k => if k = 15 then ⟨[4, 6, 8, 13, 16, 1000000], fun _ => True⟩ else ⟨[], fun _ => True⟩
@[simp] theorem tbS_15 : (tbS 15).l = [4, 6, 8, 13, 16, 1000000] := rfl
@[simp] theorem tbS_8 : (tbS 8).l = [] := rfl
@[simp] theorem tbS_13 : (tbS 13).l = [] := rfl
abbrev pairC (x : Nm) : Array Value := #[ptr x.p, ptr x.pm, ptr x.q, ptr x.mr]

theorem rfNew_one {h : Hp} {K : Value → Hp → Prop} (hK : ∀ h' r, Ext h h' → h.next ≤ r → Rm.Rf h.next h' r 4096 (.slice none 0 0) [] 0 0 → K (ptr r) h') : ACall prog 20 [.int .i64 1] h K := Rm.rfNew_call (n := 1) (by omega) fun h' r e1 e2 e3 => hK h' r e1 e2 e3
set_option maxHeartbeats 4000000 in
theorem blkSame_call {h : Hp} {K : Value → Hp → Prop} {l l' : List Act} {v v' : Value} (hok : ∀ e ∈ l, e.ok) (hl : l.length < 9223372036854775808) (hv : Sl h 4 l.length (actsC l) v) (hok' : ∀ e ∈ l', e.ok) (hl' : l'.length < 9223372036854775808) (hv' : Sl h 4 l'.length (actsC l') v') (hK : ∀ h', (∀ i, i < h.next → h'.blks i = h.blks i) → K (.bool true) h') : ACall prog 5 [v, v'] h K := by
  refine acallF_of tbS func5 rfl rfl mixed (by kernel_rfl) fun hwf => ?_
  have hvb := sblk_lt (hwf.args v (by simp))
  have hvb' := sblk_lt (hwf.args v' (by simp))
  obtain ⟨va, vc, rfl⟩ := hv.slice
  obtain ⟨va', vc', rfl⟩ := hv'.slice
  obtain ⟨n, hn⟩ : ∃ n, n = l.length := ⟨_, rfl⟩
  obtain ⟨n', hn'⟩ : ∃ n, n = l'.length := ⟨_, rfl⟩
  rw [← hn, ← hn'] at hwf ⊢
  rw [← hn] at hvb
  rw [← hn'] at hvb'
  simp -dsimp (disch := omega)
  refine new_call ?_
  simp -dsimp (disch := omega)
  obtain ⟨H1, hH1⟩ : ∃ H, H = h.alloc ⟨devC dev0, 1, true⟩ := ⟨_, rfl⟩
  rw [← hH1]
  refine ramNew_one fun h1 pm b e1 k1 k2 r1 => ?_
  obtain ⟨H2, hH2⟩ : ∃ H, H = h1.alloc ⟨refC r0, 1, true⟩ := ⟨_, rfl⟩
  obtain ⟨q, hq⟩ : ∃ q, q = h1.next := ⟨_, rfl⟩
  simp -dsimp (disch := omega) [zeroOf_r0, r0_one, -zeroOf_51, ← hH2, ← hq]
  refine rfNew_one fun h3 mr e3 k3 rf => ?_
  obtain ⟨P1, x1, g1, t1⟩ := mk_pr (Ext.refl h) hH1 rfl e1 k1 k2 r1 hH2 hq e3 k3 rf
  clear hH1 e1 k1 k2 r1 hH2 e3 k3 rf
  obtain ⟨X, hX⟩ : ∃ X : Nm, X = ⟨h.next, pm, b, q, mr⟩ := ⟨_, rfl⟩
  rw [← hX] at P1 g1 t1
  obtain ⟨G, hG⟩ : ∃ G, G = h3.alloc ⟨pairC X, 1, true⟩ := ⟨_, rfl⟩
  have hG' : G = h3.alloc ⟨#[ptr h.next, ptr pm, ptr q, ptr mr], 1, true⟩ := by rw [hG, hX]
  have eG : Ext h3 G := by rw [hG]; exact Ext.alloc _ _
  have bG : G.blks h3.next = some ⟨pairC X, 1, true⟩ := by rw [hG]; exact blks_alloc_eq _ _
  have nG : G.next = h3.next + 1 := by rw [hG]; rfl
  obtain ⟨V, hV⟩ : ∃ V, V = h3.next := ⟨_, rfl⟩
  simp -dsimp (disch := omega) [← hG', ← hV]
  rw [← hV] at bG nG t1
  clear hG hG'
  refine new_call ?_
  simp -dsimp (disch := omega)
  obtain ⟨J1, hJ1⟩ : ∃ H, H = G.alloc ⟨devC dev0, 1, true⟩ := ⟨_, rfl⟩
  rw [← hJ1]
  refine ramNew_one fun j1 pm' b' e1 k1 k2 r1 => ?_
  obtain ⟨J2, hJ2⟩ : ∃ H, H = j1.alloc ⟨refC r0, 1, true⟩ := ⟨_, rfl⟩
  obtain ⟨q', hq'⟩ : ∃ q, q = j1.next := ⟨_, rfl⟩
  simp -dsimp (disch := omega) [zeroOf_r0, r0_one, -zeroOf_51, ← hJ2, ← hq']
  refine rfNew_one fun j3 mr' e3 k3 rf => ?_
  obtain ⟨P2, x2, g2, t2⟩ := mk_pr (x1.trans eG) hJ1 rfl e1 k1 k2 r1 hJ2 hq' e3 k3 rf
  clear hJ1 e1 k1 k2 r1 hJ2 e3 k3 rf
  obtain ⟨X', hX'⟩ : ∃ X : Nm, X = ⟨G.next, pm', b', q', mr'⟩ := ⟨_, rfl⟩
  rw [← hX'] at P2 g2 t2
  obtain ⟨J, hJ⟩ : ∃ G, G = j3.alloc ⟨pairC X', 1, true⟩ := ⟨_, rfl⟩
  have hJ' : J = j3.alloc ⟨#[ptr G.next, ptr pm', ptr q', ptr mr'], 1, true⟩ := by rw [hJ, hX']
  have eJ : Ext j3 J := by rw [hJ]; exact Ext.alloc _ _
  have bJ : J.blks j3.next = some ⟨pairC X', 1, true⟩ := by rw [hJ]; exact blks_alloc_eq _ _
  have nJ : J.next = j3.next + 1 := by rw [hJ]; rfl
  obtain ⟨V', hV'⟩ : ∃ V, V = j3.next := ⟨_, rfl⟩
  have le2 := x2.le
  simp -dsimp (disch := omega) [← hJ', ← hV']
  rw [← hV'] at bJ nJ t2
  clear hJ hJ'
  have eh : Ext h J := ((x1.trans eG).trans x2).trans eJ
  have P1 := (P1.ext (eG.trans (x2.trans eJ))).1.retag
  have P2 := (P2.ext eJ).1
  have bV : J.blks V = some ⟨pairC X, 1, true⟩ := ((x2.trans eJ).same V (by omega)).trans bG
  have hVV : V < V' := by omega
  have hVJ : V' < J.next := by omega
  clear bG
  by_cases big : 40 < n
  · have big' : (40 : Int) < n := by omega
    simp -dsimp (disch := omega) [big, big']
    refine works_call fun h2 e2 => ?_
    simp -dsimp (disch := omega)
    exact RetF.all (r := .bool true) (by simp) (hK _ (eh.trans e2).same)
  have big' : ¬ (40 : Int) < n := by omega
  by_cases bag : 40 < n'
  · have bag' : (40 : Int) < n' := by omega
    simp -dsimp (disch := omega) [big, big', bag, bag']
    refine works_call fun h2 e2 => ?_
    simp -dsimp (disch := omega)
    exact RetF.all (r := .bool true) (by simp) (hK _ (eh.trans e2).same)
  have bag' : ¬ (40 : Int) < n' := by omega
  simp -dsimp (disch := omega) [big, big', bag, bag']
  clear hq hX hX' hq' x1 eG x2 eJ
  refine awp_loop (fun t h' => ∃ (k : Nat) (d : Dev) (r : Rd), k ≤ n ∧ Pr h (oth X J.next) h' X d r ∧ FT (oth X J.next) J h' ∧ t 0 = .slice va n vc ∧ t 1 = .slice va' n' vc' ∧ t 5 = ptr V ∧ t 6 = ptr V' ∧ t 7 = .int .i64 k) (fun t _ => n - ivN (t 7)) ?_ ?_
  · simp -dsimp (disch := omega)
    exact ⟨0, by omega, ⟨_, _, P1.pr rel0⟩, FT.refl _ _, rfl⟩
  · clear P1
    rintro t h' ⟨k, d, r, hk, ⟨M, a, w, vv, L, a', w', P, E⟩, F, g0, g1', g5, g6, g7⟩
    refine vcF_sound mixed (tb := tbS) _ (by kernel_rfl) ?_
    have le := F.le
    rcases Nat.lt_or_ge k n with c | c
    · have hkl : k < l.length := hn ▸ c
      obtain ⟨e, hx⟩ : ∃ e, l[k]? = some e := ⟨l[k], List.getElem?_eq_getElem hkl⟩
      have hvm := hv.mono (h' := h') fun b hb => P.ow.ext.same b (hvb b (by rw [hn]; exact hb))
      obtain ⟨a', c', b', q1, f1, s1, x1, y1⟩ := sl_el (f := actC) (n := 4) actC_len hvm hx
      cases q1
      have he := hok e (List.mem_of_getElem? hx)
      obtain ⟨ew, ex, ev, en⟩ := e
      have x1' : b'.cells.extract (a'.off + k * 4) (a'.off + k * 4 + 4) = #[.int .u8 ew, .int .u64 ex, .int .u64 ev, .int .i64 en] := x1
      clear x1 y1
      have bV1 := (F.at_ (i := V) (by omega) (by omega) (own_lt t1 (Nat.le_refl _))).trans bV
      have c1 : (k : Int) < n := by omega
      simp -dsimp (disch := omega) [g0, g1', g5, g6, g7, c, c1, f1, s1, x1', bV1]
      refine one_call (e := ⟨ew, ex, ev, en⟩) P E he fun h2 d2 r2 P2 F2 => ?_
      simp -dsimp (disch := omega) [g0, g1', g5, g6, g7]
      exact ⟨⟨k + 1, by omega, ⟨d2, r2, P2⟩, F.trans' F2, by simp⟩, by simp [ivN]; omega⟩
    · have c1 : ¬ (k : Int) < n := by omega
      simp -dsimp (disch := omega) [g0, g1', g5, g6, g7, c, c1]
      clear c c1 hk g7
      have hXn : J.next ≤ h'.next := F.le
      have P2 := P2.frame0 (h' := h') F (fun i z => by
        rcases Nat.lt_or_ge i J.next with c | c
        · have : X.own i := Classical.byContradiction fun o => z ⟨c, o⟩
          obtain ⟨y1, y2, y3, y4, y5⟩ := g1
          rcases this with e | e | e | e | e <;> omega
        · exact Nat.le_trans eh.le c) (fun i o z => z ⟨by
          obtain ⟨y1, y2, y3, y4, y5⟩ := t2
          rcases o with e | e | e | e | e <;> omega, fun o' => by
          obtain ⟨y1, y2, y3, y4, y5⟩ := t1
          obtain ⟨w1, w2, w3, w4, w5⟩ := g2
          rcases o with e | e | e | e | e <;> rcases o' with e' | e' | e' | e' | e' <;> omega⟩)
      have bV1 := (F.at_ (i := V) (by omega) (by omega) (own_lt t1 (Nat.le_refl _))).trans bV
      have bJ1 := (F.at_ (i := V') (by omega) (by omega) (own_lt t1 (by omega))).trans bJ
      have q1 := P.ow.dm.plt
      have q2 := P.qlt
      have pb1 := P.ow.dm.dev
      have pq1 := P.rb
      clear bV bJ
      refine awp_loop (fun t h2 => ∃ (k : Nat) (d2 : Dev) (r2 : Rd), k ≤ n' ∧ Pr h (oth X' h'.next) h2 X' d2 r2 ∧ FT (oth X' h'.next) h' h2 ∧ t 1 = .slice va' n' vc' ∧ t 5 = ptr V ∧ t 6 = ptr V' ∧ t 8 = .int .i64 k) (fun t _ => n' - ivN (t 8)) ?_ ?_
      · simp -dsimp (disch := omega) [g1', g5, g6]
        exact ⟨0, by omega, ⟨_, _, P2.pr rel0⟩, FT.refl _ _, rfl⟩
      · clear P2 g0 g1' g5 g6
        rintro t h2 ⟨k, d2, r2, hk, ⟨M2, a2, w2, vv2, L2, a2', w2', P2, E2⟩, F2, g1', g5, g6, g8⟩
        refine vcF_sound mixed (tb := tbS) _ (by kernel_rfl) ?_
        have le2 := F2.le
        have z1 := (F2.at_ (i := V) (by omega) (by omega) (own_ge g2 (by omega))).trans bV1
        have z2 := (F2.at_ (i := V') (by omega) (by omega) (own_lt t2 (Nat.le_refl _))).trans bJ1
        rcases Nat.lt_or_ge k n' with c | c
        · have hkl : k < l'.length := hn' ▸ c
          obtain ⟨e, hx⟩ : ∃ e, l'[k]? = some e := ⟨l'[k], List.getElem?_eq_getElem hkl⟩
          have hvm := hv'.mono (h' := h2) fun b hb => P2.ow.ext.same b (hvb' b (by rw [hn']; exact hb))
          obtain ⟨a', c', b', y1, f1, s1, x1, _⟩ := sl_el (f := actC) (n := 4) actC_len hvm hx
          cases y1
          have he := hok' e (List.mem_of_getElem? hx)
          obtain ⟨ew, ex, ev, en⟩ := e
          have x1' : b'.cells.extract (a'.off + k * 4) (a'.off + k * 4 + 4) = #[.int .u8 ew, .int .u64 ex, .int .u64 ev, .int .i64 en] := x1
          clear x1
          have c1 : (k : Int) < n' := by omega
          simp -dsimp (disch := omega) [g1', g5, g6, g8, c, c1, f1, s1, x1', z2]
          refine one_call (e := ⟨ew, ex, ev, en⟩) P2 E2 he fun h3 d3 r3 P3 F3 => ?_
          simp -dsimp (disch := omega) [g1', g5, g6, g8]
          exact ⟨⟨k + 1, by omega, ⟨d3, r3, P3⟩, F2.trans' F3, by simp⟩, by simp [ivN]; omega⟩
        · have c1 : ¬ (k : Int) < n' := by omega
          have w1 := (F2.at_ (i := X.p) (by omega) (by omega) (own_ge g2 (by have := t1.1; omega))).trans pb1
          have w2' := (F2.at_ (i := X.q) (by omega) (by omega) (own_ge g2 (by have := t1.2.2.2.1; omega))).trans pq1
          simp -dsimp (disch := omega) [g1', g5, g6, g8, c, c1, z1, z2]
          refine same_call w1 P.ow.dm.ok (by omega) P2.ow.dm.dev P2.ow.dm.ok P2.ow.dm.plt fun h3 s1 e3 q3 => ?_
          have l3 := e3.le
          have k1 := (e3.same V (by omega)).trans z1
          have k2 := (e3.same V' (by omega)).trans z2
          simp -dsimp (disch := omega) [g1', g5, g6, k1, k2]
          refine ⟨fun j hj _ => e3.same j hj, by omega, by omega, ?_⟩
          have w3 := (e3.same _ (by omega)).trans w2'
          have w4 := (e3.same _ P2.qlt).trans P2.rb
          refine rSame_call w3 P.rok (by omega) w4 P2.rok (by have := P2.qlt; omega) fun h4 s2 e4 q4 => ?_
          have l4 := e4.le
          have hs : s1 = s2 := by rw [Bool.eq_iff_iff]; exact q3.trans ((same_law E E2 P.ow.dm.ok P2.ow.dm.ok).trans q4.symm)
          subst hs
          have k3 := (e4.same V (by omega)).trans k1
          have w5 := (e4.same X.p (by omega)).trans ((e3.same X.p (by omega)).trans w1)
          simp -dsimp (disch := omega) [g1', g5, g6, k3]
          refine ⟨by omega, ?_⟩
          refine copy_call w5 ?_
          have w6 := ((Ext.alloc h4 ⟨devC d, 1, true⟩).same X.p (by omega)).trans w5
          have w7 := blks_alloc_eq h4 ⟨devC d, 1, true⟩
          obtain ⟨h5, hh5⟩ : ∃ h5, h5 = h4.alloc ⟨devC d, 1, true⟩ := ⟨_, rfl⟩
          have e5 : Ext h4 h5 := by rw [hh5]; exact Ext.alloc _ _
          have n5 : h5.next = h4.next + 1 := by rw [hh5]; rfl
          rw [← hh5] at w6 w7 ⊢
          simp -dsimp (disch := omega)
          refine ⟨fun j hj _ => e5.same j (by omega), ?_⟩
          refine same_call w6 P.ow.dm.ok (by omega) w7 P.ow.dm.ok (by omega) fun h6 s3 e6 q6 => ?_
          have hs3 : s3 = true := q6.2 fun _ _ _ => rfl
          subst hs3
          simp -dsimp (disch := omega)
          refine works_call fun h7 e7 => ?_
          simp -dsimp (disch := omega)
          have eF : Ext h2 h7 := (((e3.trans e4).trans e5).trans e6).trans e7
          exact RetF.all (r := .bool true) (by simp) (hK _ (P2.ow.ext.trans eF).same)
end Go.Proofs.Ytkbiadobkheafaa
