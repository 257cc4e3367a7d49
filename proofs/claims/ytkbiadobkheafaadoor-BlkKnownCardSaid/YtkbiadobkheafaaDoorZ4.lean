/-
  BlkPlays.
-/
import Derived.Test.YtkbiadobkheafaaDoorY1
import Derived.Test.YtkbiadobkheafaaDoorZA
set_option linter.unusedSimpArgs false
set_option linter.unusedVariables false
set_option linter.unusedSectionVars false
namespace Go.Proofs.YtkbiadobkheafaaDoor
open Go Go.Mini Go.Proofs.Tryd
set_option maxRecDepth 100000

theorem PrM.tag {h0 : Hp} {T T' : Nat → Prop} {h : Hp} {x : Nm} {d : Dev} {r : Rd} {M : Nat → Nat} {a : Nat} {w : Int} {v : Value} {L : Rm.By} {a' : Nat} {w' : Int} (P : PrM h0 T h x d r M a w v L a' w') (h1 : ∀ i, T' i → i < h.next) (h2 : ∀ i, T' i → i ≠ x.p ∧ i ≠ x.pm ∧ i ≠ x.b ∧ i ≠ x.q ∧ i ≠ x.mr ∧ sblk v ≠ some i) : PrM h0 T' h x d r M a w v L a' w' :=
  ⟨P.ow, P.rb, P.rok, P.rf, P.q0, P.qlt, P.qp, P.qm, P.qb, P.qr, P.mp, P.mm, P.mb, P.vq, P.vp, P.vm, P.vb, h1, h2⟩
/-- A copy takes a device's place. -/
theorem PrM.copy {h0 : Hp} {h : Hp} {x : Nm} {d : Dev} {r : Rd} {M : Nat → Nat} {a : Nat} {w : Int} {v : Value} {L : Rm.By} {a' : Nat} {w' : Int} {V np nq : Nat} {G : Hp} (P : PrM h0 (fun i => i = V) h x d r M a w v L a' w') (hV0 : h0.next ≤ V) (f : Fr h G (fun i => i = V ∨ i = x.p)) (n1 : h.next ≤ np) (n2 : h.next ≤ nq) (n3 : np ≠ nq) (n4 : np < G.next) (n5 : nq < G.next) (b1 : G.blks np = some ⟨devC d, 1, true⟩) (b2 : G.blks nq = some ⟨refC r, 1, true⟩) :
    PrM h0 (fun i => i = V) G ⟨np, x.pm, x.b, nq, x.mr⟩ d r M a w v L a' w' := by
  obtain ⟨v1, v2, v3, v4, v5, v6⟩ := P.tn V rfl
  have vl := P.tlt V rfl
  have lm := P.ow.dm.ram.plt
  have lb := P.ow.dm.ram.blt
  have lr := P.rf.rlt
  have le := f.le
  have hv : ∀ i, sblk v = some i → i < h.next := fun i hi => (P.rf.row.blk i hi).2
  have e0 := P.ow.ext.le
  refine ⟨⟨⟨b1, P.ow.dm.ok, n4, Ram_fr P.ow.dm.ram f (fun z => z.elim (fun e => v2 e.symm) fun e => P.ow.dm.p1 e.symm) (fun z => z.elim (fun e => v3 e.symm) fun e => P.ow.dm.p2 e.symm), by simp only; omega, by simp only; omega⟩, ⟨Nat.le_trans e0 le, fun i hi => by
      rw [f.same i (by omega) (fun z => z.elim (fun e => by omega) fun e => by have := P.ow.np; omega)]
      exact P.ow.ext.same i hi⟩, by simp only; omega, P.ow.nm, P.ow.nb⟩, b2, P.rok, Rf_fr P.rf f (fun z => z.elim (fun e => v5 e.symm) P.mp) (fun i hi z => z.elim (fun e => v6 (e ▸ hi)) fun e => P.vp (e ▸ hi)), by simp only; omega, n5, by simp only; omega, by simp only; omega, by simp only; omega, by simp only; omega, by simp only; omega, P.mm, P.mb, fun e => by have := hv _ e; simp only at this; omega, fun e => by have := hv _ e; simp only at this; omega, P.vm, P.vb, fun i z => by omega, fun i z => ?_⟩
  subst z
  exact ⟨by simp only; omega, v2, v3, by simp only; omega, v5, v6⟩

set_option maxHeartbeats 4000000 in
theorem blkPlays_call {h : Hp} {K : Value → Hp → Prop} {l : List Act} {v : Value} {num : Int} (ht : PowAt h) (hlt : 100 < h.next) (hok : ∀ e ∈ l, e.ok) (hl : l.length < 9223372036854775808) (hv : Sl h 4 l.length (actsC l) v) (hK : ∀ h', (∀ i, i < h.next → h'.blks i = h.blks i) → K (.bool true) h') : ACall prog 4 [v, .int .i64 num] h K := by
  refine acallF_of tb0 func4 rfl rfl mixed (by kernel_rfl) fun hwf => ?_
  have hvb := sblk_lt (hwf.args v (by simp))
  obtain ⟨va, vc, rfl⟩ := hv.slice
  obtain ⟨n, hn⟩ : ∃ n, n = l.length := ⟨_, rfl⟩
  rw [← hn] at hwf hvb ⊢
  simp -dsimp (disch := omega)
  refine new_call ?_
  simp -dsimp (disch := omega)
  obtain ⟨H1, hH1⟩ : ∃ H, H = h.alloc ⟨devC dev0, 1, true⟩ := ⟨_, rfl⟩
  rw [← hH1]
  refine ramNew_one fun h1 pm b e1 k1 k2 r1 => ?_
  obtain ⟨H2, hH2⟩ : ∃ H, H = h1.alloc ⟨refC r0, 1, true⟩ := ⟨_, rfl⟩
  obtain ⟨q, hq⟩ : ∃ q, q = h1.next := ⟨_, rfl⟩
  simp -dsimp (disch := omega) [zeroOf_r0, r0_one, -zeroOf_58, ← hH2, ← hq]
  refine rfNew_one fun h3 mr e3 k3 rf => ?_
  obtain ⟨P1, x1, g1, t1⟩ := mk_pr (Ext.refl h) hH1 rfl e1 k1 k2 r1 hH2 hq e3 k3 rf
  clear hH1 e1 k1 k2 r1 hH2 e3 k3 rf
  obtain ⟨X, hX⟩ : ∃ X : Nm, X = ⟨h.next, pm, b, q, mr⟩ := ⟨_, rfl⟩
  rw [← hX] at P1 g1 t1
  obtain ⟨G, hG⟩ : ∃ G, G = h3.alloc ⟨pairC X, 1, true⟩ := ⟨_, rfl⟩
  have hG' : G = h3.alloc ⟨#[ptr h.next, ptr pm, ptr q, ptr mr], 1, true⟩ := by rw [hG, hX]
  have eG : Ext h3 G := by rw [hG]; exact Ext.alloc _ _
  have bG : G.blks h3.next = some ⟨pairC X, 1, true⟩ := by rw [hG]; exact blks_alloc_eq _ _
  have nG : G.next = h3.next + 1 := by rw [hG]; rfl
  obtain ⟨V, hV⟩ : ∃ V, V = h3.next := ⟨_, rfl⟩
  have hx1 := x1.le
  have bG' : G.blks V = some ⟨#[ptr h.next, ptr pm, ptr q, ptr mr], 1, true⟩ := by rw [hV, bG, hX]
  simp -dsimp (disch := omega) [← hG', ← hV]
  rw [← hV] at bG nG t1
  have hV0 : h.next ≤ V := by omega
  have P1 := (P1.ext eG).1.tag (T' := fun i => i = V) (fun i z => by omega) (fun i z => by
    obtain ⟨y1, y2, y3, y4, y5⟩ := t1
    exact ⟨by omega, by omega, by omega, by omega, by omega, by simp [sblk]⟩)
  clear hG hG' x1 eG hq hV t1 g1
  by_cases big : 80 < n
  · have big' : (80 : Int) < n := by omega
    simp -dsimp (disch := omega) [big, big', bG']
    refine works_call fun h2 e2 => ?_
    simp -dsimp (disch := omega)
    exact RetF.all (r := .bool true) (by simp) (hK _ (P1.ow.ext.trans e2).same)
  have big' : ¬ (80 : Int) < n := by omega
  simp -dsimp (disch := omega) [big, big', bG']
  clear bG' hX
  refine awp_loop (fun t h' => ∃ (k : Nat) (X : Nm) (d : Dev) (r : Rd), k ≤ n ∧ Pr h (fun i => i = V) h' X d r ∧ h'.blks V = some ⟨pairC X, 1, true⟩ ∧ t 0 = .slice va n vc ∧ t 1 = .int .i64 num ∧ t 5 = ptr V ∧ t 6 = .int .i64 k) (fun t _ => n - ivN (t 6)) ?_ ?_
  · simp -dsimp (disch := omega)
    exact ⟨0, by omega, X, ⟨_, _, P1.pr rel0⟩, bG, rfl⟩
  · clear P1 bG nG hx1
    rintro t h' ⟨k, X, d, r, hk, ⟨M, a, w, vv, L, a', w', P, E⟩, bV, g0, g1, g5, g6⟩
    refine vcF_sound mixed (tb := tb0) _ (by kernel_rfl) ?_
    have pow : ∀ {G' : Hp}, Ext h G' → PowAt G' ∧ 100 < G'.next := fun e => ⟨by unfold PowAt; rw [e.same _ hlt]; exact ht, Nat.lt_of_lt_of_le hlt e.le⟩
    rcases Nat.lt_or_ge k n with c | c
    · have hkl : k < l.length := hn ▸ c
      obtain ⟨e, hx⟩ : ∃ e, l[k]? = some e := ⟨l[k], List.getElem?_eq_getElem hkl⟩
      obtain ⟨e', c', b', q1, f1, s1, x1, y1⟩ := sl_el (f := actC) (n := 4) actC_len (hv.mono (h' := h') fun b hb => P.ow.ext.same b (hvb b (by rw [hn]; exact hb))) hx
      cases q1
      have he := hok e (List.mem_of_getElem? hx)
      obtain ⟨ew, ex, ev, en⟩ := e
      have x1' : b'.cells.extract (e'.off + k * 4) (e'.off + k * 4 + 4) = #[.int .u8 ew, .int .u64 ex, .int .u64 ev, .int .i64 en] := x1
      have y0 : b'.cells[e'.off + k * 4]? = some (.int .u8 ew) := y1 0 (by omega)
      have y2 : b'.cells[e'.off + k * 4 + 2]? = some (.int .u64 ev) := y1 2 (by omega)
      clear x1 y1
      have c1 : (k : Int) < n := by omega
      have fb : e'.block < h.next := hvb _ rfl
      obtain ⟨m, hm⟩ : ∃ m, m = ev % 32 := ⟨_, rfl⟩
      have hmi : (ev : Int) % 32 = m := by omega
      by_cases z13 : ew % 15 = 13
      · have hci : (ew : Int) % 15 = 13 := by omega
        simp -dsimp (disch := omega) [g0, g1, g5, g6, c, c1, f1, s1, y0, hci, bV, -getElem?_pos]
        refine copy_call P.ow.dm.dev ?_
        obtain ⟨v1, v2, v3, v4, v5, v6⟩ := P.tn V rfl
        have vl := P.tlt V rfl
        have pl := P.ow.dm.plt
        have ql := P.qlt
        have hqp := P.qp
        obtain ⟨G1, hG1⟩ : ∃ G, G = h'.alloc ⟨devC d, 1, true⟩ := ⟨_, rfl⟩
        have a1 : Ext h' G1 := by rw [hG1]; exact Ext.alloc _ _
        have a2 : G1.blks h'.next = some ⟨devC d, 1, true⟩ := by rw [hG1]; exact blks_alloc_eq _ _
        have a3 : G1.next = h'.next + 1 := by rw [hG1]; rfl
        have a4 := (a1.same V vl).trans bV
        rw [← hG1]
        clear hG1
        simp -dsimp (disch := omega) [g0, g1, g5, g6, a4]
        refine ACallF.gen fun G2 hG2 => ?_
        have b2 : G2.next = h'.next + 1 := by rw [hG2]; exact a3
        have b3 : ∀ i, i ≠ V → G2.blks i = G1.blks i := fun i hi => by rw [hG2]; exact blks_set_ne _ _ _ _ hi
        have b4 : G2.blks V = some ⟨#[ptr h'.next, ptr X.pm, ptr X.q, ptr X.mr], 1, true⟩ := by rw [hG2]; exact blks_set_eq _ _ _
        clear hG2
        refine rCopy_call (by rw [b3 _ (Ne.symm v4), a1.same _ ql]; exact P.rb) ?_
        rw [b2]
        obtain ⟨G3, hG3⟩ : ∃ G, G = G2.alloc ⟨refC r, 1, true⟩ := ⟨_, rfl⟩
        have d1 : Ext G2 G3 := by rw [hG3]; exact Ext.alloc _ _
        have d2 : G3.blks (h'.next + 1) = some ⟨refC r, 1, true⟩ := by rw [hG3, ← b2]; exact blks_alloc_eq _ _
        have d3 : G3.next = h'.next + 2 := by rw [hG3, Hp.next_alloc, b2]
        have d4 := (d1.same V (by omega)).trans b4
        rw [← hG3]
        clear hG3
        simp -dsimp (disch := omega) [g0, g1, g5, g6, d4]
        refine ACallF.gen fun G4 hG4 => ?_
        have k2 : G4.next = h'.next + 2 := by rw [hG4]; exact d3
        have k3 : ∀ i, i ≠ V → G4.blks i = G3.blks i := fun i hi => by rw [hG4]; exact blks_set_ne _ _ _ _ hi
        have k4 : G4.blks V = some ⟨#[ptr h'.next, ptr X.pm, ptr (h'.next + 1), ptr X.mr], 1, true⟩ := by rw [hG4]; exact blks_set_eq _ _ _
        clear hG4
        have all : ∀ i, i < h'.next → i ≠ V → G4.blks i = h'.blks i := fun i hi hv => by rw [k3 i hv, d1.same i (by omega), b3 i hv, a1.same i hi]
        refine reset_call (d := d) (by rw [all _ pl (Ne.symm v1)]; exact P.ow.dm.dev) ?_
        obtain ⟨G5, hG5⟩ : ∃ G, G = G4.set X.p ⟨devC (resetD d), 1, true⟩ := ⟨_, rfl⟩
        have m2 : G5.next = h'.next + 2 := by rw [hG5]; exact k2
        have m3 : ∀ i, i ≠ X.p → G5.blks i = G4.blks i := fun i hi => by rw [hG5]; exact blks_set_ne _ _ _ _ hi
        have F : Fr h' G5 (fun i => i = V ∨ i = X.p) := ⟨by omega, fun i hi z => by rw [m3 i (fun e => z (.inr e)), all i hi (fun e => z (.inl e))]⟩
        have P5 := P.copy (np := h'.next) (nq := h'.next + 1) hV0 F (Nat.le_refl _) (by omega) (by omega) (by omega) (by omega)
          (by rw [m3 _ (by omega), k3 _ (by omega), d1.same _ (by omega), b3 _ (by omega)]; exact a2) (by rw [m3 _ (by omega), k3 _ (by omega)]; exact d2)
        have bV5 : G5.blks V = some ⟨#[ptr h'.next, ptr X.pm, ptr (h'.next + 1), ptr X.mr], 1, true⟩ := by rw [m3 _ (by omega)]; exact k4
        rw [← hG5]
        clear hG5
        obtain ⟨X5, hX5⟩ : ∃ X5 : Nm, X5 = ⟨h'.next, X.pm, X.b, h'.next + 1, X.mr⟩ := ⟨_, rfl⟩
        rw [← hX5] at P5
        have bV5 : G5.blks V = some ⟨pairC X5, 1, true⟩ := by rw [bV5, hX5]
        clear hX5
        obtain ⟨q1, q2⟩ := pow P5.ow.ext
        simp -dsimp (disch := omega) [g0, g1, g5, g6, bV5]
        refine alike_call P5 E q1 q2 fun h3 e3 => ?_
        have P3 := (P5.ext e3).1
        have bV3 := (e3.same V (P5.tlt V rfl)).trans bV5
        obtain ⟨q3, q4⟩ := pow P3.ow.ext
        have f3 := (P3.ow.ext.same _ fb).trans ((P.ow.ext.same _ fb).symm.trans f1)
        simp -dsimp (disch := omega) [g0, g1, g5, g6, bV3, f3, s1, y2, hmi, c, -getElem?_pos]
        refine alike_call P3 E q3 q4 fun h4 e4 => ?_
        have P4 := (P3.ext e4).1
        have bV4 := (e4.same V (P3.tlt V rfl)).trans bV3
        simp -dsimp (disch := omega) [g0, g1, g5, g6]
        exact ⟨⟨k + 1, by omega, X5, ⟨d, r, P4.pr E⟩, bV4, by simp⟩, by simp [ivN]; omega⟩
      · have hci : ¬ (ew : Int) % 15 = 13 := by omega
        simp -dsimp (disch := omega) [g0, g1, g5, g6, c, c1, f1, s1, y0, x1', hci, bV, -getElem?_pos]
        refine one_call (e := ⟨ew, ex, ev, en⟩) P E he fun h2 d2 r2 P2 F2 => ?_
        obtain ⟨M2, a2, w2, vv2, L2, a2', w2', P2, E2⟩ := P2
        have bV2 := (F2.same V (P.tlt V rfl) (fun z => z rfl)).trans bV
        obtain ⟨q1, q2⟩ := pow P2.ow.ext
        simp -dsimp (disch := omega) [g0, g1, g5, g6, bV2]
        refine alike_call P2 E2 q1 q2 fun h3 e3 => ?_
        have P3 := (P2.ext e3).1
        have bV3 := (e3.same V (P2.tlt V rfl)).trans bV2
        obtain ⟨q3, q4⟩ := pow P3.ow.ext
        have f3 := (P3.ow.ext.same _ fb).trans ((P.ow.ext.same _ fb).symm.trans f1)
        simp -dsimp (disch := omega) [g0, g1, g5, g6, bV3, f3, s1, y2, hmi, c, -getElem?_pos]
        refine alike_call P3 E2 q3 q4 fun h4 e4 => ?_
        have P4 := (P3.ext e4).1
        have bV4 := (e4.same V (P3.tlt V rfl)).trans bV3
        simp -dsimp (disch := omega) [g0, g1, g5, g6]
        exact ⟨⟨k + 1, by omega, X, ⟨d2, r2, P4.pr E2⟩, bV4, by simp⟩, by simp [ivN]; omega⟩
    · have c1 : ¬ (k : Int) < n := by omega
      simp -dsimp (disch := omega) [g0, g1, g5, g6, c, c1]
      clear c c1 hk g6 g0
      refine awp_loop (fun t h2 => ∃ k : Nat, k ≤ 32 ∧ PrM h (fun i => i = V) h2 X d r M a w vv L a' w' ∧ h2.blks V = some ⟨pairC X, 1, true⟩ ∧ t 5 = ptr V ∧ t 8 = .int .i64 k) (fun t _ => 32 - ivN (t 8)) ?_ ?_
      · simp -dsimp (disch := omega) [g5]
        exact ⟨0, by omega, P, bV, rfl⟩
      · clear P bV g5 g1
        rintro t h2 ⟨k, hk, P, bV, g5, g8⟩
        refine vcF_sound mixed (tb := tb0) _ (by kernel_rfl) ?_
        obtain ⟨q1, q2⟩ := pow P.ow.ext
        rcases Nat.lt_or_ge k 32 with c | c
        · have c1 : (k : Int) < 32 := by omega
          simp -dsimp (disch := omega) [g5, g8, c, c1, bV]
          refine alike_call P E q1 q2 fun h3 e3 => ?_
          have P3 := (P.ext e3).1
          have bV3 := (e3.same V (P.tlt V rfl)).trans bV
          simp -dsimp (disch := omega) [g5, g8]
          exact ⟨⟨k + 1, by omega, P3, bV3, by simp⟩, by simp [ivN]; omega⟩
        · have c1 : ¬ (k : Int) < 32 := by omega
          simp -dsimp (disch := omega) [g5, g8, c, c1]
          clear c c1 hk g8
          have rb := P.rf.blk
          obtain ⟨len, hlen⟩ : ∃ len, len = L.length := ⟨_, rfl⟩
          obtain ⟨ua, uc, hvv⟩ := P.rf.row.slice
          rw [← hlen] at hvv
          have hl4 := P.len
          rw [← hlen] at hl4
          refine awp_loop (fun t h4 => h4 = h2 ∧ ∃ k : Nat, k ≤ len ∧ t 5 = ptr V ∧ t 9 = .int .i64 k) (fun t _ => len - ivN (t 9)) ?_ ?_
          · simp -dsimp (disch := omega) [g5]
            exact ⟨0, by omega, rfl⟩
          · clear g5
            rintro t h4 ⟨rfl, k, hk, g5, g9⟩
            refine vcF_sound mixed (tb := tb0) _ (by kernel_rfl) ?_
            rcases Nat.lt_or_ge k len with c | c
            · obtain ⟨e, hxe⟩ : ∃ e, L[k]? = some e := ⟨_, List.getElem?_eq_getElem (hlen ▸ c)⟩
              obtain ⟨bb, z1, z2, z3, z4⟩ := Rm.row_el P.rf.row hxe
              rw [z1] at hvv rb
              rw [← hlen] at rb
              have c1 : (k : Int) < len := by omega
              have heok := P.rf.ok e (List.mem_of_getElem? hxe)
              have hlk := P.rf.uq.look (List.mem_of_getElem? hxe)
              have hM := E.mem e.1 heok.1
              obtain ⟨ea, eb⟩ := e
              simp only at z3 z4 heok hlk hM
              have hMe : M ea = eb := by rw [hM, hlk]
              simp -dsimp (disch := omega) [g5, g9, bV, rb, c, c1, z2, z3, -getElem?_pos]
              have el : Rm.leN M ea (Int.toNat 1) = eb := by show 0 * 256 + M ea = eb; omega
              refine Rm.read_call (x := ea) (n := 1) P.ow.dm.ram (by omega) (fun _ => ?_) (fun hc => absurd ⟨.inl rfl, by show ea + 1 ≤ 4096; omega⟩ hc)
              rw [el]
              simp -dsimp (disch := omega) [g5, g9, bV, rb, c, c1, z2, z4, -getElem?_pos]
              exact ⟨⟨k + 1, by omega, by simp⟩, by simp [ivN]; omega⟩
            · have c1 : ¬ (k : Int) < len := by omega
              rw [hvv] at rb
              simp -dsimp (disch := omega) [g5, g9, bV, rb, c, c1]
              refine works_call fun h5 e5 => ?_
              simp -dsimp (disch := omega)
              exact RetF.all (r := .bool true) (by simp) (hK _ (P.ow.ext.trans e5).same)
end Go.Proofs.YtkbiadobkheafaaDoor
