/-
  A walk.
-/
import Derived.Test.YtkddajmfljlhiaaW4
set_option linter.unusedSimpArgs false
set_option linter.unusedVariables false
namespace Go.Proofs.Ytkddajmfljlhiaa
open Go Go.Mini Go.Proofs.Try

/-- A walk's end at a leaf. -/
def leafF (L : List Wd) (x : Ask) (i e a0 a1 a2 n : Nat) : Res × List Wd × Nat :=
  if leafOk x i e = false then (failR 1 a0 a1 a2 n, L, 0)
  else if nowN x e = e then (fineR x i e a0 a1 a2 n, L, 0)
  else if wrB L (lastA a0 a1 a2 n) = false then (failR 2 a0 a1 a2 n, L, 0)
  else (fineR x i e a0 a1 a2 n, put1 L (lastA a0 a1 a2 n) (nowN x e), 1)
def addN (x : Ask) (i tab : Nat) : Nat := tab + 8 * (x.va / 2 ^ (12 + 9 * i) % 512)
/-- A walk from a level on. -/
def goW (L : List Wd) (x : Ask) : Nat → Nat → Nat → Nat → Nat → Nat → Res × List Wd × Nat
  | 0, _, a0, a1, a2, n => (failR 1 a0 a1 a2 n, L, 0)
  | i + 1, tab, a0, a1, a2, n =>
    if rdB L (addN x i tab) = false then (failR 2 (nx0 n a0 (addN x i tab)) (nx1 n a1 (addN x i tab)) (nx2 n a2 (addN x i tab)) (n + 1), L, 0)
    else if badB (rdV L (addN x i tab)) = true then (failR 1 (nx0 n a0 (addN x i tab)) (nx1 n a1 (addN x i tab)) (nx2 n a2 (addN x i tab)) (n + 1), L, 0)
    else if rdV L (addN x i tab) &&& 10 = 0 then
      (if i = 0 ∨ rdV L (addN x i tab) &&& 208 ≠ 0 then (failR 1 (nx0 n a0 (addN x i tab)) (nx1 n a1 (addN x i tab)) (nx2 n a2 (addN x i tab)) (n + 1), L, 0)
       else goW L x i (pageN (rdV L (addN x i tab)) * 4096) (nx0 n a0 (addN x i tab)) (nx1 n a1 (addN x i tab)) (nx2 n a2 (addN x i tab)) (n + 1))
    else leafF L x i (rdV L (addN x i tab)) (nx0 n a0 (addN x i tab)) (nx1 n a1 (addN x i tab)) (nx2 n a2 (addN x i tab)) (n + 1)
def tab0 (x : Ask) : Nat := x.satp % 17592186044416 * 4096
def walkF (L : List Wd) (x : Ask) : Res × List Wd × Nat :=
  if bareB x = true then (⟨0, x.va, 0, 0, 0, 0, 0, 0⟩, L, 0)
  else if canB x.va = false then (failR 1 0 0 0 0, L, 0)
  else goW L x 3 (tab0 x) 0 0 0 0

def tb10 : Nat → Marks := fun k => if k = 6 then ⟨[1, 2], fun _ => True⟩ else if k = 10 then ⟨[1, 6], fun _ => True⟩ else ⟨[], fun _ => True⟩
@[simp] theorem tb10_l6 : (tb10 6).l = [1, 2] := rfl
@[simp] theorem tb10_l10 : (tb10 10).l = [1, 6] := rfl
@[simp] theorem tb10_R (k x : Nat) : (tb10 k).R x := by unfold tb10; split <;> (try split) <;> trivial
/-- Where a walk stands. -/
structure Wk (h h' : Hp) (m mp : Nat) (v : Value) (L : List Wd) (k : Nat) (x : Ask) (a0 a1 a2 n : Nat) : Prop where
  a : h'.blks h.next = some ⟨#[.int .u64 x.va, .int .u64 x.satp, .int .u8 x.kind, .int .u8 x.mode, .bool x.sum, .bool x.mxr], 1, true⟩
  b : h'.blks (h.next + 1) = some ⟨#[.int .u8 0, .int .u64 0, .int .i64 0, .int .u64 0, .int .u64 0, .int .u64 0, .int .u64 0, .int .i64 0], 1, true⟩
  w : h'.blks (h.next + 2) = some ⟨wkA (mI mp) x a0 a1 a2 n, 1, true⟩
  q : Mem m h' mp v L k
  le : h.next + 3 ≤ h'.next
  same : ∀ j, j < h.next → h'.blks j = h.blks j
theorem Wk.set {h h' : Hp} {m mp : Nat} {v : Value} {L : List Wd} {k : Nat} {x : Ask} {a0 a1 a2 n b0 b1 b2 l : Nat} (s : Wk h h' m mp v L k x a0 a1 a2 n) (hm : mp < h.next) (hv : ∀ b, sblk v = some b → b < h.next) : Wk h (h'.set (h.next + 2) ⟨wkA (mI mp) x b0 b1 b2 l, 1, true⟩) m mp v L k x b0 b1 b2 l := by
  refine ⟨?_, ?_, blks_set_eq _ _ _, ⟨?_, Row.set s.q.row _ _ fun e => ?_, s.q.lt, s.q.mm, s.q.mh, s.q.vr, s.q.ok⟩, s.le, fun j hj => ?_⟩
  · rw [blks_set_ne _ _ _ _ (by omega)]; exact s.a
  · rw [blks_set_ne _ _ _ _ (by omega)]; exact s.b
  · rw [blks_set_ne _ _ _ _ (by omega)]; exact s.q.blk
  · have := hv _ e; omega
  · rw [blks_set_ne _ _ _ _ (by omega)]; exact s.same j hj
section
variable {h : Hp} {K : Value → Hp → Prop} {x : Ask}
set_option maxRecDepth 100000 in
set_option maxHeartbeats 4000000 in
theorem walk_call {m mp : Nat} {v : Value} {L : List Wd} {k : Nat} (q : Mem m h mp v L k) (hl : L.length ≤ 1000) (hkk : k ≤ 1000) (ox : x.ok)
    (hK : ∀ h', Mem m h' mp v (walkF L x).2.1 (k + (walkF L x).2.2) → h.next ≤ h'.next → (∀ i, i < h.next → i ≠ mp → sblk v ≠ some i → h'.blks i = h.blks i) → K (resV (walkF L x).1) h') : ACall prog 10 [mI mp, askV x] h K := by
  refine acallF_of tb10 func10 rfl rfl mixed (by kernel_rfl) fun hwf => ?_
  have ox' := ox
  obtain ⟨o1, o2, o3, o4⟩ := ox
  obtain ⟨H, hH⟩ : ∃ H, H = (h.alloc ⟨#[.int .u64 x.va, .int .u64 x.satp, .int .u8 x.kind, .int .u8 x.mode, .bool x.sum, .bool x.mxr], 1, true⟩).alloc ⟨#[.int .u8 0, .int .u64 0, .int .i64 0, .int .u64 0, .int .u64 0, .int .u64 0, .int .u64 0, .int .i64 0], 1, true⟩ := ⟨_, rfl⟩
  have hE : Ext h H := by rw [hH]; exact (Ext.alloc h _).then_alloc _
  have hNH : H.next = h.next + 2 := by rw [hH]; rfl
  have hA : H.blks h.next = some ⟨#[.int .u64 x.va, .int .u64 x.satp, .int .u8 x.kind, .int .u8 x.mode, .bool x.sum, .bool x.mxr], 1, true⟩ := by
    rw [hH, blks_alloc_ne _ _ _ (by simp), blks_alloc_eq]
  have hB : H.blks (h.next + 1) = some ⟨#[.int .u8 0, .int .u64 0, .int .i64 0, .int .u64 0, .int .u64 0, .int .u64 0, .int .u64 0, .int .i64 0], 1, true⟩ := by
    rw [hH]; exact blks_alloc_eq _ _
  obtain ⟨G, hG⟩ : ∃ G, G = H.alloc ⟨#[.iface 28 (ptr mp), .int .u64 x.va, .int .u64 x.satp, .int .u8 x.kind, .int .u8 x.mode, .bool x.sum, .bool x.mxr, .int .u8 0, .int .u64 0, .int .i64 0, .int .u64 0, .int .u64 0, .int .u64 0, .int .u64 0, .int .i64 0], 1, true⟩ := ⟨_, rfl⟩
  have hEG : Ext h G := by rw [hG]; exact hE.then_alloc _
  have hNG : G.next = h.next + 3 := by rw [hG]; show H.next + 1 = _; omega
  have gA : G.blks h.next = some ⟨#[.int .u64 x.va, .int .u64 x.satp, .int .u8 x.kind, .int .u8 x.mode, .bool x.sum, .bool x.mxr], 1, true⟩ := by
    rw [hG, blks_alloc_ne _ _ _ (by omega)]; exact hA
  have gB : G.blks (h.next + 1) = some ⟨#[.int .u8 0, .int .u64 0, .int .i64 0, .int .u64 0, .int .u64 0, .int .u64 0, .int .u64 0, .int .i64 0], 1, true⟩ := by
    rw [hG, blks_alloc_ne _ _ _ (by omega)]; exact hB
  have gW : G.blks (h.next + 2) = some ⟨wkA (mI mp) x 0 0 0 0, 1, true⟩ := by
    rw [hG, ← hNH]; exact blks_alloc_eq _ _
  have hH2 : H.next = h.next + 2 := hNH
  have qG : Mem m G mp v L k := ⟨by rw [hEG.same _ q.lt]; exact q.blk, q.row.mono hEG.le fun b hb => hEG.same _ (q.row.blk b hb).2, Nat.lt_of_lt_of_le q.lt hEG.le, q.mm, Nat.le_trans q.mh hEG.le, q.vr, q.ok⟩
  have fin0 : ∀ r, walkF L x = (r, L, 0) → K (resV r) h := by
    intro r hr
    have := hK h
    rw [hr] at this
    exact this q (Nat.le_refl _) (fun _ _ _ _ => rfl)
  have hmp : mp < h.next := q.lt
  have hvb : ∀ b, sblk v = some b → b < h.next := fun b e => (q.row.blk b e).2
  have bC := fun (K' : Value → Hp → Prop) (hk : K' (.bool (bareB x)) H) => bare_call (K := K') ox' hk
  have nC := fun (K' : Value → Hp → Prop) (hk : K' (.bool (canB x.va)) G) => can_call (K := K') o1 hk
  unfold askV at bC ⊢
  simp -dsimp (disch := omega) [← hH, hA]
  refine bC _ ?_
  cases hb : bareB x
  · simp -dsimp (disch := omega) [hA, ← hG, gA]
    refine nC _ ?_
    cases hc : canB x.va
    · have hw : walkF L x = (failR 1 0 0 0 0, L, 0) := by unfold walkF; rw [hb, if_neg (by simp), hc, if_pos rfl]
      simp -dsimp (disch := omega) [hH2]
      refine fail_call (f := 1) gW (by omega) ?_
      unfold failR
      simp -dsimp (disch := omega) [gB]
      refine RetF.same (r := resV (failR 1 0 0 0 0)) hwf (by simp [failR]) (by simp [vtop, vtopL]) (fun j hj => ?_) (fin0 _ hw)
      rw [blks_set_ne _ _ _ _ (by omega)]; exact hEG.same j hj
    · have hw : walkF L x = goW L x 3 (tab0 x) 0 0 0 0 := by unfold walkF; rw [hb, if_neg (by simp), hc, if_neg (by simp)]
      rw [hw] at hK fin0
      have aS : ∀ (ty : TypeId) (xo yo : Operand), abin prog .and ty xo yo (.int .u64 (x.satp : Nat)) (.int .u64 17592186044415) = some (.int .u64 ((x.satp % 17592186044416 : Nat) : Int)) := abin_low x.satp 44 17592186044415 (x.satp % 17592186044416) (by omega) o2 (by rfl) rfl
      obtain ⟨tb, htb⟩ : ∃ t, t = tab0 x := ⟨_, rfl⟩
      have hTT : tb = x.satp % 17592186044416 * 4096 := by rw [htb]; rfl
      rw [← htb] at hK fin0
      obtain ⟨sl, hsl⟩ : ∃ s, s = x.satp % 17592186044416 := ⟨_, rfl⟩
      have hsll : sl < 17592186044416 := by omega
      rw [← hsl] at aS hTT
      have eT := shl_u64 sl 12 (by omega) tb hTT (by omega)
      obtain ⟨W, hW⟩ : ∃ W, W = goW L x 3 tb 0 0 0 0 := ⟨_, rfl⟩
      rw [← hW] at hK fin0
      simp -dsimp (disch := omega) [hH2, gA]
      refine low_call (n := 44) (by omega) ?_
      rw [show ((2 ^ 44 - 1 : Nat) : Int) = 17592186044415 from rfl]
      simp -dsimp (disch := omega) [aS, eT, -abin_and]
      refine awpF_of (awp_loop (fun t h' => ∃ i n a0 a1 a2 tab : Nat, i + n = 3 ∧ 1 ≤ i ∧ t 3 = ptr h.next ∧ t 4 = ptr (h.next + 1) ∧ t 5 = ptr (h.next + 2) ∧ t 6 = .int .u64 tab ∧ t 8 = .int .i64 i ∧ tab < 144115188075855872 ∧ goW L x i tab a0 a1 a2 n = W ∧ Wk h h' m mp v L k x a0 a1 a2 n) (fun t _ => ivN (t 8)) ?_ ?_)
      · exact ⟨3, 0, 0, 0, 0, tb, rfl, by omega, by simp, by simp, by simp [hH2], by simp, by simp, by omega, hW.symm, gA, gB, gW, qG, by omega, hEG.same⟩
      · rintro t h' ⟨i, n, a0, a1, a2, tab, hin, hi1, g3, g4, g5, g6, g8, htab, hgo, s⟩
        clear gA gB gW hA hB
        obtain ⟨j, rfl⟩ : ∃ j, i = j + 1 := ⟨i - 1, by omega⟩
        refine vcF_sound mixed (tb := tb10) _ (by kernel_rfl) ?_
        have sa := s.a
        have sb := s.b
        have sl2 := s.le
        obtain ⟨d, hd⟩ : ∃ d, d = x.va / 2 ^ (12 + 9 * j) := ⟨_, rfl⟩
        have hdl : d < 18446744073709551616 := by rw [hd]; exact Nat.lt_of_le_of_lt (Nat.div_le_self _ _) o1
        have e1 : (x.va : Int).fdiv (2 ^ min (12 + 9 * (j : Int)).toNat IntKind.u64.bits) = (d : Nat) := by
          rw [show (12 + 9 * (j : Int)).toNat = 12 + 9 * j from by omega, hd]
          exact shr_u64 x.va (12 + 9 * j) (by omega)
        have aN : ∀ (ty : TypeId) (xo yo : Operand), abin prog .and ty xo yo (.int .u64 (d : Nat)) (.int .u64 511) = some (.int .u64 ((d % 512 : Nat) : Int)) := abin_low d 9 511 (d % 512) (by omega) hdl (by rfl) rfl
        obtain ⟨r, hr⟩ : ∃ r, r = d % 512 := ⟨_, rfl⟩
        have hrl : r < 512 := by omega
        rw [← hr] at aN
        obtain ⟨y, hy⟩ : ∃ y, y = tab + 8 * r := ⟨_, rfl⟩
        have hyE : addN x j tab = y := by unfold addN; rw [← hd, ← hr, hy]
        have hyi : (tab : Int) + 8 * r = y := by omega
        have rC := fun (K' : Value → Hp → Prop) (hk : _) => read_call (K := K') (y := y) s.w (by omega) s.q hl (by omega) (fun e => by have := hvb _ e; omega) hk
        have s2 : Wk h (h'.set (h.next + 2) ⟨wkA (mI mp) x (nx0 n a0 y) (nx1 n a1 y) (nx2 n a2 y) (n + 1), 1, true⟩) m mp v L k x (nx0 n a0 y) (nx1 n a1 y) (nx2 n a2 y) (n + 1) := s.set hmp hvb
        obtain ⟨G2, hG2⟩ : ∃ G2, G2 = h'.set (h.next + 2) ⟨wkA (mI mp) x (nx0 n a0 y) (nx1 n a1 y) (nx2 n a2 y) (n + 1), 1, true⟩ := ⟨_, rfl⟩
        rw [← hG2] at s2 rC
        have hel : rdV L y < 18446744073709551616 := at1_ok s.q.ok y
        simp only [goW] at hgo
        rw [hyE] at hgo
        obtain ⟨b0, hb0⟩ : ∃ b, b = nx0 n a0 y := ⟨_, rfl⟩
        obtain ⟨b1, hb1⟩ : ∃ b, b = nx1 n a1 y := ⟨_, rfl⟩
        obtain ⟨b2, hb2⟩ : ∃ b, b = nx2 n a2 y := ⟨_, rfl⟩
        rw [← hb0, ← hb1, ← hb2] at hgo s2
        obtain ⟨e, he⟩ : ∃ e, e = rdV L y := ⟨_, rfl⟩
        rw [← he] at hgo hel rC
        have fb := s2.b
        have tw := s2.w
        have tl := s2.le
        have fl := fun (f : Nat) (K' : Value → Hp → Prop) (hk : K' (resV (failR f b0 b1 b2 (n + 1))) G2) => fail_call (f := f) tw (by omega) hk
        unfold failR at fl
        simp -dsimp (disch := omega) [g3, g4, g5, g6, g8, sa]
        refine low_call (n := 9) (by omega) ?_
        rw [show ((2 ^ 9 - 1 : Nat) : Int) = 511 from rfl]
        simp -dsimp (disch := omega) [g3, g4, g5, g6, g8, sa, e1, aN, hyi, -abin_and]
        refine rC _ ?_
        cases hrb : rdB L y
        · rw [hrb, if_pos rfl] at hgo
          have hw2 : W = (failR 2 b0 b1 b2 (n + 1), L, 0) := hgo.symm
          simp -dsimp (disch := omega) [g3, g4, g5, g6, g8]
          refine fl 2 _ ?_
          simp -dsimp (disch := omega) [g3, g4, g5, g6, g8, fb]
          refine RetF.same (r := resV (failR 2 b0 b1 b2 (n + 1))) hwf (by simp [failR, g4]) (by simp [vtop, vtopL]) (fun j hj => ?_) (fin0 _ hw2)
          rw [blks_set_ne _ _ _ _ (by omega)]; exact s2.same j hj
        · rw [hrb, if_neg (by simp)] at hgo
          simp -dsimp (disch := omega) [g3, g4, g5, g6, g8, sa, e1, aN, hyi, -abin_and]
          refine bad_call hel ?_
          cases hbd : badB e
          · rw [hbd, if_neg (by simp)] at hgo
            obtain ⟨d10, h10⟩ : ∃ d, d = e &&& 10 := ⟨_, rfl⟩
            have a10 : ∀ (ty : TypeId) (xo yo : Operand), abin prog .and ty xo yo (.int .u64 (e : Nat)) (.int .u64 10) = some (.int .u64 (d10 : Nat)) := and_n e 10 d10 hel (by omega) h10
            rw [← h10] at hgo
            by_cases hd0 : d10 = 0
            · subst hd0
              rw [if_pos rfl] at hgo
              obtain ⟨d2, h2⟩ : ∃ d, d = e &&& 208 := ⟨_, rfl⟩
              have a2 : ∀ (ty : TypeId) (xo yo : Operand), abin prog .and ty xo yo (.int .u64 (e : Nat)) (.int .u64 208) = some (.int .u64 (d2 : Nat)) := and_n e 208 d2 hel (by omega) h2
              rw [← h2] at hgo
              by_cases hj0 : j = 0
              · rw [if_pos (Or.inl hj0)] at hgo
                subst hj0
                have hw2 : W = (failR 1 b0 b1 b2 (n + 1), L, 0) := hgo.symm
                simp -dsimp (disch := omega) [g3, g4, g5, g6, g8, a10, a2, -abin_and]
                refine fl 1 _ ?_
                simp -dsimp (disch := omega) [g3, g4, g5, g6, g8, fb]
                refine RetF.same (r := resV (failR 1 b0 b1 b2 (n + 1))) hwf (by simp [failR, g4]) (by simp [vtop, vtopL]) (fun j hj => ?_) (fin0 _ hw2)
                rw [blks_set_ne _ _ _ _ (by omega)]; exact s2.same j hj
              · have hj0' : ¬ (j : Int) = 0 := by omega
                by_cases hd2 : d2 = 0
                · subst hd2
                  rw [if_neg (by simp [hj0])] at hgo
                  have hpl : pageN e < 17592186044416 := Nat.mod_lt _ (by omega)
                  obtain ⟨g, hg⟩ : ∃ g, g = pageN e := ⟨_, rfl⟩
                  have pC := fun (K' : Value → Hp → Prop) (hk : K' (.int .u64 (pageN e)) G2) => page_call (K := K') hel hk
                  rw [← hg] at hpl hgo pC
                  obtain ⟨tn, htn⟩ : ∃ t, t = g * 4096 := ⟨_, rfl⟩
                  have eN := shl_u64 g 12 (by omega) tn htn (by omega)
                  rw [← htn] at hgo
                  simp -dsimp (disch := omega) [g3, g4, g5, g6, g8, a10, a2, hj0, hj0', -abin_and]
                  refine pC _ ?_
                  simp -dsimp (disch := omega) [g3, g4, g5, g6, g8, eN]
                  exact ⟨⟨j, n + 1, by omega, by omega, b0, b1, b2, tn, rfl, rfl, by omega, hgo, s2⟩, by simp [ivN]⟩
                · have hd2' : ¬ (d2 : Int) = 0 := by omega
                  rw [if_pos (Or.inr hd2)] at hgo
                  have hw2 : W = (failR 1 b0 b1 b2 (n + 1), L, 0) := hgo.symm
                  simp -dsimp (disch := omega) [g3, g4, g5, g6, g8, a10, a2, hj0, hj0', hd2, hd2', -abin_and]
                  refine fl 1 _ ?_
                  simp -dsimp (disch := omega) [g3, g4, g5, g6, g8, fb]
                  refine RetF.same (r := resV (failR 1 b0 b1 b2 (n + 1))) hwf (by simp [failR, g4]) (by simp [vtop, vtopL]) (fun j hj => ?_) (fin0 _ hw2)
                  rw [blks_set_ne _ _ _ _ (by omega)]; exact s2.same j hj
            · have hd0' : ¬ (d10 : Int) = 0 := by omega
              rw [if_neg hd0] at hgo
              simp -dsimp (disch := omega) [g3, g4, g5, g6, g8, a10, hd0, hd0', -abin_and]
              refine leaf_call tw (by omega) ⟨by omega, by omega⟩ (by omega) hel ox' s2.q hl hkk (by omega) (fun e => by have := hvb _ e; omega) (fun hx => ?_) (fun hx hy2 G3 hn3 hs3 => ?_) (fun hx hy2 hz => ?_) (fun hx hy2 hz G3 q3 hn3 hs3 => ?_)
              · have hw2 : W = (failR 1 b0 b1 b2 (n + 1), L, 0) := by rw [← hgo]; unfold leafF; rw [if_pos hx]
                simp -dsimp (disch := omega) [g3, g4, g5, g6, g8, fb, failR, fineR]
                refine RetF.same (r := resV (failR 1 b0 b1 b2 (n + 1))) hwf (by simp [failR, fineR, g4]) (by simp [vtop, vtopL]) (fun j hj => ?_) (fin0 _ hw2)
                rw [blks_set_ne _ _ _ _ (by omega)]; exact s2.same j hj
              · have hw2 : W = (fineR x j e b0 b1 b2 (n + 1), L, 0) := by rw [← hgo]; unfold leafF; rw [if_neg (by simp [hx]), if_pos hy2]
                have fb := fb
                rw [← hs3 _ (by omega) (by omega)] at fb
                simp -dsimp (disch := omega) [g3, g4, g5, g6, g8, fb, failR, fineR]
                refine RetF.same (r := resV (fineR x j e b0 b1 b2 (n + 1))) hwf (by simp [failR, fineR, g4]) (by simp [vtop, vtopL]) (fun j hj => ?_) (fin0 _ hw2)
                rw [blks_set_ne _ _ _ _ (by omega), hs3 _ (by omega) (by omega)]; exact s2.same j hj
              · have hw2 : W = (failR 2 b0 b1 b2 (n + 1), L, 0) := by rw [← hgo]; unfold leafF; rw [if_neg (by simp [hx]), if_neg hy2, if_pos hz]
                simp -dsimp (disch := omega) [g3, g4, g5, g6, g8, fb, failR, fineR]
                refine RetF.same (r := resV (failR 2 b0 b1 b2 (n + 1))) hwf (by simp [failR, fineR, g4]) (by simp [vtop, vtopL]) (fun j hj => ?_) (fin0 _ hw2)
                rw [blks_set_ne _ _ _ _ (by omega)]; exact s2.same j hj
              · have hw2 : W = (fineR x j e b0 b1 b2 (n + 1), put1 L (lastA b0 b1 b2 (n + 1)) (nowN x e), 1) := by rw [← hgo]; unfold leafF; rw [if_neg (by simp [hx]), if_neg hy2, if_neg (by simp [hz])]
                rw [hw2] at hK
                have fb := fb
                have hvn : sblk v ≠ some (h.next + 1) := fun e => by have := hvb _ e; omega
                rw [← hs3 _ (by omega) (by omega) (by omega) hvn] at fb
                simp -dsimp (disch := omega) [g3, g4, g5, g6, g8, fb, fineR]
                refine RetF.all (r := resV (fineR x j e b0 b1 b2 (n + 1))) (by simp [fineR, g4]) (hK _ ⟨?_, Row.set q3.row _ _ hvn, q3.lt, q.mm, q3.mh, q.vr, q3.ok⟩ ?_ fun i hi1 hi2 hi3 => ?_)
                · rw [blks_set_ne _ _ _ _ (by omega)]; exact q3.blk
                · show h.next ≤ G3.next
                  omega
                · rw [blks_set_ne _ _ _ _ (by omega), hs3 _ (by omega) (by omega) hi2 hi3]; exact s2.same i hi1
          · rw [hbd, if_pos rfl] at hgo
            have hw2 : W = (failR 1 b0 b1 b2 (n + 1), L, 0) := hgo.symm
            simp -dsimp (disch := omega) [g3, g4, g5, g6, g8]
            refine fl 1 _ ?_
            simp -dsimp (disch := omega) [g3, g4, g5, g6, g8, fb]
            refine RetF.same (r := resV (failR 1 b0 b1 b2 (n + 1))) hwf (by simp [failR, g4]) (by simp [vtop, vtopL]) (fun j hj => ?_) (fin0 _ hw2)
            rw [blks_set_ne _ _ _ _ (by omega)]; exact s2.same j hj
  · have hw : walkF L x = (⟨0, x.va, 0, 0, 0, 0, 0, 0⟩, L, 0) := by unfold walkF; rw [hb, if_pos rfl]
    simp -dsimp (disch := omega) [hA, hB]
    refine RetF.same (r := resV ⟨0, x.va, 0, 0, 0, 0, 0, 0⟩) hwf (by simp) (by simp [vtop, vtopL]) (fun j hj => ?_) (fin0 _ hw)
    rw [blks_set_ne _ _ _ _ (by omega)]; exact hE.same j hj
end
end Go.Proofs.Ytkddajmfljlhiaa
