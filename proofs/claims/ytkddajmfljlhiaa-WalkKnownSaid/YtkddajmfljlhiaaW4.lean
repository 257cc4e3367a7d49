/-
  A walk's parts: fail, read, leaf.
-/
import Derived.Test.YtkddajmfljlhiaaW3
set_option linter.unusedSimpArgs false
set_option linter.unusedVariables false
namespace Go.Proofs.Ytkddajmfljlhiaa
open Go Go.Mini Go.Proofs.Try

abbrev wkA (mv : Value) (x : Ask) (a0 a1 a2 n : Nat) : Array Value := #[mv, .int .u64 x.va, .int .u64 x.satp, .int .u8 x.kind, .int .u8 x.mode, .bool x.sum, .bool x.mxr, .int .u8 0, .int .u64 0, .int .i64 0, .int .u64 0, .int .u64 a0, .int .u64 a1, .int .u64 a2, .int .i64 n]
structure Res where
  f : Nat
  pa : Nat
  lv : Nat
  pte : Nat
  a0 : Nat
  a1 : Nat
  a2 : Nat
  n : Nat
abbrev resV (r : Res) : Value := .agg #[.int .u8 r.f, .int .u64 r.pa, .int .i64 r.lv, .int .u64 r.pte, .int .u64 r.a0, .int .u64 r.a1, .int .u64 r.a2, .int .i64 r.n]
def failR (f a0 a1 a2 n : Nat) : Res := ⟨f, 0, 0, 0, a0, a1, a2, n⟩
abbrev mI (mp : Nat) : Value := .iface 28 (ptr mp)

@[simp] theorem if_eq (mp : Nat) (xo yo : Operand) : abin prog .eql 61 xo yo (.iface 28 (ptr mp)) .nilIface = some (.bool false) := by
  unfold abin
  rw [if_neg (by simp [vtop])]
  simp [nilEq, Try.underlying61]
section
variable {h : Hp} {K : Value → Hp → Prop} {wp : Nat} {mv : Value} {x : Ask} {a0 a1 a2 n : Nat}
theorem fail_call {f : Nat} (hw : h.blks wp = some ⟨wkA mv x a0 a1 a2 n, 1, true⟩) (hl : wp < h.next) (hK : K (resV (failR f a0 a1 a2 n)) h) : ACall prog 22 [ptr wp, .int .u8 f] h K := by
  refine acallF_of tb0 func22 rfl rfl mixed (by kernel_rfl) fun hwf => ?_
  have hn : ¬ wp = h.next := by omega
  unfold failR at hK
  simp -dsimp (disch := omega) [hw, hn]
  exact RetF.same (r := .agg #[.int .u8 f, .int .u64 0, .int .i64 0, .int .u64 0, .int .u64 a0, .int .u64 a1, .int .u64 a2, .int .i64 n]) hwf (by simp) (by simp [vtop, vtopL]) (fun i hi => by simp (disch := omega)) hK

/-- Where the next address goes. -/
def nx0 (n a0 y : Nat) : Nat := if n = 0 then y else a0
def nx1 (n a1 y : Nat) : Nat := if n = 1 then y else a1
def nx2 (n a2 y : Nat) : Nat := if n = 2 then y else a2
theorem read_call {m mp y : Nat} {v : Value} {L : List Wd} {k : Nat} (hw : h.blks wp = some ⟨wkA (mI mp) x a0 a1 a2 n, 1, true⟩) (hn : n < 3) (q : Mem m h mp v L k) (hl : L.length ≤ 1000) (hpm : wp ≠ mp) (hpv : sblk v ≠ some wp)
    (hK : K (.tuple #[.int .u64 (rdV L y), .bool (rdB L y)]) (h.set wp ⟨wkA (mI mp) x (nx0 n a0 y) (nx1 n a1 y) (nx2 n a2 y) (n + 1), 1, true⟩)) : ACall prog 24 [ptr wp, .int .u64 y] h K := by
  refine acallF_of tb0 func24 rfl rfl mixed (by kernel_rfl) fun hwf => ?_
  have q2 : Mem m (h.set wp ⟨wkA (mI mp) x (nx0 n a0 y) (nx1 n a1 y) (nx2 n a2 y) (n + 1), 1, true⟩) mp v L k :=
    ⟨by rw [blks_set_ne _ _ _ _ (Ne.symm hpm)]; exact q.blk, Row.set q.row _ _ hpv, q.lt, q.mm, q.mh, q.vr, q.ok⟩
  have key := fun (K' : Value → Hp → Prop) (hk : K' (.tuple #[.int .u64 (rdV L y), .bool (rdB L y)]) (h.set wp ⟨wkA (mI mp) x (nx0 n a0 y) (nx1 n a1 y) (nx2 n a2 y) (n + 1), 1, true⟩)) => wRead_call (x := y) q2 hl hk
  unfold nx0 nx1 nx2 at *
  rcases (by omega : n = 0 ∨ n = 1 ∨ n = 2) with rfl | rfl | rfl
  all_goals
    simp -dsimp (disch := omega) [hw]
    refine key _ ?_
    simp -dsimp (disch := omega)
    exact RetF.all (r := .tuple #[.int .u64 (rdV L y), .bool (rdB L y)]) (by simp) hK
/-- What a leaf becomes. -/
def nowN (x : Ask) (e : Nat) : Nat := if x.kind = 2 then e ||| 64 ||| 128 else e ||| 64
def leafOk (x : Ask) (i e : Nat) : Bool := allowedB e x && decide (pageN e % 2 ^ (9 * i) = 0)
def paL (x : Ask) (i e : Nat) : Nat := (pageN e + x.va / 4096 % 2 ^ (9 * i)) * 4096 + x.va % 4096
def fineR (x : Ask) (i e a0 a1 a2 n : Nat) : Res := ⟨0, paL x i e, i, nowN x e, a0, a1, a2, n⟩
def lastA (a0 a1 a2 n : Nat) : Nat := if n = 1 then a0 else if n = 2 then a1 else a2
def tb27 : Nat → Marks := fun k => if k = 9 then ⟨[2, 7, 17, 18], fun _ => True⟩ else ⟨[], fun _ => True⟩
@[simp] theorem tb27_l9 : (tb27 9).l = [2, 7, 17, 18] := rfl
@[simp] theorem tb27_l7 : (tb27 7).l = [] := rfl
@[simp] theorem tb27_R (k x : Nat) : (tb27 k).R x := by unfold tb27; split <;> trivial

set_option maxRecDepth 100000 in
set_option maxHeartbeats 4000000 in
theorem leaf_call {m mp i e : Nat} {v : Value} {L : List Wd} {k : Nat} (hw : h.blks wp = some ⟨wkA (mI mp) x a0 a1 a2 n, 1, true⟩) (hwl : wp < h.next) (hn : 0 < n ∧ n ≤ 3) (hi : i < 3) (he : e < 18446744073709551616) (ox : x.ok) (q : Mem m h mp v L k) (hl : L.length ≤ 1000) (hkk : k ≤ 1000) (hpm : wp ≠ mp) (hpv : sblk v ≠ some wp)
    (hK1 : leafOk x i e = false → K (resV (failR 1 a0 a1 a2 n)) h)
    (hK2 : leafOk x i e = true → nowN x e = e → ∀ h', h.next ≤ h'.next → (∀ i, i < h.next → i ≠ wp → h'.blks i = h.blks i) → K (resV (fineR x i e a0 a1 a2 n)) h')
    (hK3 : leafOk x i e = true → nowN x e ≠ e → wrB L (lastA a0 a1 a2 n) = false → K (resV (failR 2 a0 a1 a2 n)) h)
    (hK4 : leafOk x i e = true → nowN x e ≠ e → wrB L (lastA a0 a1 a2 n) = true → ∀ h', Mem m h' mp v (put1 L (lastA a0 a1 a2 n) (nowN x e)) (k + 1) → h.next ≤ h'.next → (∀ i, i < h.next → i ≠ wp → i ≠ mp → sblk v ≠ some i → h'.blks i = h.blks i) → K (resV (fineR x i e a0 a1 a2 n)) h') : ACall prog 27 [ptr wp, .int .i64 i, .int .u64 e] h K := by
  refine acallF_of tb27 func27 rfl rfl mixed (by kernel_rfl) fun hwf => ?_
  obtain ⟨H, hH⟩ : ∃ H, H = h.alloc ⟨#[.int .u8 0, .int .u64 0, .int .i64 0, .int .u64 0, .int .u64 0, .int .u64 0, .int .u64 0, .int .i64 0], 1, true⟩ := ⟨_, rfl⟩
  have hE : Ext h H := by rw [hH]; exact Ext.alloc h _
  have hwH : H.blks wp = some ⟨wkA (mI mp) x a0 a1 a2 n, 1, true⟩ := by rw [hE.same _ hwl]; exact hw
  have hB : H.blks h.next = some ⟨#[.int .u8 0, .int .u64 0, .int .i64 0, .int .u64 0, .int .u64 0, .int .u64 0, .int .u64 0, .int .i64 0], 1, true⟩ := by rw [hH]; exact blks_alloc_eq _ _
  have hnw : ¬ h.next = wp := by omega
  have hwn : ¬ wp = h.next := by omega
  have hNH : H.next = h.next + 1 := by rw [hH]; rfl
  have qH : Mem m H mp v L k := ⟨by rw [hE.same _ q.lt]; exact q.blk, q.row.mono hE.le fun b hb => hE.same _ (q.row.blk b hb).2, Nat.lt_of_lt_of_le q.lt hE.le, q.mm, Nat.le_trans q.mh hE.le, q.vr, q.ok⟩
  obtain ⟨mk, hmk⟩ : ∃ mk, mk = 2 ^ (9 * i) - 1 := ⟨_, rfl⟩
  have hp18 : 2 ^ (9 * i) ≤ 2 ^ 18 := Nat.pow_le_pow_right (by omega) (by omega)
  have hp0 : 0 < 2 ^ (9 * i) := Nat.pow_pos (by omega)
  have hmkl : mk < 18446744073709551616 := by omega
  have hpg : pageN e < 17592186044416 := Nat.mod_lt _ (by omega)
  have aW : ∀ (ty : TypeId) (xo yo : Operand), abin prog .and ty xo yo (.int .u64 (pageN e : Nat)) (.int .u64 (mk : Nat)) = some (.int .u64 ((pageN e % 2 ^ (9 * i) : Nat) : Int)) := abin_low (pageN e) (9 * i) mk (pageN e % 2 ^ (9 * i)) (by omega) (by omega) hmk rfl
  have hi9 : (9 : Int) * i = ((9 * i : Nat) : Int) := by omega
  have fl1 := fun (K' : Value → Hp → Prop) (hk : K' (resV (failR 1 a0 a1 a2 n)) H) => fail_call (f := 1) hwH (by omega) hk
  have aC := fun (K' : Value → Hp → Prop) (hk : K' (.bool (allowedB e x)) H) => allowed_call he ox hk
  have pC := fun (H' : Hp) (K' : Value → Hp → Prop) (hk : K' (.int .u64 (pageN e)) H') => page_call he hk
  have lC := fun (K' : Value → Hp → Prop) (hk : K' (.int .u64 (mk : Nat)) H) => low_call (n := 9 * i) (by omega) (by rw [← hmk]; exact hk)
  unfold askV at aC
  obtain ⟨o1, o2, o3, o4⟩ := ox
  simp -dsimp (disch := omega) [← hH]
  rw [hi9]
  refine lC _ ?_
  simp -dsimp (disch := omega) [hwH]
  refine aC _ ?_
  unfold leafOk at hK1 hK2 hK3 hK4
  cases hal : allowedB e x
  · simp -dsimp (disch := omega) [hwH]
    refine fl1 _ ?_
    unfold failR
    simp -dsimp (disch := omega) [hB]
    refine RetF.same (r := .agg #[.int .u8 1, .int .u64 0, .int .i64 0, .int .u64 0, .int .u64 a0, .int .u64 a1, .int .u64 a2, .int .i64 n]) hwf (by simp) (by simp [vtop, vtopL]) (fun j hj => ?_) (hK1 (by rw [hal]; rfl))
    rw [blks_set_ne _ _ _ _ (by omega)]; exact hE.same j hj
  · simp -dsimp (disch := omega) [hwH]
    refine pC _ _ ?_
    obtain ⟨g, hg⟩ : ∃ g, g = pageN e := ⟨_, rfl⟩
    rw [← hg] at aW hpg
    rw [← hg]
    obtain ⟨r, hr⟩ : ∃ r, r = g % 2 ^ (9 * i) := ⟨_, rfl⟩
    rw [← hr] at aW
    by_cases hr0 : r = 0
    · subst hr0
      have hok : (allowedB e x && decide (pageN e % 2 ^ (9 * i) = 0)) = true := by rw [hal, ← hg, ← hr]; rfl
      have hK2 := hK2 hok
      have hK3 := hK3 hok
      have hK4 := hK4 hok
      have e12 := shr_u64 x.va 12 (by omega)
      obtain ⟨d, hd⟩ : ∃ d, d = x.va / 4096 := ⟨_, rfl⟩
      rw [show x.va / 2 ^ 12 = d from hd.symm] at e12
      have hdl : d < 4503599627370496 := by omega
      have aV : ∀ (ty : TypeId) (xo yo : Operand), abin prog .and ty xo yo (.int .u64 (d : Nat)) (.int .u64 (mk : Nat)) = some (.int .u64 ((d % 2 ^ (9 * i) : Nat) : Int)) := abin_low d (9 * i) mk (d % 2 ^ (9 * i)) (by omega) (by omega) hmk rfl
      have hrvl : d % 2 ^ (9 * i) < 2 ^ (9 * i) := Nat.mod_lt _ hp0
      obtain ⟨rv, hrv⟩ : ∃ r, r = d % 2 ^ (9 * i) := ⟨_, rfl⟩
      rw [← hrv] at aV hrvl
      obtain ⟨t, ht⟩ : ∃ t, t = g + rv := ⟨_, rfl⟩
      have aJ1 := abin_join (P := prog) g rv (9 * i) hrvl hr.symm t ht (by omega)
      obtain ⟨T, hT⟩ : ∃ T, T = t * 4096 := ⟨_, rfl⟩
      have eT := shl_u64 t 12 (by omega) T (by rw [hT]) (by omega)
      have aU : ∀ (ty : TypeId) (xo yo : Operand), abin prog .and ty xo yo (.int .u64 (x.va : Nat)) (.int .u64 4095) = some (.int .u64 ((x.va % 4096 : Nat) : Int)) := abin_low x.va 12 4095 (x.va % 4096) (by omega) o1 (by rfl) rfl
      obtain ⟨u, hu⟩ : ∃ u, u = x.va % 4096 := ⟨_, rfl⟩
      rw [← hu] at aU
      obtain ⟨pa, hpa⟩ : ∃ p, p = T + u := ⟨_, rfl⟩
      have aJ2 := abin_join (P := prog) T u 12 (by omega) (by omega) pa hpa (by omega)
      have hpaE : paL x i e = pa := by unfold paL; rw [← hg, ← hd, ← hrv, ← ht, ← hu, ← hT, ← hpa]
      obtain ⟨E1, hE1⟩ : ∃ E, E = e ||| 64 := ⟨_, rfl⟩
      have o64 : ∀ (ty : TypeId) (xo yo : Operand), abin prog .or ty xo yo (.int .u64 (e : Nat)) (.int .u64 64) = some (.int .u64 (E1 : Nat)) := or_n e 64 E1 he (by omega) hE1
      have hE1l : E1 < 18446744073709551616 := by rw [hE1]; exact Nat.or_lt_two_pow (n := 64) he (by omega)
      obtain ⟨E2, hE2⟩ : ∃ E, E = E1 ||| 128 := ⟨_, rfl⟩
      have o128 : ∀ (ty : TypeId) (xo yo : Operand), abin prog .or ty xo yo (.int .u64 (E1 : Nat)) (.int .u64 128) = some (.int .u64 (E2 : Nat)) := or_n E1 128 E2 hE1l (by omega) hE2
      have hE2l : E2 < 18446744073709551616 := by rw [hE2]; exact Nat.or_lt_two_pow (n := 64) hE1l (by omega)
      have fl2 := fun (K' : Value → Hp → Prop) (hk : K' (resV (failR 2 a0 a1 a2 n)) H) => fail_call (f := 2) hwH (by omega) hk
      by_cases hk2 : x.kind = 2
      · have hk2' : (x.kind : Int) = 2 := by omega
        have hnow : nowN x e = E2 := by unfold nowN; rw [if_pos hk2, ← hE1, ← hE2]
        simp -dsimp (disch := omega) [hwH, aW, o64, o128, hk2', -abin_and, -abin_or]
        by_cases hne : E2 = e
        · have hne' : (E2 : Int) = e := by omega
          simp -dsimp (disch := omega) [hwH, hne, hne', e12, aV, aJ1, eT, aU, aJ2, -abin_and, -abin_or]
          refine pC _ _ ?_
          rw [← hg]
          simp -dsimp (disch := omega) [hwH, hne, hne', e12, aV, aJ1, eT, aU, aJ2, -abin_and, -abin_or]
          refine low_call (n := 12) (by omega) ?_
          rw [show ((2 ^ 12 - 1 : Nat) : Int) = 4095 from rfl]
          simp -dsimp (disch := omega) [hwH, hne, hne', e12, aV, aJ1, eT, aU, aJ2, hB, hnw, hwn, -abin_and, -abin_or]
          unfold fineR at hK2
          rw [hpaE, hnow, hne] at hK2
          refine RetF.all (r := resV ⟨0, pa, i, e, a0, a1, a2, n⟩) (by simp) (hK2 rfl _ ?_ fun j hj hj2 => ?_)
          · show h.next ≤ H.next
            omega
          · rw [blks_set_ne _ _ _ _ (by omega), blks_set_ne _ _ _ _ hj2]; exact hE.same j hj
        · have hne' : ¬ (E2 : Int) = e := by omega
          have wC := fun (y : Nat) (K' : Value → Hp → Prop) (a : _) (b : _) => wWrite_call (K := K') (x := y) (u := E2) qH hl hkk (by omega) a b
          rcases (by omega : n = 1 ∨ n = 2 ∨ n = 3) with rfl | rfl | rfl
          · simp -dsimp (disch := omega) [hwH, hne, hne', -abin_and, -abin_or]
            refine wC _ _ (fun hb H' q' hn' hs' => ?_) (fun hb => ?_)
            · have hw' : H'.blks wp = some ⟨wkA (mI mp) x a0 a1 a2 1, 1, true⟩ := by rw [hs' wp hpm hpv]; exact hwH
              have hB' : H'.blks h.next = some ⟨#[.int .u8 0, .int .u64 0, .int .i64 0, .int .u64 0, .int .u64 0, .int .u64 0, .int .u64 0, .int .i64 0], 1, true⟩ := by rw [hs' h.next (by have := q.lt; omega) (fun e => by have := (q.row.blk _ e).2; omega)]; exact hB
              simp -dsimp (disch := omega) [hw', hne, hne', e12, aV, aJ1, eT, aU, aJ2, -abin_and, -abin_or]
              refine pC _ _ ?_
              rw [← hg]
              simp -dsimp (disch := omega) [hw', hne, hne', e12, aV, aJ1, eT, aU, aJ2, -abin_and, -abin_or]
              refine low_call (n := 12) (by omega) ?_
              rw [show ((2 ^ 12 - 1 : Nat) : Int) = 4095 from rfl]
              simp -dsimp (disch := omega) [hw', hne, hne', e12, aV, aJ1, eT, aU, aJ2, hB', hnw, hwn, -abin_and, -abin_or]
              unfold fineR at hK4
              rw [hpaE, hnow] at hK4
              refine RetF.all (r := resV ⟨0, pa, i, E2, a0, a1, a2, 1⟩) (by simp) (hK4 hne hb _ ⟨?_, ?_, ?_, q.mm, ?_, q.vr, q'.ok⟩ ?_ fun j hj hj2 hj3 hj4 => ?_)
              · rw [blks_set_ne _ _ _ _ (by have := q.lt; omega), blks_set_ne _ _ _ _ (Ne.symm hpm)]; exact q'.blk
              · exact Row.set (Row.set q'.row _ _ hpv) _ _ (fun e => by have := (q.row.blk _ e).2; omega)
              · exact q'.lt
              · exact q'.mh
              · show h.next ≤ H'.next
                omega
              · rw [blks_set_ne _ _ _ _ (by omega), blks_set_ne _ _ _ _ hj2, hs' j hj3 hj4]; exact hE.same j hj
            · simp -dsimp (disch := omega) [hwH, hne, hne', -abin_and, -abin_or]
              refine fl2 _ ?_
              unfold failR
              simp -dsimp (disch := omega) [hB]
              refine RetF.same (r := .agg #[.int .u8 2, .int .u64 0, .int .i64 0, .int .u64 0, .int .u64 a0, .int .u64 a1, .int .u64 a2, .int .i64 1]) hwf (by simp) (by simp [vtop, vtopL]) (fun j hj => ?_) (hK3 (by rw [hnow]; exact hne) hb)
              rw [blks_set_ne _ _ _ _ (by omega)]; exact hE.same j hj
          · simp -dsimp (disch := omega) [hwH, hne, hne', -abin_and, -abin_or]
            refine wC _ _ (fun hb H' q' hn' hs' => ?_) (fun hb => ?_)
            · have hw' : H'.blks wp = some ⟨wkA (mI mp) x a0 a1 a2 2, 1, true⟩ := by rw [hs' wp hpm hpv]; exact hwH
              have hB' : H'.blks h.next = some ⟨#[.int .u8 0, .int .u64 0, .int .i64 0, .int .u64 0, .int .u64 0, .int .u64 0, .int .u64 0, .int .i64 0], 1, true⟩ := by rw [hs' h.next (by have := q.lt; omega) (fun e => by have := (q.row.blk _ e).2; omega)]; exact hB
              simp -dsimp (disch := omega) [hw', hne, hne', e12, aV, aJ1, eT, aU, aJ2, -abin_and, -abin_or]
              refine pC _ _ ?_
              rw [← hg]
              simp -dsimp (disch := omega) [hw', hne, hne', e12, aV, aJ1, eT, aU, aJ2, -abin_and, -abin_or]
              refine low_call (n := 12) (by omega) ?_
              rw [show ((2 ^ 12 - 1 : Nat) : Int) = 4095 from rfl]
              simp -dsimp (disch := omega) [hw', hne, hne', e12, aV, aJ1, eT, aU, aJ2, hB', hnw, hwn, -abin_and, -abin_or]
              unfold fineR at hK4
              rw [hpaE, hnow] at hK4
              refine RetF.all (r := resV ⟨0, pa, i, E2, a0, a1, a2, 2⟩) (by simp) (hK4 hne hb _ ⟨?_, ?_, ?_, q.mm, ?_, q.vr, q'.ok⟩ ?_ fun j hj hj2 hj3 hj4 => ?_)
              · rw [blks_set_ne _ _ _ _ (by have := q.lt; omega), blks_set_ne _ _ _ _ (Ne.symm hpm)]; exact q'.blk
              · exact Row.set (Row.set q'.row _ _ hpv) _ _ (fun e => by have := (q.row.blk _ e).2; omega)
              · exact q'.lt
              · exact q'.mh
              · show h.next ≤ H'.next
                omega
              · rw [blks_set_ne _ _ _ _ (by omega), blks_set_ne _ _ _ _ hj2, hs' j hj3 hj4]; exact hE.same j hj
            · simp -dsimp (disch := omega) [hwH, hne, hne', -abin_and, -abin_or]
              refine fl2 _ ?_
              unfold failR
              simp -dsimp (disch := omega) [hB]
              refine RetF.same (r := .agg #[.int .u8 2, .int .u64 0, .int .i64 0, .int .u64 0, .int .u64 a0, .int .u64 a1, .int .u64 a2, .int .i64 2]) hwf (by simp) (by simp [vtop, vtopL]) (fun j hj => ?_) (hK3 (by rw [hnow]; exact hne) hb)
              rw [blks_set_ne _ _ _ _ (by omega)]; exact hE.same j hj
          · simp -dsimp (disch := omega) [hwH, hne, hne', -abin_and, -abin_or]
            refine wC _ _ (fun hb H' q' hn' hs' => ?_) (fun hb => ?_)
            · have hw' : H'.blks wp = some ⟨wkA (mI mp) x a0 a1 a2 3, 1, true⟩ := by rw [hs' wp hpm hpv]; exact hwH
              have hB' : H'.blks h.next = some ⟨#[.int .u8 0, .int .u64 0, .int .i64 0, .int .u64 0, .int .u64 0, .int .u64 0, .int .u64 0, .int .i64 0], 1, true⟩ := by rw [hs' h.next (by have := q.lt; omega) (fun e => by have := (q.row.blk _ e).2; omega)]; exact hB
              simp -dsimp (disch := omega) [hw', hne, hne', e12, aV, aJ1, eT, aU, aJ2, -abin_and, -abin_or]
              refine pC _ _ ?_
              rw [← hg]
              simp -dsimp (disch := omega) [hw', hne, hne', e12, aV, aJ1, eT, aU, aJ2, -abin_and, -abin_or]
              refine low_call (n := 12) (by omega) ?_
              rw [show ((2 ^ 12 - 1 : Nat) : Int) = 4095 from rfl]
              simp -dsimp (disch := omega) [hw', hne, hne', e12, aV, aJ1, eT, aU, aJ2, hB', hnw, hwn, -abin_and, -abin_or]
              unfold fineR at hK4
              rw [hpaE, hnow] at hK4
              refine RetF.all (r := resV ⟨0, pa, i, E2, a0, a1, a2, 3⟩) (by simp) (hK4 hne hb _ ⟨?_, ?_, ?_, q.mm, ?_, q.vr, q'.ok⟩ ?_ fun j hj hj2 hj3 hj4 => ?_)
              · rw [blks_set_ne _ _ _ _ (by have := q.lt; omega), blks_set_ne _ _ _ _ (Ne.symm hpm)]; exact q'.blk
              · exact Row.set (Row.set q'.row _ _ hpv) _ _ (fun e => by have := (q.row.blk _ e).2; omega)
              · exact q'.lt
              · exact q'.mh
              · show h.next ≤ H'.next
                omega
              · rw [blks_set_ne _ _ _ _ (by omega), blks_set_ne _ _ _ _ hj2, hs' j hj3 hj4]; exact hE.same j hj
            · simp -dsimp (disch := omega) [hwH, hne, hne', -abin_and, -abin_or]
              refine fl2 _ ?_
              unfold failR
              simp -dsimp (disch := omega) [hB]
              refine RetF.same (r := .agg #[.int .u8 2, .int .u64 0, .int .i64 0, .int .u64 0, .int .u64 a0, .int .u64 a1, .int .u64 a2, .int .i64 3]) hwf (by simp) (by simp [vtop, vtopL]) (fun j hj => ?_) (hK3 (by rw [hnow]; exact hne) hb)
              rw [blks_set_ne _ _ _ _ (by omega)]; exact hE.same j hj
      · have hk2' : ¬ (x.kind : Int) = 2 := by omega
        have hnow : nowN x e = E1 := by unfold nowN; rw [if_neg hk2, ← hE1]
        simp -dsimp (disch := omega) [hwH, aW, o64, hk2', -abin_and, -abin_or]
        by_cases hne : E1 = e
        · have hne' : (E1 : Int) = e := by omega
          simp -dsimp (disch := omega) [hwH, hne, hne', e12, aV, aJ1, eT, aU, aJ2, -abin_and, -abin_or]
          refine pC _ _ ?_
          rw [← hg]
          simp -dsimp (disch := omega) [hwH, hne, hne', e12, aV, aJ1, eT, aU, aJ2, -abin_and, -abin_or]
          refine low_call (n := 12) (by omega) ?_
          rw [show ((2 ^ 12 - 1 : Nat) : Int) = 4095 from rfl]
          simp -dsimp (disch := omega) [hwH, hne, hne', e12, aV, aJ1, eT, aU, aJ2, hB, hnw, hwn, -abin_and, -abin_or]
          unfold fineR at hK2
          rw [hpaE, hnow, hne] at hK2
          refine RetF.all (r := resV ⟨0, pa, i, e, a0, a1, a2, n⟩) (by simp) (hK2 rfl _ ?_ fun j hj hj2 => ?_)
          · show h.next ≤ H.next
            omega
          · rw [blks_set_ne _ _ _ _ (by omega), blks_set_ne _ _ _ _ hj2]; exact hE.same j hj
        · have hne' : ¬ (E1 : Int) = e := by omega
          have wC := fun (y : Nat) (K' : Value → Hp → Prop) (a : _) (b : _) => wWrite_call (K := K') (x := y) (u := E1) qH hl hkk (by omega) a b
          rcases (by omega : n = 1 ∨ n = 2 ∨ n = 3) with rfl | rfl | rfl
          · simp -dsimp (disch := omega) [hwH, hne, hne', -abin_and, -abin_or]
            refine wC _ _ (fun hb H' q' hn' hs' => ?_) (fun hb => ?_)
            · have hw' : H'.blks wp = some ⟨wkA (mI mp) x a0 a1 a2 1, 1, true⟩ := by rw [hs' wp hpm hpv]; exact hwH
              have hB' : H'.blks h.next = some ⟨#[.int .u8 0, .int .u64 0, .int .i64 0, .int .u64 0, .int .u64 0, .int .u64 0, .int .u64 0, .int .i64 0], 1, true⟩ := by rw [hs' h.next (by have := q.lt; omega) (fun e => by have := (q.row.blk _ e).2; omega)]; exact hB
              simp -dsimp (disch := omega) [hw', hne, hne', e12, aV, aJ1, eT, aU, aJ2, -abin_and, -abin_or]
              refine pC _ _ ?_
              rw [← hg]
              simp -dsimp (disch := omega) [hw', hne, hne', e12, aV, aJ1, eT, aU, aJ2, -abin_and, -abin_or]
              refine low_call (n := 12) (by omega) ?_
              rw [show ((2 ^ 12 - 1 : Nat) : Int) = 4095 from rfl]
              simp -dsimp (disch := omega) [hw', hne, hne', e12, aV, aJ1, eT, aU, aJ2, hB', hnw, hwn, -abin_and, -abin_or]
              unfold fineR at hK4
              rw [hpaE, hnow] at hK4
              refine RetF.all (r := resV ⟨0, pa, i, E1, a0, a1, a2, 1⟩) (by simp) (hK4 hne hb _ ⟨?_, ?_, ?_, q.mm, ?_, q.vr, q'.ok⟩ ?_ fun j hj hj2 hj3 hj4 => ?_)
              · rw [blks_set_ne _ _ _ _ (by have := q.lt; omega), blks_set_ne _ _ _ _ (Ne.symm hpm)]; exact q'.blk
              · exact Row.set (Row.set q'.row _ _ hpv) _ _ (fun e => by have := (q.row.blk _ e).2; omega)
              · exact q'.lt
              · exact q'.mh
              · show h.next ≤ H'.next
                omega
              · rw [blks_set_ne _ _ _ _ (by omega), blks_set_ne _ _ _ _ hj2, hs' j hj3 hj4]; exact hE.same j hj
            · simp -dsimp (disch := omega) [hwH, hne, hne', -abin_and, -abin_or]
              refine fl2 _ ?_
              unfold failR
              simp -dsimp (disch := omega) [hB]
              refine RetF.same (r := .agg #[.int .u8 2, .int .u64 0, .int .i64 0, .int .u64 0, .int .u64 a0, .int .u64 a1, .int .u64 a2, .int .i64 1]) hwf (by simp) (by simp [vtop, vtopL]) (fun j hj => ?_) (hK3 (by rw [hnow]; exact hne) hb)
              rw [blks_set_ne _ _ _ _ (by omega)]; exact hE.same j hj
          · simp -dsimp (disch := omega) [hwH, hne, hne', -abin_and, -abin_or]
            refine wC _ _ (fun hb H' q' hn' hs' => ?_) (fun hb => ?_)
            · have hw' : H'.blks wp = some ⟨wkA (mI mp) x a0 a1 a2 2, 1, true⟩ := by rw [hs' wp hpm hpv]; exact hwH
              have hB' : H'.blks h.next = some ⟨#[.int .u8 0, .int .u64 0, .int .i64 0, .int .u64 0, .int .u64 0, .int .u64 0, .int .u64 0, .int .i64 0], 1, true⟩ := by rw [hs' h.next (by have := q.lt; omega) (fun e => by have := (q.row.blk _ e).2; omega)]; exact hB
              simp -dsimp (disch := omega) [hw', hne, hne', e12, aV, aJ1, eT, aU, aJ2, -abin_and, -abin_or]
              refine pC _ _ ?_
              rw [← hg]
              simp -dsimp (disch := omega) [hw', hne, hne', e12, aV, aJ1, eT, aU, aJ2, -abin_and, -abin_or]
              refine low_call (n := 12) (by omega) ?_
              rw [show ((2 ^ 12 - 1 : Nat) : Int) = 4095 from rfl]
              simp -dsimp (disch := omega) [hw', hne, hne', e12, aV, aJ1, eT, aU, aJ2, hB', hnw, hwn, -abin_and, -abin_or]
              unfold fineR at hK4
              rw [hpaE, hnow] at hK4
              refine RetF.all (r := resV ⟨0, pa, i, E1, a0, a1, a2, 2⟩) (by simp) (hK4 hne hb _ ⟨?_, ?_, ?_, q.mm, ?_, q.vr, q'.ok⟩ ?_ fun j hj hj2 hj3 hj4 => ?_)
              · rw [blks_set_ne _ _ _ _ (by have := q.lt; omega), blks_set_ne _ _ _ _ (Ne.symm hpm)]; exact q'.blk
              · exact Row.set (Row.set q'.row _ _ hpv) _ _ (fun e => by have := (q.row.blk _ e).2; omega)
              · exact q'.lt
              · exact q'.mh
              · show h.next ≤ H'.next
                omega
              · rw [blks_set_ne _ _ _ _ (by omega), blks_set_ne _ _ _ _ hj2, hs' j hj3 hj4]; exact hE.same j hj
            · simp -dsimp (disch := omega) [hwH, hne, hne', -abin_and, -abin_or]
              refine fl2 _ ?_
              unfold failR
              simp -dsimp (disch := omega) [hB]
              refine RetF.same (r := .agg #[.int .u8 2, .int .u64 0, .int .i64 0, .int .u64 0, .int .u64 a0, .int .u64 a1, .int .u64 a2, .int .i64 2]) hwf (by simp) (by simp [vtop, vtopL]) (fun j hj => ?_) (hK3 (by rw [hnow]; exact hne) hb)
              rw [blks_set_ne _ _ _ _ (by omega)]; exact hE.same j hj
          · simp -dsimp (disch := omega) [hwH, hne, hne', -abin_and, -abin_or]
            refine wC _ _ (fun hb H' q' hn' hs' => ?_) (fun hb => ?_)
            · have hw' : H'.blks wp = some ⟨wkA (mI mp) x a0 a1 a2 3, 1, true⟩ := by rw [hs' wp hpm hpv]; exact hwH
              have hB' : H'.blks h.next = some ⟨#[.int .u8 0, .int .u64 0, .int .i64 0, .int .u64 0, .int .u64 0, .int .u64 0, .int .u64 0, .int .i64 0], 1, true⟩ := by rw [hs' h.next (by have := q.lt; omega) (fun e => by have := (q.row.blk _ e).2; omega)]; exact hB
              simp -dsimp (disch := omega) [hw', hne, hne', e12, aV, aJ1, eT, aU, aJ2, -abin_and, -abin_or]
              refine pC _ _ ?_
              rw [← hg]
              simp -dsimp (disch := omega) [hw', hne, hne', e12, aV, aJ1, eT, aU, aJ2, -abin_and, -abin_or]
              refine low_call (n := 12) (by omega) ?_
              rw [show ((2 ^ 12 - 1 : Nat) : Int) = 4095 from rfl]
              simp -dsimp (disch := omega) [hw', hne, hne', e12, aV, aJ1, eT, aU, aJ2, hB', hnw, hwn, -abin_and, -abin_or]
              unfold fineR at hK4
              rw [hpaE, hnow] at hK4
              refine RetF.all (r := resV ⟨0, pa, i, E1, a0, a1, a2, 3⟩) (by simp) (hK4 hne hb _ ⟨?_, ?_, ?_, q.mm, ?_, q.vr, q'.ok⟩ ?_ fun j hj hj2 hj3 hj4 => ?_)
              · rw [blks_set_ne _ _ _ _ (by have := q.lt; omega), blks_set_ne _ _ _ _ (Ne.symm hpm)]; exact q'.blk
              · exact Row.set (Row.set q'.row _ _ hpv) _ _ (fun e => by have := (q.row.blk _ e).2; omega)
              · exact q'.lt
              · exact q'.mh
              · show h.next ≤ H'.next
                omega
              · rw [blks_set_ne _ _ _ _ (by omega), blks_set_ne _ _ _ _ hj2, hs' j hj3 hj4]; exact hE.same j hj
            · simp -dsimp (disch := omega) [hwH, hne, hne', -abin_and, -abin_or]
              refine fl2 _ ?_
              unfold failR
              simp -dsimp (disch := omega) [hB]
              refine RetF.same (r := .agg #[.int .u8 2, .int .u64 0, .int .i64 0, .int .u64 0, .int .u64 a0, .int .u64 a1, .int .u64 a2, .int .i64 3]) hwf (by simp) (by simp [vtop, vtopL]) (fun j hj => ?_) (hK3 (by rw [hnow]; exact hne) hb)
              rw [blks_set_ne _ _ _ _ (by omega)]; exact hE.same j hj
    · have hr0' : ¬ (r : Int) = 0 := by omega
      simp -dsimp (disch := omega) [hwH, aW, hr0, hr0', -abin_and]
      refine fl1 _ ?_
      unfold failR
      simp -dsimp (disch := omega) [hB]
      refine RetF.same (r := .agg #[.int .u8 1, .int .u64 0, .int .i64 0, .int .u64 0, .int .u64 a0, .int .u64 a1, .int .u64 a2, .int .i64 n]) hwf (by simp) (by simp [vtop, vtopL]) (fun j hj => ?_) (hK1 (by rw [hal, ← hg, ← hr, decide_eq_false hr0]; rfl))
      rw [blks_set_ne _ _ _ _ (by omega)]; exact hE.same j hj
end
end Go.Proofs.Ytkddajmfljlhiaa
