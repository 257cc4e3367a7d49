/-
  WalkWider.
-/
import Derived.Test.YtkddajmfljlhiaaW6
import Derived.Test.YtkddajmfljlhiaaV3
set_option linter.unusedSimpArgs false
set_option linter.unusedVariables false
namespace Go.Proofs.Ytkddajmfljlhiaa
open Go Go.Mini Go.Proofs.Try

def tb6 : Nat → Marks := fun k => if k = 5 ∨ k = 12 then ⟨[1, 3, 4, 1000000, 2000005], fun _ => True⟩ else if k = 15 then ⟨[1, 2, 3, 8, 9, 10, 1000000, 2000004, 2000005, 2000006, 2000007], fun _ => True⟩ else if k = 22 ∨ k = 25 then ⟨[1, 3, 4, 6, 8, 1000000, 2000010, 2000011], fun _ => True⟩ else ⟨[], fun _ => True⟩
@[simp] theorem tb6_l5 : (tb6 5).l = [1, 3, 4, 1000000, 2000005] := rfl
@[simp] theorem tb6_l12 : (tb6 12).l = [1, 3, 4, 1000000, 2000005] := rfl
@[simp] theorem tb6_l15 : (tb6 15).l = [1, 2, 3, 8, 9, 10, 1000000, 2000004, 2000005, 2000006, 2000007] := rfl
@[simp] theorem tb6_l22 : (tb6 22).l = [1, 3, 4, 6, 8, 1000000, 2000010, 2000011] := rfl
@[simp] theorem tb6_l25 : (tb6 25).l = [1, 3, 4, 6, 8, 1000000, 2000010, 2000011] := rfl
theorem ACallF.gen {P : Program} {f : FuncId} {args : List Value} {h : Hp} {K : Value → Hp → Prop} {u : Tag K} (H : ∀ G, G = h → ACall P f args G K) : ACallF P f args h K u := H h rfl
section
variable {h : Hp} {K : Value → Hp → Prop}
set_option maxRecDepth 100000 in
set_option maxHeartbeats 4000000 in
theorem walkWider_call {l : List Wd} {v : Value} {va sa ki mo : Nat} {su mx : Bool} (hv : Sl h 4 l.length (wdsC l) v) (hok : ∀ e ∈ l, e.ok) (ox : va < 18446744073709551616 ∧ sa < 18446744073709551616 ∧ ki < 256 ∧ mo < 256) (hmax : l.length < 9223372036854775808)
    (hK : K (.bool true) h) : ACall prog 6 [v, .agg #[.int .u64 va, .int .u64 sa, .int .u8 ki, .int .u8 mo, .bool su, .bool mx]] h K := by
  refine acallF_of tb6 func6 rfl rfl mixed (by kernel_rfl) fun hwf => ?_
  have hvb : ∀ b, sblk v = some b → b < h.next := sblk_lt (hwf.args v (by simp))
  obtain ⟨q1, q2, q3, q4⟩ := ox
  obtain ⟨va0, vc0, rfl⟩ := hv.slice
  by_cases hl : 60 < l.length
  · have hl' : (60 : Int) < l.length := by omega
    simp -dsimp (disch := omega) [hl, hl']
    refine awake_call ?_
    simp -dsimp (disch := omega)
    exact RetF.same (r := .bool true) hwf (by simp) (Nat.zero_le _) (Ext.alloc h _).same hK
  · have hl' : ¬ (60 : Int) < l.length := by omega
    obtain ⟨G, hG⟩ : ∃ G, G = h.alloc ⟨#[.int .u64 va, .int .u64 sa, .int .u8 ki, .int .u8 mo, .bool false, .bool false], 1, true⟩ := ⟨_, rfl⟩
    have EG : Ext h G := by rw [hG]; exact Ext.alloc h _
    have gN : G.next = h.next + 1 := by rw [hG]; rfl
    have gA : G.blks h.next = some ⟨#[.int .u64 va, .int .u64 sa, .int .u8 ki, .int .u8 mo, .bool false, .bool false], 1, true⟩ := by rw [hG]; exact blks_alloc_eq _ _
    have hvE : ∀ (H : Hp), (∀ i, i < h.next → H.blks i = h.blks i) → Sl H 4 l.length (wdsC l) (.slice va0 l.length vc0) := fun H hH => hv.mono fun b hb => hH _ (hvb b hb)
    have ox : Ask.ok ⟨va, sa, ki, mo, false, false⟩ := ⟨q1, q2, q3, q4⟩
    obtain ⟨x, hx⟩ : ∃ x : Ask, x = ⟨va, sa, ki, mo, false, false⟩ := ⟨_, rfl⟩
    simp -dsimp (disch := omega) [hl, hl', ← hG]
    refine of_call (l := l) (hvE G EG.same) (fun b e => by have := hvb b e; omega) (by omega) hok fun h1 mp v1 E1 p1 => ?_
    have le1 := E1.le
    have a1 : h1.blks h.next = _ := (E1.same _ (by omega)).trans gA
    have t1 : ∀ R, SameR R G.next G h1 := fun R j hj _ => E1.same j hj
    have nlt : h.next < G.next := by omega
    simp -dsimp (disch := omega) [a1, t1, nlt]
    refine walk_new (x := ⟨va, sa, ki, mo, false, false⟩) p1 (by omega) (by omega) ox fun h2 p2 n2 s2 => ?_
    have t2 : SameR ((tb6 5).at G.next).R h1.next h1 h2 := fun j hj hR => s2 j (by simpa using hR)
    have wS := fun (s m : Bool) => @wider_sum l ⟨va, sa, ki, mo, false, false⟩ ⟨va, sa, ki, mo, s, m⟩ rfl rfl rfl rfl rfl rfl
    obtain ⟨r, hr⟩ : ∃ r, r = (walkF l ⟨va, sa, ki, mo, false, false⟩).1 := ⟨_, rfl⟩
    rw [← hr] at wS ⊢
    obtain ⟨J, hJ⟩ : ∃ J, J = h2.alloc ⟨#[.int .u8 r.f, .int .u64 r.pa, .int .i64 r.lv, .int .u64 r.pte, .int .u64 r.a0, .int .u64 r.a1, .int .u64 r.a2, .int .i64 r.n], 1, true⟩ := ⟨_, rfl⟩
    have jN : J.next = h2.next + 1 := by rw [hJ]; rfl
    have jR : J.blks h2.next = some ⟨#[.int .u8 r.f, .int .u64 r.pa, .int .i64 r.lv, .int .u64 r.pte, .int .u64 r.a0, .int .u64 r.a1, .int .u64 r.a2, .int .i64 r.n], 1, true⟩ := by rw [hJ]; exact blks_alloc_eq _ _
    have jsame : ∀ i, i < G.next → J.blks i = G.blks i := fun i hi => by rw [hJ, blks_alloc_ne _ _ _ (by omega), s2 i hi, E1.same i hi]
    have jA : J.blks h.next = _ := (jsame _ nlt).trans gA
    have hs0 : ∀ i, i < h.next → J.blks i = h.blks i := fun i hi => by rw [jsame i (by omega), EG.same i hi]
    simp -dsimp (disch := omega) [t2, ← hJ]
    refine awpF_of (awp_loop (fun t h' => ∃ k : Nat, 1 ≤ k ∧ k ≤ 4 ∧ t 0 = .slice va0 l.length vc0 ∧ t 3 = ptr h.next ∧ t 5 = ptr h2.next ∧ t 6 = .int .i64 k ∧ J.next ≤ h'.next ∧ ∀ i, i < J.next → h'.blks i = J.blks i) (fun t _ => 4 - ivN (t 6)) ?_ ?_)
    · exact ⟨1, by omega, by omega, by simp, by simp, by simp, by simp, Nat.le_refl _, fun _ _ => rfl⟩
    · rintro t h' ⟨k, hk1, hk4, g0, g3, g5, g6, hn', hs'⟩
      refine vcF_sound mixed (tb := tb6) _ (by kernel_rfl) ?_
      have a2 : h'.blks h.next = _ := (hs' _ (by omega)).trans jA
      have b2 : h'.blks h2.next = _ := (hs' _ (by omega)).trans jR
      rcases (by omega : k = 4 ∨ k = 1 ∨ k = 2 ∨ k = 3) with rfl | rfl | rfl | rfl
      · have nlt2 : h.next < h'.next := by omega
        simp -dsimp (disch := omega) [g0, g3, g5, g6, a2, b2, nlt2]
        refine ⟨?_, ?_, ?_, ?_⟩
        iterate 3
          · intro j hj hR
            have hR' : j < h'.next := by simpa using hR
            simp (disch := omega)
        refine ACallF.gen fun S hS => ?_
        rw [← hS]
        have sN : S.next = h'.next + 4 := by rw [hS]; rfl
        have sS : S.blks h'.next = some ⟨#[.int .u64 va, .int .u64 sa, .int .u8 2, .int .u8 mo, .bool false, .bool false], 1, true⟩ := by rw [hS]; simp (disch := omega)
        have sL : S.blks (h'.next + 1) = some ⟨#[.int .u64 va, .int .u64 sa, .int .u8 1, .int .u8 mo, .bool false, .bool false], 1, true⟩ := by rw [hS]; simp (disch := omega)
        have sU : S.blks (h'.next + 2) = some ⟨#[.int .u64 va, .int .u64 sa, .int .u8 0, .int .u8 0, .bool false, .bool false], 1, true⟩ := by rw [hS]; simp (disch := omega)
        have sP : S.blks (h'.next + 3) = some ⟨#[.int .u64 va, .int .u64 sa, .int .u8 0, .int .u8 1, .bool false, .bool false], 1, true⟩ := by rw [hS]; simp (disch := omega)
        have ssame : ∀ i, i < h'.next → S.blks i = h'.blks i := fun i hi => by rw [hS]; simp (disch := omega)
        have hvS : ∀ (H : Hp), (∀ i, i < h.next → H.blks i = S.blks i) → Sl H 4 l.length (wdsC l) (.slice va0 l.length vc0) := fun H hH => hvE H fun i hi => by rw [hH i hi, ssame i (by omega), hs' i (by omega), hs0 i hi]
        clear a2 b2
        refine of_call (l := l) (hvS S fun _ _ => rfl) (fun b e => by have := hvb b e; omega) (by omega) hok fun c1 m1 u1 C1 z1 => ?_
        have d1 := C1.le
        have k1 : ∀ R, SameR R S.next S c1 := fun R j hj _ => C1.same j hj
        have yS : c1.blks h'.next = _ := (C1.same _ (by omega)).trans sS
        have nS : h'.next < S.next := by omega
        simp -dsimp (disch := omega) [g0, yS, k1, nS]
        refine walk_new (x := ⟨va, sa, 2, mo, false, false⟩) z1 (by omega) (by omega) ⟨q1, q2, by show 2 < 256; omega, q4⟩ fun c2 z2 d2 e2 => ?_
        have k2 : SameR ((tb6 22).at S.next).R c1.next c1 c2 := fun j hj hR => e2 j (by simpa using hR)
        have wSt := @wider_store l ⟨va, sa, 2, mo, false, false⟩ ⟨va, sa, 1, mo, false, false⟩ rfl rfl rfl rfl rfl rfl
        obtain ⟨rs, hrs⟩ : ∃ r, r = (walkF l ⟨va, sa, 2, mo, false, false⟩).1 := ⟨_, rfl⟩
        obtain ⟨rl, hrl⟩ : ∃ r, r = (walkF l ⟨va, sa, 1, mo, false, false⟩).1 := ⟨_, rfl⟩
        rw [← hrs, ← hrl] at wSt
        rw [← hrs]
        simp -dsimp (disch := omega) [g0, k2]
        refine of_call (l := l) (hvS c2 fun i hi => by rw [e2 i (by omega), C1.same i (by omega)]) (fun b e => by have := hvb b e; omega) (by omega) hok fun c3 m3 u3 C3 z3 => ?_
        have d3 := C3.le
        have k3 : ∀ R, SameR R c2.next c2 c3 := fun R j hj _ => C3.same j hj
        have same3 : ∀ i, i < S.next → c3.blks i = S.blks i := fun i hi => by rw [C3.same i (by omega), e2 i (by omega), C1.same i (by omega)]
        have yL : c3.blks (h'.next + 1) = _ := (same3 _ (by omega)).trans sL
        have nL : h'.next + 1 < S.next := by omega
        simp -dsimp (disch := omega) [g0, yL, k3, nL]
        refine walk_new (x := ⟨va, sa, 1, mo, false, false⟩) z3 (by omega) (by omega) ⟨q1, q2, by show 1 < 256; omega, q4⟩ fun c4 z4 d4 e4 => ?_
        rw [← hrl]
        have k4 : SameR ((tb6 22).at S.next).R c3.next c3 c4 := fun j hj hR => e4 j (Nat.lt_of_lt_of_le (by simpa using hR) (by omega))
        obtain ⟨T, hT⟩ : ∃ T, T = (c4.alloc ⟨#[.int .u8 rs.f, .int .u64 rs.pa, .int .i64 rs.lv, .int .u64 rs.pte, .int .u64 rs.a0, .int .u64 rs.a1, .int .u64 rs.a2, .int .i64 rs.n], 1, true⟩).alloc ⟨#[.int .u8 rl.f, .int .u64 rl.pa, .int .i64 rl.lv, .int .u64 rl.pte, .int .u64 rl.a0, .int .u64 rl.a1, .int .u64 rl.a2, .int .i64 rl.n], 1, true⟩ := ⟨_, rfl⟩
        have tN : T.next = c4.next + 2 := by rw [hT]; rfl
        have tS : T.blks c4.next = some ⟨#[.int .u8 rs.f, .int .u64 rs.pa, .int .i64 rs.lv, .int .u64 rs.pte, .int .u64 rs.a0, .int .u64 rs.a1, .int .u64 rs.a2, .int .i64 rs.n], 1, true⟩ := by rw [hT]; simp (disch := omega)
        have tL : T.blks (c4.next + 1) = some ⟨#[.int .u8 rl.f, .int .u64 rl.pa, .int .i64 rl.lv, .int .u64 rl.pte, .int .u64 rl.a0, .int .u64 rl.a1, .int .u64 rl.a2, .int .i64 rl.n], 1, true⟩ := by rw [hT]; simp (disch := omega)
        have tsame : ∀ i, i < S.next → T.blks i = S.blks i := fun i hi => by rw [hT, blks_alloc_ne _ _ _ (by simp; omega), blks_alloc_ne _ _ _ (by omega), e4 i (by omega), same3 i hi]
        simp -dsimp (disch := omega) [g0, k4, ← hT]
        have tU : T.blks (h'.next + 2) = _ := (tsame _ (by omega)).trans sU
        have tP : T.blks (h'.next + 3) = _ := (tsame _ (by omega)).trans sP
        have hus := fun hb => @wider_fetch l ⟨va, sa, 0, 0, false, false⟩ ⟨va, sa, 0, 1, false, false⟩ rfl rfl rfl rfl rfl rfl hb
        obtain ⟨ru, hru⟩ : ∃ r, r = (walkF l ⟨va, sa, 0, 0, false, false⟩).1 := ⟨_, rfl⟩
        obtain ⟨rp, hrp⟩ : ∃ r, r = (walkF l ⟨va, sa, 0, 1, false, false⟩).1 := ⟨_, rfl⟩
        rw [← hru, ← hrp] at hus
        rcases (by omega : rs.f = 0 ∨ ¬ rs.f = 0) with hf | hf
        · obtain ⟨wf1, wf2, wf3⟩ := wSt hf
          have hf' : (rs.f : Int) = 0 := by omega
          have hl0 : (rl.f : Int) = 0 := by omega
          have hpa : (rl.pa : Int) = rs.pa := by omega
          have hlv : (rl.lv : Int) = rs.lv := by omega
          simp -dsimp (disch := omega) [g0, tS, tL, hf, hf', wf1, hl0, wf2, hpa, wf3, hlv]
          refine of_call (l := l) (hvS T fun i hi => tsame i (by omega)) (fun b e => by have := hvb b e; omega) (by omega) hok fun v1 m5 u5 C5 z5 => ?_
          have d5 := C5.le
          have k5 : ∀ R, SameR R T.next T v1 := fun R j hj _ => C5.same j hj
          have yU : v1.blks (h'.next + 2) = _ := (C5.same _ (by omega)).trans tU
          have nU : h'.next + 2 < T.next := by omega
          simp -dsimp (disch := omega) [g0, yU, k5, nU]
          refine walk_new (x := ⟨va, sa, 0, 0, false, false⟩) z5 (by omega) (by omega) ⟨q1, q2, by show 0 < 256; omega, by show 0 < 256; omega⟩ fun v2 z6 d6 e6 => ?_
          have k6 : SameR ((tb6 25).at T.next).R v1.next v1 v2 := fun j hj hR => e6 j (by simpa using hR)
          rw [← hru]
          simp -dsimp (disch := omega) [g0, k6]
          refine of_call (l := l) (hvS v2 fun i hi => by rw [e6 i (by omega), C5.same i (by omega), tsame i (by omega)]) (fun b e => by have := hvb b e; omega) (by omega) hok fun v3 m7 u7 C7 z7 => ?_
          have d7 := C7.le
          have k7 : ∀ R, SameR R v2.next v2 v3 := fun R j hj _ => C7.same j hj
          have same7 : ∀ i, i < T.next → v3.blks i = T.blks i := fun i hi => by rw [C7.same i (by omega), e6 i (by omega), C5.same i (by omega)]
          have yP : v3.blks (h'.next + 3) = _ := (same7 _ (by omega)).trans tP
          have nP : h'.next + 3 < T.next := by omega
          simp -dsimp (disch := omega) [g0, yP, k7, nP]
          refine walk_new (x := ⟨va, sa, 0, 1, false, false⟩) z7 (by omega) (by omega) ⟨q1, q2, by show 0 < 256; omega, by show 1 < 256; omega⟩ fun v4 z8 d8 e8 => ?_
          rw [← hrp]
          have k8 : SameR ((tb6 25).at T.next).R v3.next v3 v4 := fun j hj hR => e8 j (Nat.lt_of_lt_of_le (by simpa using hR) (by omega))
          obtain ⟨V, hV⟩ : ∃ V, V = (v4.alloc ⟨#[.int .u8 ru.f, .int .u64 ru.pa, .int .i64 ru.lv, .int .u64 ru.pte, .int .u64 ru.a0, .int .u64 ru.a1, .int .u64 ru.a2, .int .i64 ru.n], 1, true⟩).alloc ⟨#[.int .u8 rp.f, .int .u64 rp.pa, .int .i64 rp.lv, .int .u64 rp.pte, .int .u64 rp.a0, .int .u64 rp.a1, .int .u64 rp.a2, .int .i64 rp.n], 1, true⟩ := ⟨_, rfl⟩
          have vN : V.next = v4.next + 2 := by rw [hV]; rfl
          have vU : V.blks v4.next = some ⟨#[.int .u8 ru.f, .int .u64 ru.pa, .int .i64 ru.lv, .int .u64 ru.pte, .int .u64 ru.a0, .int .u64 ru.a1, .int .u64 ru.a2, .int .i64 ru.n], 1, true⟩ := by rw [hV]; simp (disch := omega)
          have vP : V.blks (v4.next + 1) = some ⟨#[.int .u8 rp.f, .int .u64 rp.pa, .int .i64 rp.lv, .int .u64 rp.pte, .int .u64 rp.a0, .int .u64 rp.a1, .int .u64 rp.a2, .int .i64 rp.n], 1, true⟩ := by rw [hV]; simp (disch := omega)
          have vsame : ∀ i, i < T.next → V.blks i = T.blks i := fun i hi => by rw [hV, blks_alloc_ne _ _ _ (by simp; omega), blks_alloc_ne _ _ _ (by omega), e8 i (by omega), same7 i hi]
          have vX : V.blks (h'.next + 2) = _ := (vsame _ (by omega)).trans tU
          have hs9 : ∀ i, i < h.next → V.blks i = h.blks i := fun i hi => by rw [vsame i (by omega), tsame i (by omega), ssame i (by omega), hs' i (by omega), hs0 i hi]
          simp -dsimp (disch := omega) [g0, k8, ← hV]
          simp -dsimp (disch := omega) [g0, vX]
          refine bare_call (x := ⟨va, sa, 0, 0, false, false⟩) ⟨q1, q2, by show 0 < 256; omega, by show 0 < 256; omega⟩ ?_
          cases hbu : bareB ⟨va, sa, 0, 0, false, false⟩
          · have hus := hus hbu
            rcases (by omega : ru.f = 0 ∨ ¬ ru.f = 0) with hu0 | hu0
            · have hp0 : ¬ rp.f = 0 := fun e => hus ⟨hu0, e⟩
              have hu0' : (ru.f : Int) = 0 := by omega
              have hp0' : ¬ (rp.f : Int) = 0 := by omega
              simp -dsimp (disch := omega) [g0, vU, vP, hu0, hu0', hp0, hp0']
              refine awake_call ?_
              simp -dsimp (disch := omega) [g0, vU, vP, hu0, hu0', hp0, hp0']
              exact RetF.same (r := .bool true) hwf (by simp) (Nat.zero_le _) hs9 hK
            · have hu0' : ¬ (ru.f : Int) = 0 := by omega
              simp -dsimp (disch := omega) [g0, vU, vP, hu0, hu0']
              refine awake_call ?_
              simp -dsimp (disch := omega) [g0, vU, vP, hu0, hu0']
              exact RetF.same (r := .bool true) hwf (by simp) (Nat.zero_le _) hs9 hK
          · simp -dsimp (disch := omega) [g0]
            refine awake_call ?_
            simp -dsimp (disch := omega) [g0]
            exact RetF.same (r := .bool true) hwf (by simp) (Nat.zero_le _) hs9 hK
        · have hf' : ¬ (rs.f : Int) = 0 := by omega
          simp -dsimp (disch := omega) [g0, tS, tL, hf, hf']
          refine of_call (l := l) (hvS T fun i hi => tsame i (by omega)) (fun b e => by have := hvb b e; omega) (by omega) hok fun v1 m5 u5 C5 z5 => ?_
          have d5 := C5.le
          have k5 : ∀ R, SameR R T.next T v1 := fun R j hj _ => C5.same j hj
          have yU : v1.blks (h'.next + 2) = _ := (C5.same _ (by omega)).trans tU
          have nU : h'.next + 2 < T.next := by omega
          simp -dsimp (disch := omega) [g0, yU, k5, nU]
          refine walk_new (x := ⟨va, sa, 0, 0, false, false⟩) z5 (by omega) (by omega) ⟨q1, q2, by show 0 < 256; omega, by show 0 < 256; omega⟩ fun v2 z6 d6 e6 => ?_
          have k6 : SameR ((tb6 25).at T.next).R v1.next v1 v2 := fun j hj hR => e6 j (by simpa using hR)
          rw [← hru]
          simp -dsimp (disch := omega) [g0, k6]
          refine of_call (l := l) (hvS v2 fun i hi => by rw [e6 i (by omega), C5.same i (by omega), tsame i (by omega)]) (fun b e => by have := hvb b e; omega) (by omega) hok fun v3 m7 u7 C7 z7 => ?_
          have d7 := C7.le
          have k7 : ∀ R, SameR R v2.next v2 v3 := fun R j hj _ => C7.same j hj
          have same7 : ∀ i, i < T.next → v3.blks i = T.blks i := fun i hi => by rw [C7.same i (by omega), e6 i (by omega), C5.same i (by omega)]
          have yP : v3.blks (h'.next + 3) = _ := (same7 _ (by omega)).trans tP
          have nP : h'.next + 3 < T.next := by omega
          simp -dsimp (disch := omega) [g0, yP, k7, nP]
          refine walk_new (x := ⟨va, sa, 0, 1, false, false⟩) z7 (by omega) (by omega) ⟨q1, q2, by show 0 < 256; omega, by show 1 < 256; omega⟩ fun v4 z8 d8 e8 => ?_
          rw [← hrp]
          have k8 : SameR ((tb6 25).at T.next).R v3.next v3 v4 := fun j hj hR => e8 j (Nat.lt_of_lt_of_le (by simpa using hR) (by omega))
          obtain ⟨V, hV⟩ : ∃ V, V = (v4.alloc ⟨#[.int .u8 ru.f, .int .u64 ru.pa, .int .i64 ru.lv, .int .u64 ru.pte, .int .u64 ru.a0, .int .u64 ru.a1, .int .u64 ru.a2, .int .i64 ru.n], 1, true⟩).alloc ⟨#[.int .u8 rp.f, .int .u64 rp.pa, .int .i64 rp.lv, .int .u64 rp.pte, .int .u64 rp.a0, .int .u64 rp.a1, .int .u64 rp.a2, .int .i64 rp.n], 1, true⟩ := ⟨_, rfl⟩
          have vN : V.next = v4.next + 2 := by rw [hV]; rfl
          have vU : V.blks v4.next = some ⟨#[.int .u8 ru.f, .int .u64 ru.pa, .int .i64 ru.lv, .int .u64 ru.pte, .int .u64 ru.a0, .int .u64 ru.a1, .int .u64 ru.a2, .int .i64 ru.n], 1, true⟩ := by rw [hV]; simp (disch := omega)
          have vP : V.blks (v4.next + 1) = some ⟨#[.int .u8 rp.f, .int .u64 rp.pa, .int .i64 rp.lv, .int .u64 rp.pte, .int .u64 rp.a0, .int .u64 rp.a1, .int .u64 rp.a2, .int .i64 rp.n], 1, true⟩ := by rw [hV]; simp (disch := omega)
          have vsame : ∀ i, i < T.next → V.blks i = T.blks i := fun i hi => by rw [hV, blks_alloc_ne _ _ _ (by simp; omega), blks_alloc_ne _ _ _ (by omega), e8 i (by omega), same7 i hi]
          have vX : V.blks (h'.next + 2) = _ := (vsame _ (by omega)).trans tU
          have hs9 : ∀ i, i < h.next → V.blks i = h.blks i := fun i hi => by rw [vsame i (by omega), tsame i (by omega), ssame i (by omega), hs' i (by omega), hs0 i hi]
          simp -dsimp (disch := omega) [g0, k8, ← hV]
          simp -dsimp (disch := omega) [g0, vX]
          refine bare_call (x := ⟨va, sa, 0, 0, false, false⟩) ⟨q1, q2, by show 0 < 256; omega, by show 0 < 256; omega⟩ ?_
          cases hbu : bareB ⟨va, sa, 0, 0, false, false⟩
          · have hus := hus hbu
            rcases (by omega : ru.f = 0 ∨ ¬ ru.f = 0) with hu0 | hu0
            · have hp0 : ¬ rp.f = 0 := fun e => hus ⟨hu0, e⟩
              have hu0' : (ru.f : Int) = 0 := by omega
              have hp0' : ¬ (rp.f : Int) = 0 := by omega
              simp -dsimp (disch := omega) [g0, vU, vP, hu0, hu0', hp0, hp0']
              refine awake_call ?_
              simp -dsimp (disch := omega) [g0, vU, vP, hu0, hu0', hp0, hp0']
              exact RetF.same (r := .bool true) hwf (by simp) (Nat.zero_le _) hs9 hK
            · have hu0' : ¬ (ru.f : Int) = 0 := by omega
              simp -dsimp (disch := omega) [g0, vU, vP, hu0, hu0']
              refine awake_call ?_
              simp -dsimp (disch := omega) [g0, vU, vP, hu0, hu0']
              exact RetF.same (r := .bool true) hwf (by simp) (Nat.zero_le _) hs9 hK
          · simp -dsimp (disch := omega) [g0]
            refine awake_call ?_
            simp -dsimp (disch := omega) [g0]
            exact RetF.same (r := .bool true) hwf (by simp) (Nat.zero_le _) hs9 hK
      · obtain ⟨wA, wB⟩ := wS true false
        have oy : Ask.ok ⟨va, sa, ki, mo, true, false⟩ := ⟨q1, q2, q3, q4⟩
        obtain ⟨H, hH⟩ : ∃ H, H = h'.alloc ⟨#[.int .u64 va, .int .u64 sa, .int .u8 ki, .int .u8 mo, .bool true, .bool false], 1, true⟩ := ⟨_, rfl⟩
        have EH : Ext h' H := by rw [hH]; exact Ext.alloc _ _
        have HN : H.next = h'.next + 1 := by rw [hH]; rfl
        have HY : H.blks h'.next = some ⟨#[.int .u64 va, .int .u64 sa, .int .u8 ki, .int .u8 mo, .bool true, .bool false], 1, true⟩ := by rw [hH]; exact blks_alloc_eq _ _
        have hHJ : ∀ i, i < J.next → H.blks i = J.blks i := fun i hi => by rw [EH.same i (by omega), hs' i hi]
        simp -dsimp (disch := omega) [g0, g3, g5, g6, a2, b2]
        rw [← hH]
        refine of_call (l := l) (hvE H fun i hi => by rw [hHJ i (by omega), hs0 i hi]) (fun b e => by have := hvb b e; omega) (by omega) hok fun h4 mp2 v4 E4 p4 => ?_
        have le4 := E4.le
        have y4 : h4.blks h'.next = _ := (E4.same _ (by omega)).trans HY
        have t4 : ∀ R, SameR R H.next H h4 := fun R j hj _ => E4.same j hj
        have nlt4 : h'.next < H.next := by omega
        simp -dsimp (disch := omega) [g0, g3, g5, g6, y4, t4, nlt4]
        refine walk_new (x := ⟨va, sa, ki, mo, true, false⟩) p4 (by omega) (by omega) oy fun h5 p5 n5 s5 => ?_
        have t5 : SameR ((tb6 12).at H.next).R h4.next h4 h5 := fun j hj hR => s5 j (by simpa using hR)
        have sm5 : ∀ i, i < J.next → h5.blks i = J.blks i := fun i hi => by rw [s5 i (by omega), E4.same i (by omega), hHJ i hi]
        obtain ⟨s, hs⟩ : ∃ s, s = (walkF l ⟨va, sa, ki, mo, true, false⟩).1 := ⟨_, rfl⟩
        rw [← hs] at wA wB ⊢
        obtain ⟨Q, hQ⟩ : ∃ Q, Q = h5.alloc ⟨#[.int .u8 s.f, .int .u64 s.pa, .int .i64 s.lv, .int .u64 s.pte, .int .u64 s.a0, .int .u64 s.a1, .int .u64 s.a2, .int .i64 s.n], 1, true⟩ := ⟨_, rfl⟩
        have qN : Q.next = h5.next + 1 := by rw [hQ]; rfl
        have qS : Q.blks h5.next = some ⟨#[.int .u8 s.f, .int .u64 s.pa, .int .i64 s.lv, .int .u64 s.pte, .int .u64 s.a0, .int .u64 s.a1, .int .u64 s.a2, .int .i64 s.n], 1, true⟩ := by rw [hQ]; exact blks_alloc_eq _ _
        have qsame : ∀ i, i < J.next → Q.blks i = J.blks i := fun i hi => by rw [hQ, blks_alloc_ne _ _ _ (by omega), sm5 i hi]
        have qR : Q.blks h2.next = _ := (qsame _ (by omega)).trans jR
        simp -dsimp (disch := omega) [g0, g3, g5, g6, t5, ← hQ]
        by_cases hrf : r.f = 0
        · have hsr := wA hrf
          subst hsr
          have hrf' : (s.f : Int) = 0 := by omega
          simp -dsimp (disch := omega) [g0, g3, g5, g6, qR, qS, hrf, hrf']
          exact ⟨⟨1 + 1, by omega, by omega, by rfl, by omega, qsame⟩, by simp [ivN]⟩
        · have hrf' : ¬ (r.f : Int) = 0 := by omega
          by_cases hsf : s.f = 0
          · have hr2 := wB hsf
            have hsf' : (s.f : Int) = 0 := by omega
            have hr2' : ¬ (r.f : Int) = 2 := by omega
            simp -dsimp (disch := omega) [g0, g3, g5, g6, qR, qS, hrf, hrf', hsf, hsf', hr2, hr2']
            exact ⟨⟨1 + 1, by omega, by omega, by rfl, by omega, qsame⟩, by simp [ivN]⟩
          · have hsf' : ¬ (s.f : Int) = 0 := by omega
            simp -dsimp (disch := omega) [g0, g3, g5, g6, qR, qS, hrf, hrf', hsf, hsf']
            exact ⟨⟨1 + 1, by omega, by omega, by rfl, by omega, qsame⟩, by simp [ivN]⟩
      · obtain ⟨wA, wB⟩ := wS false true
        have oy : Ask.ok ⟨va, sa, ki, mo, false, true⟩ := ⟨q1, q2, q3, q4⟩
        obtain ⟨H, hH⟩ : ∃ H, H = h'.alloc ⟨#[.int .u64 va, .int .u64 sa, .int .u8 ki, .int .u8 mo, .bool false, .bool true], 1, true⟩ := ⟨_, rfl⟩
        have EH : Ext h' H := by rw [hH]; exact Ext.alloc _ _
        have HN : H.next = h'.next + 1 := by rw [hH]; rfl
        have HY : H.blks h'.next = some ⟨#[.int .u64 va, .int .u64 sa, .int .u8 ki, .int .u8 mo, .bool false, .bool true], 1, true⟩ := by rw [hH]; exact blks_alloc_eq _ _
        have hHJ : ∀ i, i < J.next → H.blks i = J.blks i := fun i hi => by rw [EH.same i (by omega), hs' i hi]
        simp -dsimp (disch := omega) [g0, g3, g5, g6, a2, b2]
        rw [← hH]
        refine of_call (l := l) (hvE H fun i hi => by rw [hHJ i (by omega), hs0 i hi]) (fun b e => by have := hvb b e; omega) (by omega) hok fun h4 mp2 v4 E4 p4 => ?_
        have le4 := E4.le
        have y4 : h4.blks h'.next = _ := (E4.same _ (by omega)).trans HY
        have t4 : ∀ R, SameR R H.next H h4 := fun R j hj _ => E4.same j hj
        have nlt4 : h'.next < H.next := by omega
        simp -dsimp (disch := omega) [g0, g3, g5, g6, y4, t4, nlt4]
        refine walk_new (x := ⟨va, sa, ki, mo, false, true⟩) p4 (by omega) (by omega) oy fun h5 p5 n5 s5 => ?_
        have t5 : SameR ((tb6 12).at H.next).R h4.next h4 h5 := fun j hj hR => s5 j (by simpa using hR)
        have sm5 : ∀ i, i < J.next → h5.blks i = J.blks i := fun i hi => by rw [s5 i (by omega), E4.same i (by omega), hHJ i hi]
        obtain ⟨s, hs⟩ : ∃ s, s = (walkF l ⟨va, sa, ki, mo, false, true⟩).1 := ⟨_, rfl⟩
        rw [← hs] at wA wB ⊢
        obtain ⟨Q, hQ⟩ : ∃ Q, Q = h5.alloc ⟨#[.int .u8 s.f, .int .u64 s.pa, .int .i64 s.lv, .int .u64 s.pte, .int .u64 s.a0, .int .u64 s.a1, .int .u64 s.a2, .int .i64 s.n], 1, true⟩ := ⟨_, rfl⟩
        have qN : Q.next = h5.next + 1 := by rw [hQ]; rfl
        have qS : Q.blks h5.next = some ⟨#[.int .u8 s.f, .int .u64 s.pa, .int .i64 s.lv, .int .u64 s.pte, .int .u64 s.a0, .int .u64 s.a1, .int .u64 s.a2, .int .i64 s.n], 1, true⟩ := by rw [hQ]; exact blks_alloc_eq _ _
        have qsame : ∀ i, i < J.next → Q.blks i = J.blks i := fun i hi => by rw [hQ, blks_alloc_ne _ _ _ (by omega), sm5 i hi]
        have qR : Q.blks h2.next = _ := (qsame _ (by omega)).trans jR
        simp -dsimp (disch := omega) [g0, g3, g5, g6, t5, ← hQ]
        by_cases hrf : r.f = 0
        · have hsr := wA hrf
          subst hsr
          have hrf' : (s.f : Int) = 0 := by omega
          simp -dsimp (disch := omega) [g0, g3, g5, g6, qR, qS, hrf, hrf']
          exact ⟨⟨2 + 1, by omega, by omega, by rfl, by omega, qsame⟩, by simp [ivN]⟩
        · have hrf' : ¬ (r.f : Int) = 0 := by omega
          by_cases hsf : s.f = 0
          · have hr2 := wB hsf
            have hsf' : (s.f : Int) = 0 := by omega
            have hr2' : ¬ (r.f : Int) = 2 := by omega
            simp -dsimp (disch := omega) [g0, g3, g5, g6, qR, qS, hrf, hrf', hsf, hsf', hr2, hr2']
            exact ⟨⟨2 + 1, by omega, by omega, by rfl, by omega, qsame⟩, by simp [ivN]⟩
          · have hsf' : ¬ (s.f : Int) = 0 := by omega
            simp -dsimp (disch := omega) [g0, g3, g5, g6, qR, qS, hrf, hrf', hsf, hsf']
            exact ⟨⟨2 + 1, by omega, by omega, by rfl, by omega, qsame⟩, by simp [ivN]⟩
      · obtain ⟨wA, wB⟩ := wS true true
        have oy : Ask.ok ⟨va, sa, ki, mo, true, true⟩ := ⟨q1, q2, q3, q4⟩
        obtain ⟨H, hH⟩ : ∃ H, H = h'.alloc ⟨#[.int .u64 va, .int .u64 sa, .int .u8 ki, .int .u8 mo, .bool true, .bool true], 1, true⟩ := ⟨_, rfl⟩
        have EH : Ext h' H := by rw [hH]; exact Ext.alloc _ _
        have HN : H.next = h'.next + 1 := by rw [hH]; rfl
        have HY : H.blks h'.next = some ⟨#[.int .u64 va, .int .u64 sa, .int .u8 ki, .int .u8 mo, .bool true, .bool true], 1, true⟩ := by rw [hH]; exact blks_alloc_eq _ _
        have hHJ : ∀ i, i < J.next → H.blks i = J.blks i := fun i hi => by rw [EH.same i (by omega), hs' i hi]
        simp -dsimp (disch := omega) [g0, g3, g5, g6, a2, b2]
        rw [← hH]
        refine of_call (l := l) (hvE H fun i hi => by rw [hHJ i (by omega), hs0 i hi]) (fun b e => by have := hvb b e; omega) (by omega) hok fun h4 mp2 v4 E4 p4 => ?_
        have le4 := E4.le
        have y4 : h4.blks h'.next = _ := (E4.same _ (by omega)).trans HY
        have t4 : ∀ R, SameR R H.next H h4 := fun R j hj _ => E4.same j hj
        have nlt4 : h'.next < H.next := by omega
        simp -dsimp (disch := omega) [g0, g3, g5, g6, y4, t4, nlt4]
        refine walk_new (x := ⟨va, sa, ki, mo, true, true⟩) p4 (by omega) (by omega) oy fun h5 p5 n5 s5 => ?_
        have t5 : SameR ((tb6 12).at H.next).R h4.next h4 h5 := fun j hj hR => s5 j (by simpa using hR)
        have sm5 : ∀ i, i < J.next → h5.blks i = J.blks i := fun i hi => by rw [s5 i (by omega), E4.same i (by omega), hHJ i hi]
        obtain ⟨s, hs⟩ : ∃ s, s = (walkF l ⟨va, sa, ki, mo, true, true⟩).1 := ⟨_, rfl⟩
        rw [← hs] at wA wB ⊢
        obtain ⟨Q, hQ⟩ : ∃ Q, Q = h5.alloc ⟨#[.int .u8 s.f, .int .u64 s.pa, .int .i64 s.lv, .int .u64 s.pte, .int .u64 s.a0, .int .u64 s.a1, .int .u64 s.a2, .int .i64 s.n], 1, true⟩ := ⟨_, rfl⟩
        have qN : Q.next = h5.next + 1 := by rw [hQ]; rfl
        have qS : Q.blks h5.next = some ⟨#[.int .u8 s.f, .int .u64 s.pa, .int .i64 s.lv, .int .u64 s.pte, .int .u64 s.a0, .int .u64 s.a1, .int .u64 s.a2, .int .i64 s.n], 1, true⟩ := by rw [hQ]; exact blks_alloc_eq _ _
        have qsame : ∀ i, i < J.next → Q.blks i = J.blks i := fun i hi => by rw [hQ, blks_alloc_ne _ _ _ (by omega), sm5 i hi]
        have qR : Q.blks h2.next = _ := (qsame _ (by omega)).trans jR
        simp -dsimp (disch := omega) [g0, g3, g5, g6, t5, ← hQ]
        by_cases hrf : r.f = 0
        · have hsr := wA hrf
          subst hsr
          have hrf' : (s.f : Int) = 0 := by omega
          simp -dsimp (disch := omega) [g0, g3, g5, g6, qR, qS, hrf, hrf']
          exact ⟨⟨3 + 1, by omega, by omega, by rfl, by omega, qsame⟩, by simp [ivN]⟩
        · have hrf' : ¬ (r.f : Int) = 0 := by omega
          by_cases hsf : s.f = 0
          · have hr2 := wB hsf
            have hsf' : (s.f : Int) = 0 := by omega
            have hr2' : ¬ (r.f : Int) = 2 := by omega
            simp -dsimp (disch := omega) [g0, g3, g5, g6, qR, qS, hrf, hrf', hsf, hsf', hr2, hr2']
            exact ⟨⟨3 + 1, by omega, by omega, by rfl, by omega, qsame⟩, by simp [ivN]⟩
          · have hsf' : ¬ (s.f : Int) = 0 := by omega
            simp -dsimp (disch := omega) [g0, g3, g5, g6, qR, qS, hrf, hrf', hsf, hsf']
            exact ⟨⟨3 + 1, by omega, by omega, by rfl, by omega, qsame⟩, by simp [ivN]⟩
end
end Go.Proofs.Ytkddajmfljlhiaa
