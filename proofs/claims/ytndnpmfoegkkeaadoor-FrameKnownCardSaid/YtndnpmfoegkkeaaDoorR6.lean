/-
  FrameTells: the law's body.
-/
import Derived.Test.YtndnpmfoegkkeaaDoorR5
set_option linter.unusedSimpArgs false
set_option linter.unusedVariables false
set_option linter.unusedSectionVars false
namespace Go.Proofs.YtndnpmfoegkkeaaDoor
open Go Go.Mini Go.Proofs.Tryd
set_option maxRecDepth 100000

def tb3 : Nat → Marks := fun k => if k = 7 then ⟨[8, 9], fun _ => True⟩ else if k = 15 then ⟨[3, 6, 12, 18, 21, 31, 34, 36], fun _ => True⟩ else ⟨[], fun _ => True⟩
@[simp] theorem tb3_l7 : (tb3 7).l = [8, 9] := rfl
@[simp] theorem tb3_l15 : (tb3 15).l = [3, 6, 12, 18, 21, 31, 34, 36] := rfl
@[simp] theorem tb3_l24 : (tb3 24).l = [] := rfl
@[simp] theorem tb3_R (k x : Nat) : (tb3 k).R x := by unfold tb3; (repeat' split) <;> trivial
def ownV (l : List Win) (g x : Nat) : Int := IntKind.u64.wrap (IntKind.u64.wrap ((x / sumS l : Nat) * (aheadF l g (sumS l) : Nat)) + (aheadF l g (x % sumS l) : Nat))
section
variable {h : Hp} {K : Value → Hp → Prop} {p : Nat} {l : List Win}
theorem owned2_call {g x : Nat} (q : Tab h p l) (hok : ∀ w ∈ l, w.ok) (hl : 0 < l.length) (hl2 : l.length ≤ 32) (hs : sumS l ≤ 1024) (hs0 : 0 < sumS l) (hx : x < 18446744073709551616) (hK : K (.int .u64 (ownV l g x)) h) : ACall prog 17 [ptr p, .int .u8 g, .int .u64 x] h K :=
  owned_call q hok hl hl2 (by omega) hs0 hx fun r hr => by rw [hr]; exact hK
theorem refOwned2_call {g x M : Nat} {v : Value} (hr : Row M h 1 (sumS l) ((frL l).map u8V) v) (hs : sumS l ≤ 1024) (hs0 : 0 < sumS l) (hx : x < 18446744073709551616) (hK : K (.int .u64 (ownV l g x)) h) : ACall prog 18 [v, .int .u8 g, .int .u64 x] h K := by
  have hl := frL_len l
  refine refOwned_call (f := frL l) (M := M) (by rw [hl]; exact hr) (by omega) (by omega) hx fun r e => ?_
  rw [hl, cntL_all, cntL_ahead _ (Nat.le_of_lt (Nat.mod_lt _ hs0))] at e
  rw [e]; exact hK
theorem count2_call {g : Nat} {v : Value} (hv : Sl h 1 (sumS l) ((frL l).map u8V) v) (hs : sumS l ≤ 1024) (hK : K (.int .u64 (aheadF l g (sumS l) : Nat)) h) : ACall prog 16 [v, .int .u8 g] h K := by
  have hl := frL_len l
  refine count_call (f := frL l) (by rw [hl]; exact hv) (by omega) ?_
  rw [cntL_all]; exact hK
theorem fel {v : Value} {y x : Nat} (hv : Sl h 1 (sumS l) ((frL l).map u8V) v) (hk : (frL l)[y]? = some x) : ∃ a c b, v = .slice (some a) (sumS l) c ∧ h.blks a.block = some b ∧ b.cells[a.off + y]? = some (.int .u8 (x : Nat)) := by
  have hl := frL_len l
  have h1 := el8 (f := frL l) (by rw [hl]; exact hv) hk
  rw [hl] at h1
  exact h1
end
section
variable {h : Hp} {K : Value → Hp → Prop}
set_option maxHeartbeats 4000000 in
theorem frameTells_call {l : List Win} {v w : Value} {gs : Int} {m : List Ask} (hok : ∀ w ∈ l, w.ok) (hv : Sl h 2 l.length (winsC l) v) (hl : l.length < 9223372036854775808) (mok : ∀ a ∈ m, a.ok) (mv : Sl h 2 m.length (m.flatMap askC) w) (hm : m.length < 9223372036854775808) (ht : PowAt h) (hK : ∀ h', K (.bool true) h') : ACall prog 3 [v, .int .i64 gs, w] h K := by
  refine acallF_of tb3 func3 rfl rfl mixed (by kernel_rfl) fun hwf => ?_
  have h100 : 100 < h.next := hwf.lt _ _ ht
  have hvb := sblk_lt (hwf.args v (by simp))
  have mvb := sblk_lt (hwf.args w (by simp))
  obtain ⟨va, vc, rfl⟩ := hv.slice
  obtain ⟨wa, wc, rfl⟩ := mv.slice
  obtain ⟨G, hG⟩ : ∃ G, G = (h.alloc ⟨#[.slice va l.length vc], 1, true⟩).alloc ⟨#[.bool false], 1, true⟩ := ⟨_, rfl⟩
  have gn : G.next = h.next + 2 := by rw [hG]; rfl
  have gs' : ∀ i, i < h.next → G.blks i = h.blks i := fun i hi => by rw [hG]; simp (disch := omega)
  have g0 : G.blks h.next = some ⟨#[.slice va l.length vc], 1, true⟩ := by rw [hG]; simp (disch := omega)
  have g1 : G.blks (h.next + 1) = some ⟨#[.bool false], 1, true⟩ := by rw [hG]; simp (disch := omega)
  have eG : Ext h G := ⟨by omega, gs'⟩
  have hv1 : Sl G 2 l.length (winsC l) (.slice va l.length vc) := hv.mono fun b hb => gs' b (hvb b hb)
  have done : ∀ {R : Hp}, R.blks (h.next + 1) = some ⟨#[.bool false], 1, true⟩ → True := fun _ => trivial
  by_cases hc : 60 < l.length
  · have hc' : (60 : Int) < l.length := by omega
    simp -dsimp (disch := omega) [← hG, g0, hc, hc']
    refine awake_call ?_
    simp -dsimp (disch := omega) [g1]
    exact RetF.all (r := .bool true) (by simp) (hK _)
  have hc' : ¬ (60 : Int) < l.length := by omega
  by_cases mc : 40 < m.length
  · have mc' : (40 : Int) < m.length := by omega
    simp -dsimp (disch := omega) [← hG, g0, hc, hc', mc, mc']
    refine awake_call ?_
    simp -dsimp (disch := omega) [g1]
    exact RetF.all (r := .bool true) (by simp) (hK _)
  have mc' : ¬ (40 : Int) < m.length := by omega
  simp -dsimp (disch := omega) [← hG, g0, hc, hc', mc, mc']
  refine refCheck_call hok hv1 hl ?_
  by_cases h0 : checkW l gs = 0
  · rw [h0]
    obtain ⟨hl0, hl32, hN, hpos, -, -, -, -⟩ := check_ok h0
    have hN0 : 0 < sumS l := by
      obtain ⟨w, hw⟩ : ∃ w, l[0]? = some w := ⟨l[0], List.getElem?_eq_getElem hl0⟩
      have h1 : sumS (l.take 1) = sumS (l.take 0) + w.s := sumS_succ hw
      have h2 := sumS_all l (k := 1)
      have h3 := hpos w (List.mem_of_getElem? hw)
      omega
    simp -dsimp (disch := omega) [← hG, g0]
    refine new_call hok hv1 hl (fun hne => absurd h0 hne) (fun _ _ H p e1 hp q => ?_)
    have e1n := e1.le
    have b0 : H.blks h.next = some ⟨#[.slice va l.length vc], 1, true⟩ := (e1.same _ (by omega)).trans g0
    have hv2 : Sl H 2 l.length (winsC l) (.slice va l.length vc) := hv1.mono fun b hb => e1.same b (by have := hvb b hb; omega)
    simp -dsimp (disch := omega) [b0]
    refine frame_call hok hv2 hl hN (fun H2 f e2 hf => ?_)
    have e12 : Ext G H2 := e1.trans e2
    have e12n := e12.le
    have q2 := q.mono e2
    have b02 : H2.blks h.next = some ⟨#[.slice va l.length vc], 1, true⟩ := (e12.same _ (by omega)).trans g0
    have b12 : H2.blks (h.next + 1) = some ⟨#[.bool false], 1, true⟩ := (e12.same _ (by omega)).trans g1
    have old2 : ∀ i, i < h.next → H2.blks i = h.blks i := fun i hi => (e12.same i (by omega)).trans (gs' i hi)
    have pw2 : PowAt H2 := by unfold PowAt; rw [old2 _ h100]; exact ht
    have hv3 : Sl H2 2 l.length (winsC l) (.slice va l.length vc) := hv.mono fun b hb => old2 b (hvb b hb)
    have mv3 : Sl H2 2 m.length (m.flatMap askC) (.slice wa m.length wc) := mv.mono fun b hb => old2 b (mvb b hb)
    have hfs := row_sl hf
    have hfb : ∀ b, sblk f = some b → b < H2.next := fun b hb => (hf.blk b hb).2
    obtain ⟨fa, fc, rfl⟩ := hf.slice
    have hn2 : h.next + 2 ≤ H2.next := by omega
    clear hG g0 g1 e1 e2 b0 hv1 hv2 q hp e1n gn gs'
    obtain ⟨N, hNe⟩ : ∃ N, N = sumS l := ⟨_, rfl⟩
    simp -dsimp (disch := omega)
    refine length_call q2 hl0 ?_
    simp -dsimp (disch := omega)
    refine text_call q2 hok hl0 hl32 pw2 ?_
    simp -dsimp (disch := omega) [b02]
    refine refText_call hok hv3 hl32 ?_
    simp -dsimp (disch := omega)
    have hst : ∀ x y : Nat, y = x % sumS l → (x : Int) % (sumS l : Nat) = y := fun x y e => by rw [e]; simp
    refine awp_loop (fun t h' => Ext H2 h' ∧ ∃ k : Nat, k ≤ m.length ∧ t 2 = .slice wa m.length wc ∧ t 3 = ptr h.next ∧ t 6 = ptr (h.next + 1) ∧ t 7 = ptr p ∧ t 9 = .slice fa (sumS l) fc ∧ t 10 = .int .i64 k) (fun t _ => m.length - ivN (t 10)) ?_ ?_
    · simp -dsimp (disch := omega)
      exact ⟨Ext.refl _, 0, by omega, rfl⟩
    · rintro t h' ⟨e3, k, hk, t2, t3, t6, t7, t9, t10⟩
      have e3n := e3.le
      refine vcF_sound mixed (tb := tb3) _ (by kernel_rfl) ?_
      by_cases hkn : k < m.length
      · have hkn' : (k : Int) < m.length := by omega
        obtain ⟨ak, hx⟩ : ∃ ak, m[k]? = some ak := ⟨m[k], List.getElem?_eq_getElem (by omega)⟩
        have aok := mok ak (List.mem_of_getElem? hx)
        have mv4 : Sl h' 2 m.length (m.flatMap askC) (.slice wa m.length wc) := mv3.mono fun b hb => e3.same b (by have := mvb b hb; omega)
        obtain ⟨a', c', b', q3, fa', s1, x1, y1⟩ := sl_el (f := askC) (n := 2) askC_len mv4 hx
        obtain ⟨q3, q4⟩ : wa = some a' ∧ wc = c' := by simpa using q3
        have x1' : b'.cells.extract (a'.off + k * 2) (a'.off + k * 2 + 2) = #[.int .u8 ak.g, .int .u64 ak.x] := x1
        clear x1 y1
        obtain ⟨g, x⟩ := ak
        obtain ⟨aok1, aok2⟩ := aok
        simp only at x1' aok1 aok2
        obtain ⟨Z, hZ⟩ : ∃ Z, Z = h'.alloc ⟨#[.int .u8 g, .int .u64 x], 1, true⟩ := ⟨_, rfl⟩
        have eZ : Ext H2 Z := by rw [hZ]; exact e3.then_alloc _
        have zb : Z.blks h'.next = some ⟨#[.int .u8 g, .int .u64 x], 1, true⟩ := by rw [hZ]; simp
        have qz : Tab Z p l := q2.mono eZ
        have rz : Row H.next Z 1 (sumS l) ((frL l).map u8V) (.slice fa (sumS l) fc) := hf.mono eZ.le fun b hb => eZ.same b (hfb b hb)
        have sz := row_sl rz
        rw [q3, q4] at t2
        simp -dsimp (disch := omega) [t2, t3, t6, t7, t9, t10, hkn, hkn', fa', s1, x1', ← hZ, zb, -getElem?_pos]
        refine next2_call qz hok hl0 hl32 hN hN0 hpos aok2 (fun R hR => ?_)
        simp -dsimp (disch := omega) [t2, t3, t6, t7, t9, t10, zb, -getElem?_pos]
        refine refNext2_call hR sz hN hN0 aok2 ?_
        simp -dsimp (disch := omega) [t2, t3, t6, t7, t9, t10, zb, -getElem?_pos]
        refine owner_call qz hok hl0 hl32 (by omega) hN0 aok2 (fun i w hi a1 a2 => ?_)
        obtain ⟨y, hy⟩ : ∃ y, y = x % sumS l := ⟨_, rfl⟩
        have em := hst x y hy
        have em' : Int.tmod (x : Int) (sumS l : Nat) = y := by rw [Int.tmod_eq_emod_of_nonneg (by omega)]; exact em
        rw [← hy] at a1 a2
        obtain ⟨a5, c5, b5, q5, f5, y5⟩ := fel sz (frL_at hi a1 a2)
        obtain ⟨q5, q6⟩ : fa = some a5 ∧ fc = c5 := by simpa using q5
        rw [q5, q6] at t9
        have yN : y < sumS l := by rw [hy]; exact Nat.mod_lt _ hN0
        simp -dsimp (disch := omega) [t2, t3, t6, t7, t9, t10, zb, em, em', f5, y5, -getElem?_pos]
        refine budget_call qz hok hl0 hl32 (by omega) ?_
        have t9' : t 9 = .slice fa (sumS l) fc := by rw [t9, q5, q6]
        rw [← q5, ← q6] at t9
        simp -dsimp (disch := omega) [t2, t3, t6, t7, t9, t10, zb, em, em', f5, y5, -getElem?_pos]
        refine count2_call sz hN ?_
        simp -dsimp (disch := omega) [t2, t3, t6, t7, t9, t10, zb, em, em', f5, y5, -getElem?_pos]
        refine owned2_call qz hok hl0 hl32 hN hN0 aok2 ?_
        simp -dsimp (disch := omega) [t2, t3, t6, t7, t9, t10, zb, em, em', f5, y5, -getElem?_pos]
        refine refOwned2_call rz hN hN0 aok2 ?_
        simp -dsimp (disch := omega) [t2, t3, t6, t7, t9, t10, zb, em, em', f5, y5, -getElem?_pos]
        exact ⟨⟨eZ, k + 1, by omega, ⟨q3.symm, q4.symm⟩, by simp⟩, by simp [ivN]; omega⟩
      · obtain rfl : k = m.length := by omega
        simp -dsimp (disch := omega) [t2, t3, t6, t7, t9, t10]
        refine windows_call ?_
        simp -dsimp (disch := omega) [t2, t3, t6, t7, t9, t10]
        refine awpF_gen fun T G3 hT hG => ?_
        obtain ⟨B, hB⟩ : ∃ B, B = h'.next := ⟨_, rfl⟩
        have gn : G3.next = B + 3 := by rw [hG, hB]; simp
        have gs : ∀ i, i < B → G3.blks i = h'.blks i := fun i hi => by rw [hG]; simp (disch := omega)
        have g0 : G3.blks B = some ⟨#[ptr p], 1, true⟩ := by rw [hG, hB]; simp (disch := omega)
        have g1 : G3.blks (B + 1) = some ⟨#[.int .i64 0], 1, true⟩ := by rw [hG, hB]; simp (disch := omega)
        have g2 : G3.blks (B + 2) = some ⟨#[.int .u64 0], 1, true⟩ := by rw [hG, hB]; simp (disch := omega)
        have T145 : T 145 = .func (.func 29) #[] #[ptr B] := by rw [hT, hB]; rfl
        have T3 : T 3 = ptr h.next := by rw [hT]; simp [t3]
        have T6 : T 6 = ptr (h.next + 1) := by rw [hT]; simp [t6]
        have T17 : T 17 = ptr (B + 1) := by rw [hT, hB]; simp
        have T18 : T 18 = ptr (B + 2) := by rw [hT, hB]; simp
        clear hT hG
        have c0 : h'.blks h.next = some ⟨#[.slice va l.length vc], 1, true⟩ := (e3.same _ (by omega)).trans b02
        have c1 : h'.blks (h.next + 1) = some ⟨#[.bool false], 1, true⟩ := (e3.same _ (by omega)).trans b12
        have hB2 : h.next + 2 ≤ B := by omega
        have hv5 : Sl h' 2 l.length (winsC l) (.slice va l.length vc) := hv3.mono fun b hb => e3.same b (by have := hvb b hb; omega)
        have qB : Tab h' p l := q2.mono e3
        obtain ⟨J, hJ⟩ : ∃ J : Nat → Hp → Prop, J = fun k hh => hh.jump = none ∧ B + 4 ≤ hh.next ∧ (∀ i, i < B → hh.blks i = h'.blks i) ∧ hh.blks B = some ⟨#[ptr p], 1, true⟩ ∧ hh.blks (B + 1) = some ⟨#[.int .i64 (k : Nat)], 1, true⟩ ∧ hh.blks (B + 2) = some ⟨#[.int .u64 (sumS (l.take k) : Nat)], 1, true⟩ := ⟨_, rfl⟩
        refine awp_rangeN (fun args hh K => ∃ k w, l[k]? = some w ∧ J k hh ∧ args = [.int .u64 (sumS (l.take k) : Nat), .agg #[.int .u8 w.g, .int .u16 w.s]] ∧ K = fun r h' => (r = .bool true ∧ J (k + 1) h') ∨ (r = .bool false ∧ False)) (J l.length) T145 (by kernel_rfl) (by simp) rfl rfl ?_ ?_ ?_
        · rintro args hh K ⟨k, w, hx, hj, rfl, rfl⟩
          rw [hJ] at hj
          obtain ⟨j1, j2, j3, j4, j5, j6⟩ := hj
          refine ⟨⟨j1, by omega, rfl⟩, ?_⟩
          have hkl : k < l.length := (List.getElem?_eq_some_iff.1 hx).1
          have hsk := sumS_le hok k
          have hss := sumS_succ hx
          have wo := hok w (List.mem_of_getElem? hx)
          have hv6 : Sl hh 2 l.length (winsC l) (.slice va l.length vc) := hv5.mono fun b hb => j3 b (by have := hvb b hb; omega)
          have k0 : hh.blks h.next = some ⟨#[.slice va l.length vc], 1, true⟩ := (j3 _ (by omega)).trans c0
          obtain ⟨a', c', b', q3, fa', s1, x1, y1⟩ := sl_el (f := winC) (n := 2) winC_len hv6 hx
          obtain ⟨q3, q4⟩ : va = some a' ∧ vc = c' := by simpa using q3
          have x1' : b'.cells.extract (a'.off + k * 2) (a'.off + k * 2 + 2) = #[.int .u8 w.g, .int .u16 w.s] := x1
          clear x1 y1
          have hab : a'.block < hh.next := by have := hvb a'.block (by rw [q3]; rfl); omega
          rw [q3, q4] at k0
          obtain ⟨wg, ws⟩ := w
          obtain ⟨wo1, wo2⟩ := wo
          simp only at wo1 wo2 x1' hss
          refine vcF_sound mixed (tb := tb3) _ (by kernel_rfl) ?_
          simp -dsimp (disch := omega) [setPs]
          refine vcF_sound mixed (tb := tb3) _ (by kernel_rfl) ?_
          have hkl' : ¬ (l.length : Int) ≤ k := by omega
          have hkl2 : ¬ l.length ≤ k := by omega
          simp -dsimp (disch := omega) [T3, T6, T17, T18, k0, j4, j5, j6, hkl', hkl2, fa', s1, x1', -getElem?_pos]
          rw [hJ]; dsimp only; rw [hss]
          refine ⟨j1, by simp; omega, fun i hi => ?_, ?_, ?_, ?_⟩
          · rw [blks_alloc_ne _ _ _ (by simp; omega), blks_set_ne _ _ _ _ (by omega), blks_set_ne _ _ _ _ (by omega)]; exact j3 i hi
          · rw [blks_alloc_ne _ _ _ (by simp; omega), blks_set_ne _ _ _ _ (by omega), blks_set_ne _ _ _ _ (by omega)]; exact j4
          · rw [blks_alloc_ne _ _ _ (by simp; omega), blks_set_eq]; simp
          · rw [blks_alloc_ne _ _ _ (by simp; omega), blks_set_ne _ _ _ _ (by omega), blks_set_eq]; simp
        · intro hh hj
          rw [hJ] at hj
          obtain ⟨j1, j2, j3, j4, j5, j6⟩ := hj
          refine ⟨j1, ?_⟩
          have k0 : hh.blks h.next = some ⟨#[.slice va l.length vc], 1, true⟩ := (j3 _ (by omega)).trans c0
          have k1 : hh.blks (h.next + 1) = some ⟨#[.bool false], 1, true⟩ := (j3 _ (by omega)).trans c1
          simp -dsimp (disch := omega) [T3, T6, T17, T18, k0, k1, j5]
          refine awake_call ?_
          simp -dsimp (disch := omega) [T3, T6, T17, T18, k0, k1, j5]
          exact RetF.all (r := .bool true) (by simp (disch := omega) [T6]) (hK _)
        · intro E1 hcan hY
          obtain ⟨vl, vb, qB⟩ := qB
          have qB : TabV h' p l vl vb := qB
          refine each_call hcan J (fun _ => False) (qB.mono (by show h'.next ≤ G3.next + 1; omega) (fun i hi => gs i (by omega))) hl0 hl32 g0 ?_ ?_ ?_ ?_ ?_
          · intro k hh hj
            rw [hJ] at hj
            obtain ⟨j1, j2, j3, j4, j5, j6⟩ := hj
            exact ⟨qB.mono (by omega) (fun i hi => j3 i (by omega)), j4, by omega⟩
          · rw [hJ]
            exact ⟨rfl, by show B + 4 ≤ G3.next + 1; omega, gs, g0, g1, g2⟩
          · intro k hh b hj
            rw [hJ] at hj ⊢
            obtain ⟨j1, j2, j3, j4, j5, j6⟩ := hj
            exact ⟨j1, by simp; omega, fun i hi => by rw [blks_alloc_ne _ _ _ (by omega)]; exact j3 i hi, by rw [blks_alloc_ne _ _ _ (by omega)]; exact j4, by rw [blks_alloc_ne _ _ _ (by omega)]; exact j5, by rw [blks_alloc_ne _ _ _ (by omega)]; exact j6⟩
          · intro k hh w hx hj
            exact hY _ _ _ ⟨k, w, hx, hj, rfl, rfl⟩
          · rintro h' (hj | hj)
            · exact hj
            · exact hj.elim
  · have h0' : ¬ ((checkW l gs : Nat) : Int) = 0 := by omega
    simp -dsimp (disch := omega) [h0, h0']
    refine awake_call ?_
    simp -dsimp (disch := omega) [g1]
    exact RetF.all (r := .bool true) (by simp) (hK _)
end
end Go.Proofs.YtndnpmfoegkkeaaDoor
