/-
  Next.
-/
import Derived.Test.YtndnpmfoegkkeaaDoorN6
set_option linter.unusedSimpArgs false
set_option linter.unusedVariables false
set_option linter.unusedSectionVars false
namespace Go.Proofs.YtndnpmfoegkkeaaDoor
open Go Go.Mini Go.Proofs.Tryd
set_option maxRecDepth 100000

def upA (a b : Nat) : Nat := if a + b < 18446744073709551616 then a + b else 0
def upB (a b : Nat) : Bool := decide (a + b < 18446744073709551616)
def tb14 : Nat → Marks := fun k => if k = 3 then ⟨[0, 2, 1000000, 2000004], fun _ => True⟩ else ⟨[], fun _ => True⟩
@[simp] theorem tb14_l : (tb14 3).l = [0, 2, 1000000, 2000004] := rfl
@[simp] theorem tb14_R (k x : Nat) : (tb14 k).R x := by unfold tb14; split <;> trivial
/-- What the loop knows of the windows behind it. -/
def NInv (l : List Win) (g pl N : Nat) (k nx : Nat) : Prop :=
  (∀ i w, i < k → l[i]? = some w → w.g = g → sumS (l.take (i + 1)) ≤ pl) ∧
  ((nx = 0 ∧ ∀ i w, i < k → l[i]? = some w → w.g ≠ g) ∨ ∃ i w, i < k ∧ l[i]? = some w ∧ w.g = g ∧ nx = N + sumS (l.take i) ∧ ∀ j w', j < i → l[j]? = some w' → w'.g ≠ g)
theorem NInv.skip {l : List Win} {g pl N k nx : Nat} {w : Win} (h : NInv l g pl N k nx) (hx : l[k]? = some w) (hg : w.g ≠ g) : NInv l g pl N (k + 1) nx := by
  obtain ⟨h1, h2⟩ := h
  have same : ∀ w', l[k]? = some w' → w' = w := fun w' e => by rw [hx] at e; exact (Option.some.inj e).symm
  refine ⟨fun i w' hi e1 e2 => ?_, ?_⟩
  · rcases Nat.lt_or_ge i k with hik | hik
    · exact h1 i w' hik e1 e2
    · obtain rfl : i = k := by omega
      exact absurd e2 (by rw [same w' e1]; exact hg)
  · rcases h2 with ⟨a, b⟩ | ⟨i, w', a, b⟩
    · refine .inl ⟨a, fun i w' hi e1 => ?_⟩
      rcases Nat.lt_or_ge i k with hik | hik
      · exact b i w' hik e1
      · obtain rfl : i = k := by omega
        rw [same w' e1]; exact hg
    · exact .inr ⟨i, w', by omega, b⟩
theorem NInv.take {l : List Win} {g pl N k nx : Nat} {w : Win} (h : NInv l g pl N k nx) (hx : l[k]? = some w) (hg : w.g = g) (hle : sumS (l.take (k + 1)) ≤ pl) (hN : 0 < N) : NInv l g pl N (k + 1) (if nx = 0 then N + sumS (l.take k) else nx) := by
  obtain ⟨h1, h2⟩ := h
  refine ⟨fun i w' hi e1 e2 => ?_, ?_⟩
  · rcases Nat.lt_or_ge i k with hik | hik
    · exact h1 i w' hik e1 e2
    · obtain rfl : i = k := by omega
      exact hle
  · rcases h2 with ⟨a, b⟩ | ⟨i, w', a, b, c, d, e⟩
    · rw [if_pos a]
      exact .inr ⟨k, w, by omega, hx, hg, rfl, fun j w' hj => b j w' hj⟩
    · rw [if_neg (by omega)]
      exact .inr ⟨i, w', by omega, b, c, d, e⟩

section
variable {h : Hp} {K : Value → Hp → Prop} {p : Nat} {l : List Win}
theorem up2_call {a b : Nat} (ha : a < 18446744073709551616) (hb : b < 18446744073709551616) (hK : K (.tuple #[.int .u64 (upA a b : Nat), .bool (upB a b)]) h) : ACall prog 27 [.int .u64 a, .int .u64 b] h K := by
  refine up_call ha hb ?_
  unfold upA upB at hK
  split
  · rename_i c
    rw [if_pos c, decide_eq_true c] at hK
    exact hK
  · rename_i c
    rw [if_neg c, decide_eq_false c] at hK
    exact hK
set_option maxHeartbeats 2000000 in
theorem next_call {g step : Nat} (q : Tab h p l) (hok : ∀ w ∈ l, w.ok) (hl : 0 < l.length) (hl2 : l.length ≤ 32) (hs : sumS l < 1000000000) (hs0 : 0 < sumS l) (hst : step < 18446744073709551616)
    (hK0 : aheadF l g (sumS l) = 0 → K (.tuple #[.int .u64 0, .bool false]) h)
    (hKA : ∀ k w, l[k]? = some w → w.g = g → (∀ i w', i < k → l[i]? = some w' → w'.g = g → sumS (l.take (i + 1)) ≤ step % sumS l) → step % sumS l < sumS (l.take (k + 1)) → K (.tuple #[.int .u64 (upA step (max (sumS (l.take k)) (step % sumS l) - step % sumS l) : Nat), .bool (upB step (max (sumS (l.take k)) (step % sumS l) - step % sumS l))]) h)
    (hKB : ∀ nx, NInv l g (step % sumS l) (sumS l) l.length nx → nx ≠ 0 → K (.tuple #[.int .u64 (upA step (nx - step % sumS l) : Nat), .bool (upB step (nx - step % sumS l))]) h)
    (hKC : NInv l g (step % sumS l) (sumS l) l.length 0 → K (.tuple #[.int .u64 0, .bool false]) h) : ACall prog 12 [ptr p, .int .u8 g, .int .u64 step] h K := by
  refine acallF_of tb14 func12 rfl rfl mixed (by kernel_rfl) fun hwf => ?_
  have q' := q
  obtain ⟨vl, vb, q⟩ := q
  have q : TabV h p l vl vb := q
  have hpl := q.2.2.2.1
  have e2 : (step : Int) % (sumS l : Nat) = (step % sumS l : Nat) := by simp
  have hml : step % sumS l < sumS l := Nat.mod_lt _ hs0
  generalize step % sumS l = pl at *
  have e2' : Int.tmod (step : Int) (sumS l : Nat) = pl := by rw [Int.tmod_eq_emod_of_nonneg (by omega)]; exact e2
  have qe : ∀ {h1 : Hp}, Ext h h1 → Tab h1 p l := fun e => q'.mono e
  simp -dsimp (disch := omega)
  refine budget_call (qe ⟨by simp; omega, fun i hi => by simp (disch := omega)⟩) hok hl hl2 (by omega) ?_
  by_cases hA : aheadF l g (sumS l) = 0
  · rw [hA]
    simp -dsimp (disch := omega)
    exact RetF.same hwf (by simp (disch := omega)) (Nat.zero_le _) (fun i hi => by simp (disch := omega)) (hK0 hA)
  · have hA' : ¬ ((aheadF l g (sumS l) : Nat) : Int) = 0 := by omega
    simp -dsimp (disch := omega) [hA, hA']
    refine length_call (qe ⟨by simp; omega, fun i hi => by simp (disch := omega)⟩) hl ?_
    simp -dsimp (disch := omega) [e2, e2']
    refine windows_call ?_
    simp -dsimp (disch := omega) [e2, e2']
    refine awpF_gen fun T G hT hG => ?_
    have gn : G.next = h.next + 8 := by rw [hG]; simp
    have gs : ∀ i, i < h.next → G.blks i = h.blks i := fun i hi => by rw [hG]; simp (disch := omega)
    have g0 : G.blks h.next = some ⟨#[ptr p], 1, true⟩ := by rw [hG]; simp (disch := omega)
    have g1 : G.blks (h.next + 1) = some ⟨#[.int .u8 g], 1, true⟩ := by rw [hG]; simp (disch := omega)
    have g2 : G.blks (h.next + 2) = some ⟨#[.int .u64 step], 1, true⟩ := by rw [hG]; simp (disch := omega)
    have g3 : G.blks (h.next + 3) = some ⟨#[.int .u64 0], 1, true⟩ := by rw [hG]; simp (disch := omega)
    have g4 : G.blks (h.next + 4) = some ⟨#[.bool false], 1, true⟩ := by rw [hG]; simp (disch := omega)
    have g5 : G.blks (h.next + 5) = some ⟨#[.int .u64 pl], 1, true⟩ := by rw [hG]; simp (disch := omega)
    have g6 : G.blks (h.next + 6) = some ⟨#[.int .u64 0], 1, true⟩ := by rw [hG]; simp (disch := omega)
    have g7 : G.blks (h.next + 7) = some ⟨#[ptr p], 1, true⟩ := by rw [hG]; simp (disch := omega)
    have T22 : T 22 = .func (.func 29) #[] #[ptr (h.next + 7)] := by rw [hT]; rfl
    have T3 : T 3 = ptr h.next := by rw [hT]; rfl
    have T4 : T 4 = ptr (h.next + 1) := by rw [hT]; rfl
    have T5 : T 5 = ptr (h.next + 2) := by rw [hT]; rfl
    have T6 : T 6 = ptr (h.next + 3) := by rw [hT]; rfl
    have T7 : T 7 = ptr (h.next + 4) := by rw [hT]; rfl
    have T8 : T 8 = ptr (h.next + 5) := by rw [hT]; rfl
    have T9 : T 9 = ptr (h.next + 6) := by rw [hT]; rfl
    clear hT hG
    obtain ⟨J, hJ⟩ : ∃ J : Nat → Hp → Prop, J = fun k hh => hh.jump = none ∧ h.next + 9 ≤ hh.next ∧ (∀ i, i < h.next → hh.blks i = h.blks i) ∧ hh.blks h.next = some ⟨#[ptr p], 1, true⟩ ∧ hh.blks (h.next + 1) = some ⟨#[.int .u8 g], 1, true⟩ ∧ hh.blks (h.next + 2) = some ⟨#[.int .u64 step], 1, true⟩ ∧ hh.blks (h.next + 3) = some ⟨#[.int .u64 0], 1, true⟩ ∧ hh.blks (h.next + 4) = some ⟨#[.bool false], 1, true⟩ ∧ hh.blks (h.next + 5) = some ⟨#[.int .u64 pl], 1, true⟩ ∧ hh.blks (h.next + 7) = some ⟨#[ptr p], 1, true⟩ ∧ ∃ nx : Nat, hh.blks (h.next + 6) = some ⟨#[.int .u64 nx], 1, true⟩ ∧ NInv l g pl (sumS l) k nx := ⟨_, rfl⟩
    obtain ⟨Jx, hJx⟩ : ∃ Jx : Hp → Prop, Jx = fun hh => hh.jump = some .ret ∧ (∀ i, i < h.next → hh.blks i = h.blks i) ∧ ∃ k w, l[k]? = some w ∧ w.g = g ∧ (∀ i w', i < k → l[i]? = some w' → w'.g = g → sumS (l.take (i + 1)) ≤ pl) ∧ pl < sumS (l.take (k + 1)) ∧ hh.blks (h.next + 3) = some ⟨#[.int .u64 (upA step (max (sumS (l.take k)) pl - pl) : Nat)], 1, true⟩ ∧ hh.blks (h.next + 4) = some ⟨#[.bool (upB step (max (sumS (l.take k)) pl - pl))], 1, true⟩ := ⟨_, rfl⟩
    refine awp_rangeJ (fun args hh K => ∃ k w, l[k]? = some w ∧ J k hh ∧ args = [.int .u64 (sumS (l.take k) : Nat), .agg #[.int .u8 w.g, .int .u16 w.s]] ∧ K = fun r h' => (r = .bool true ∧ J (k + 1) h') ∨ (r = .bool false ∧ Jx h')) (J l.length) Jx T22 (by kernel_rfl) (by simp) rfl rfl ?_ ?_ ?_ ?_
    · rintro args hh K ⟨k, w, hx, hj, rfl, rfl⟩
      have hj' := hj
      rw [hJ] at hj'
      obtain ⟨j1, j2, j3, b0, b1, b2, b3, b4, b5, b7, nx, b6, hinv⟩ := hj'
      refine ⟨⟨j1, by omega, rfl⟩, ?_⟩
      have hkl : k < l.length := (List.getElem?_eq_some_iff.1 hx).1
      have hsk := sumS_le hok k
      have hss := sumS_succ hx
      have wo := hok w (List.mem_of_getElem? hx)
      have hnx : nx ≤ sumS l + 65536 * 32 := by
        rcases hinv.2 with ⟨a, _⟩ | ⟨i, w', a, _, _, d, _⟩
        · omega
        · have := sumS_le hok i; omega
      have hsl2 := sumS_le hok l.length
      rw [List.take_length] at hsl2
      have hskip := fun hg => hinv.skip hx hg
      have htake := fun hg hle => hinv.take hx hg hle hs0
      obtain ⟨wg, ws⟩ := w
      obtain ⟨wo1, wo2⟩ := wo
      simp only at hss wo1 wo2 hskip htake
      obtain ⟨f, hf⟩ : ∃ f, f = sumS (l.take k) := ⟨_, rfl⟩
      rw [← hf] at hss hsk htake ⊢
      refine vcF_sound mixed (tb := tb0) _ (by kernel_rfl) ?_
      simp -dsimp (disch := omega) [setPs]
      refine vcF_sound mixed (tb := tb0) _ (by kernel_rfl) ?_
      by_cases c1 : wg = g
      · subst c1
        by_cases c2 : pl < f + ws
        · have c2' : (pl : Int) < (f : Int) + ws := by omega
          have e4 : ((if f < pl then (pl : Int) else (f : Int)) - pl) = ((max f pl - pl : Nat) : Int) := by split <;> omega
          simp -dsimp (disch := omega) [T3, T4, T5, T6, T7, T8, T9, b0, b1, b2, b3, b4, b5, b6, c2']
          rw [e4]
          refine up2_call hst (by omega) ?_
          simp -dsimp (disch := omega) [T3, T4, T5, T6, T7, T8, T9, b0, b1, b2, b3, b4, b5, b6]
          rw [hJx]
          refine ⟨rfl, fun i hi => ?_, k, ⟨wg, ws⟩, hx, rfl, hinv.1, by omega, ?_, ?_⟩
          · simp (disch := omega) [j3 i hi]
          · simp (disch := omega) [← hf]
          · simp (disch := omega) [← hf]
        · have c2' : ¬ (pl : Int) < (f : Int) + ws := by omega
          have htk := htake rfl (by omega)
          by_cases c3 : nx = 0
          · subst c3
            rw [if_pos rfl] at htk
            simp -dsimp (disch := omega) [T3, T4, T5, T6, T7, T8, T9, b0, b1, b2, b3, b4, b5, b6, c2']
            refine length_call (l := l) ⟨vl, vb, q.mono (by simp; omega) (fun i hi => by rw [blks_alloc_ne _ _ _ (by omega)]; exact j3 i hi)⟩ hl ?_
            simp -dsimp (disch := omega) [T3, T4, T5, T6, T7, T8, T9, b0, b1, b2, b3, b4, b5, b6]
            rw [hJ]
            refine ⟨j1, by simp; omega, fun i hi => ?_, ?_, ?_, ?_, ?_, ?_, ?_, ?_, sumS l + f, ?_, htk⟩
            · simp (disch := omega) [j3 i hi]
            · simp (disch := omega) [b0]
            · simp (disch := omega) [b1]
            · simp (disch := omega) [b2]
            · simp (disch := omega) [b3]
            · simp (disch := omega) [b4]
            · simp (disch := omega) [b5]
            · simp (disch := omega) [b7]
            · simp (disch := omega)
          · have c3' : ¬ (nx : Int) = 0 := by omega
            rw [if_neg c3] at htk
            simp -dsimp (disch := omega) [T3, T4, T5, T6, T7, T8, T9, b0, b1, b2, b3, b4, b5, b6, c2', c3, c3']
            rw [hJ]
            exact ⟨j1, by simp; omega, fun i hi => by rw [blks_alloc_ne _ _ _ (by omega)]; exact j3 i hi, by rw [blks_alloc_ne _ _ _ (by omega)]; exact b0, by rw [blks_alloc_ne _ _ _ (by omega)]; exact b1, by rw [blks_alloc_ne _ _ _ (by omega)]; exact b2, by rw [blks_alloc_ne _ _ _ (by omega)]; exact b3, by rw [blks_alloc_ne _ _ _ (by omega)]; exact b4, by rw [blks_alloc_ne _ _ _ (by omega)]; exact b5, by rw [blks_alloc_ne _ _ _ (by omega)]; exact b7, nx, by rw [blks_alloc_ne _ _ _ (by omega)]; exact b6, htk⟩
      · have c1' : ¬ (wg : Int) = g := by omega
        have hsp := hskip c1
        simp -dsimp (disch := omega) [T3, T4, T5, T6, T7, T8, T9, b0, b1, b2, b3, b4, b5, b6, c1, c1']
        rw [hJ]
        exact ⟨j1, by simp; omega, fun i hi => by rw [blks_alloc_ne _ _ _ (by omega)]; exact j3 i hi, by rw [blks_alloc_ne _ _ _ (by omega)]; exact b0, by rw [blks_alloc_ne _ _ _ (by omega)]; exact b1, by rw [blks_alloc_ne _ _ _ (by omega)]; exact b2, by rw [blks_alloc_ne _ _ _ (by omega)]; exact b3, by rw [blks_alloc_ne _ _ _ (by omega)]; exact b4, by rw [blks_alloc_ne _ _ _ (by omega)]; exact b5, by rw [blks_alloc_ne _ _ _ (by omega)]; exact b7, nx, by rw [blks_alloc_ne _ _ _ (by omega)]; exact b6, hsp⟩
    · intro h' hj
      rw [hJ] at hj
      obtain ⟨j1, j2, j3, b0, b1, b2, b3, b4, b5, b7, nx, b6, hinv⟩ := hj
      refine ⟨j1, ?_⟩
      have hnx : nx ≤ sumS l + 65536 * 32 := by
        rcases hinv.2 with ⟨a, _⟩ | ⟨i, w', a, _, _, d, _⟩
        · omega
        · have := sumS_le hok i; omega
      by_cases c3 : nx = 0
      · subst c3
        simp -dsimp (disch := omega) [T3, T4, T5, T6, T7, T8, T9, b0, b1, b2, b3, b4, b5, b6]
        exact RetF.same hwf (by simp (disch := omega) [T6, T7, b3, b4]) (Nat.zero_le _) (fun i hi => by simp (disch := omega) [j3 i hi]) (hKC hinv)
      · have c3' : ¬ (nx : Int) = 0 := by omega
        have hge : sumS l ≤ nx := by
          rcases hinv.2 with ⟨a, _⟩ | ⟨i, w', a, _, _, d, _⟩
          · exact absurd a c3
          · omega
        have e4 : ((nx : Int) - pl) = ((nx - pl : Nat) : Int) := by omega
        simp -dsimp (disch := omega) [T3, T4, T5, T6, T7, T8, T9, b0, b1, b2, b3, b4, b5, b6, c3, c3']
        rw [e4]
        refine up2_call hst (by omega) ?_
        simp -dsimp (disch := omega) [T3, T4, T5, T6, T7, T8, T9, b0, b1, b2, b3, b4, b5, b6]
        exact RetF.same hwf (by simp (disch := omega) [T6, T7]) (Nat.zero_le _) (fun i hi => by simp (disch := omega) [j3 i hi]) (hKB nx hinv c3)
    · intro h' hj
      rw [hJx] at hj
      obtain ⟨j1, j2, k, w, hx, hg, ha, hb, b3, b4⟩ := hj
      refine ⟨j1, ?_⟩
      simp -dsimp (disch := omega) [T6, T7, b3, b4]
      exact RetF.same hwf (by simp (disch := omega) [T6, T7, b3, b4]) (Nat.zero_le _) (fun i hi => by simp (disch := omega) [j2 i hi]) (hKA k w hx hg ha hb)
    · intro E1 hcan hY
      refine each_call hcan J Jx (q.mono (by show h.next ≤ G.next + 1; omega) (fun i hi => gs i hi)) hl hl2 g7 ?_ ?_ ?_ ?_ ?_
      · intro k hh hj
        rw [hJ] at hj
        obtain ⟨j1, j2, j3, b0, b1, b2, b3, b4, b5, b7, nx, b6, hinv⟩ := hj
        exact ⟨q.mono (by omega) j3, b7, by omega⟩
      · rw [hJ]
        exact ⟨rfl, by show h.next + 9 ≤ G.next + 1; omega, gs, g0, g1, g2, g3, g4, g5, g7, 0, g6, fun i w hi => absurd hi (by omega), .inl ⟨rfl, fun i w hi => absurd hi (by omega)⟩⟩
      · intro k hh b hj
        rw [hJ] at hj ⊢
        obtain ⟨j1, j2, j3, b0, b1, b2, b3, b4, b5, b7, nx, b6, hinv⟩ := hj
        exact ⟨j1, by simp; omega, fun i hi => by rw [blks_alloc_ne _ _ _ (by omega)]; exact j3 i hi, by rw [blks_alloc_ne _ _ _ (by omega)]; exact b0, by rw [blks_alloc_ne _ _ _ (by omega)]; exact b1, by rw [blks_alloc_ne _ _ _ (by omega)]; exact b2, by rw [blks_alloc_ne _ _ _ (by omega)]; exact b3, by rw [blks_alloc_ne _ _ _ (by omega)]; exact b4, by rw [blks_alloc_ne _ _ _ (by omega)]; exact b5, by rw [blks_alloc_ne _ _ _ (by omega)]; exact b7, nx, by rw [blks_alloc_ne _ _ _ (by omega)]; exact b6, hinv⟩
      · intro k hh w hx hj
        exact hY _ _ _ ⟨k, w, hx, hj, rfl, rfl⟩
      · intro h' hj
        exact hj
end
end Go.Proofs.YtndnpmfoegkkeaaDoor
