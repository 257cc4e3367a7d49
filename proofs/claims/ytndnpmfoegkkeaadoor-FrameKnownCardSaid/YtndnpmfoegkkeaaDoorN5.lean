/-
  ahead, Budget, Owned, up.
-/
import Derived.Test.YtndnpmfoegkkeaaDoorN4
set_option linter.unusedSimpArgs false
set_option linter.unusedVariables false
set_option linter.unusedSectionVars false
namespace Go.Proofs.YtndnpmfoegkkeaaDoor
open Go Go.Mini Go.Proofs.Tryd
set_option maxRecDepth 100000

def aheadK (l : List Win) (g pl : Nat) : Nat → Nat
  | 0 => 0
  | k + 1 => aheadK l g pl k + match l[k]? with
    | some w => if w.g = g ∧ sumS (l.take k) < pl then min w.s (pl - sumS (l.take k)) else 0
    | none => 0
def aheadF (l : List Win) (g pl : Nat) : Nat := aheadK l g pl l.length
theorem aheadK_succ {l : List Win} {g pl k : Nat} {w : Win} (hx : l[k]? = some w) : aheadK l g pl (k + 1) = aheadK l g pl k + if w.g = g ∧ sumS (l.take k) < pl then min w.s (pl - sumS (l.take k)) else 0 := by
  simp only [aheadK, hx]
theorem aheadK_le {l : List Win} {g pl : Nat} : ∀ k, aheadK l g pl k ≤ sumS (l.take k) := by
  intro k
  induction k with
  | zero => simp [aheadK]
  | succ k ih =>
    cases hx : l[k]? with
    | none =>
      have hl : l.length ≤ k := List.getElem?_eq_none_iff.1 hx
      simp only [aheadK, hx]
      rw [List.take_of_length_le (by omega)] at ih ⊢
      omega
    | some w =>
      rw [aheadK_succ hx, sumS_succ hx]
      split <;> omega

section
variable {h : Hp} {K : Value → Hp → Prop} {p : Nat} {l : List Win}
set_option maxHeartbeats 1000000 in
theorem ahead_call {g pl : Nat} (q : Tab h p l) (hok : ∀ w ∈ l, w.ok) (hl : 0 < l.length) (hl2 : l.length ≤ 32) (hpl : pl < 18446744073709551616) (hK : K (.int .u64 (aheadF l g pl : Nat)) h) : ACall prog 28 [ptr p, .int .u8 g, .int .u64 pl] h K := by
  refine acallF_of tb0 func28 rfl rfl mixed (by kernel_rfl) fun hwf => ?_
  simp -dsimp (disch := omega)
  refine windows_call ?_
  simp -dsimp (disch := omega)
  refine awpF_gen fun T G hT hG => ?_
  obtain ⟨vl, vb, q⟩ := q
  have q : TabV h p l vl vb := q
  have gn : G.next = h.next + 4 := by rw [hG]; simp
  have gs : ∀ i, i < h.next → G.blks i = h.blks i := fun i hi => by rw [hG]; simp (disch := omega)
  have g0 : G.blks h.next = some ⟨#[.int .u8 g], 1, true⟩ := by rw [hG]; simp (disch := omega)
  have g1 : G.blks (h.next + 1) = some ⟨#[.int .u64 pl], 1, true⟩ := by rw [hG]; simp (disch := omega)
  have g2 : G.blks (h.next + 2) = some ⟨#[.int .u64 0], 1, true⟩ := by rw [hG]; simp (disch := omega)
  have g3 : G.blks (h.next + 3) = some ⟨#[ptr p], 1, true⟩ := by rw [hG]; simp (disch := omega)
  have T10 : T 10 = .func (.func 29) #[] #[ptr (h.next + 3)] := by rw [hT]; rfl
  have T4 : T 4 = ptr h.next := by rw [hT]; rfl
  have T5 : T 5 = ptr (h.next + 1) := by rw [hT]; rfl
  have T6 : T 6 = ptr (h.next + 2) := by rw [hT]; rfl
  clear hT hG
  obtain ⟨J, hJ⟩ : ∃ J : Nat → Hp → Prop, J = fun k hh => hh.jump = none ∧ h.next + 5 ≤ hh.next ∧ (∀ i, i < h.next → hh.blks i = h.blks i) ∧ hh.blks h.next = some ⟨#[.int .u8 g], 1, true⟩ ∧ hh.blks (h.next + 1) = some ⟨#[.int .u64 pl], 1, true⟩ ∧ hh.blks (h.next + 2) = some ⟨#[.int .u64 (aheadK l g pl k : Nat)], 1, true⟩ ∧ hh.blks (h.next + 3) = some ⟨#[ptr p], 1, true⟩ := ⟨_, rfl⟩
  refine awp_rangeN (fun args hh K => ∃ k w, l[k]? = some w ∧ J k hh ∧ args = [.int .u64 (sumS (l.take k) : Nat), .agg #[.int .u8 w.g, .int .u16 w.s]] ∧ K = fun r h' => (r = .bool true ∧ J (k + 1) h') ∨ (r = .bool false ∧ False)) (J l.length) T10 (by kernel_rfl) (by simp) rfl rfl ?_ ?_ ?_
  · rintro args hh K ⟨k, w, hx, hj, rfl, rfl⟩
    have hj' := hj
    rw [hJ] at hj'
    obtain ⟨j1, j2, j3, j4, j5, j6, j7⟩ := hj'
    refine ⟨⟨j1, by omega, rfl⟩, ?_⟩
    have hkl : k < l.length := (List.getElem?_eq_some_iff.1 hx).1
    have hsk := sumS_le hok k
    have hak := aheadK_le (l := l) (g := g) (pl := pl) k
    have has := aheadK_succ (g := g) (pl := pl) hx
    have wo := hok w (List.mem_of_getElem? hx)
    obtain ⟨wg, ws⟩ := w
    obtain ⟨wo1, wo2⟩ := wo
    simp only at has wo1 wo2
    generalize sumS (l.take k) = b0 at *
    refine vcF_sound mixed (tb := tb0) _ (by kernel_rfl) ?_
    simp -dsimp (disch := omega) [setPs]
    refine vcF_sound mixed (tb := tb0) _ (by kernel_rfl) ?_
    by_cases c1 : wg = g
    · subst c1
      by_cases c2 : b0 < pl
      · have c2' : (b0 : Int) < pl := by omega
        rw [if_pos ⟨rfl, c2⟩] at has
        have e1 : ((pl : Int) - b0) = ((pl - b0 : Nat) : Int) := by omega
        simp -dsimp (disch := omega) [T4, T5, T6, j4, j5, j6, c2, c2']
        rw [hJ]; dsimp only; rw [has]
        refine ⟨j1, by simp; omega, fun i hi => ?_, ?_, ?_, ?_, ?_⟩
        · simp (disch := omega) [j3 i hi]
        · simp (disch := omega) [j4]
        · simp (disch := omega) [j5]
        · simp (disch := omega)
          split <;> omega
        · simp (disch := omega) [j7]
      · have c2' : ¬ (b0 : Int) < pl := by omega
        rw [if_neg (by omega)] at has
        simp -dsimp (disch := omega) [T4, T5, T6, j4, j5, j6, c2, c2']
        rw [hJ]; dsimp only; rw [has, Nat.add_zero]
        exact ⟨j1, by simp; omega, fun i hi => by rw [blks_alloc_ne _ _ _ (by omega)]; exact j3 i hi, by rw [blks_alloc_ne _ _ _ (by omega)]; exact j4, by rw [blks_alloc_ne _ _ _ (by omega)]; exact j5, by rw [blks_alloc_ne _ _ _ (by omega)]; exact j6, by rw [blks_alloc_ne _ _ _ (by omega)]; exact j7⟩
    · have c1' : ¬ (wg : Int) = g := by omega
      rw [if_neg (by omega)] at has
      simp -dsimp (disch := omega) [T4, T5, T6, j4, j5, j6, c1, c1']
      rw [hJ]; dsimp only; rw [has, Nat.add_zero]
      exact ⟨j1, by simp; omega, fun i hi => by rw [blks_alloc_ne _ _ _ (by omega)]; exact j3 i hi, by rw [blks_alloc_ne _ _ _ (by omega)]; exact j4, by rw [blks_alloc_ne _ _ _ (by omega)]; exact j5, by rw [blks_alloc_ne _ _ _ (by omega)]; exact j6, by rw [blks_alloc_ne _ _ _ (by omega)]; exact j7⟩
  · intro h' hj
    rw [hJ] at hj
    obtain ⟨j1, j2, j3, j4, j5, j6, j7⟩ := hj
    refine ⟨j1, ?_⟩
    simp -dsimp (disch := omega) [T6, j6]
    exact RetF.same hwf (by simp (disch := omega) [T6]; rfl) (Nat.zero_le _) (fun i hi => by simp (disch := omega) [j3 i hi]) hK
  · intro E1 hcan hY
    refine each_call hcan J (fun _ => False) (q.mono (by show h.next ≤ G.next + 1; omega) (fun i hi => gs i hi)) hl hl2 g3 ?_ ?_ ?_ ?_ ?_
    · intro k hh hj
      rw [hJ] at hj
      obtain ⟨j1, j2, j3, j4, j5, j6, j7⟩ := hj
      exact ⟨q.mono (by omega) j3, j7, by omega⟩
    · rw [hJ]
      exact ⟨rfl, by show h.next + 5 ≤ G.next + 1; omega, gs, g0, g1, g2, g3⟩
    · intro k hh b hj
      rw [hJ] at hj ⊢
      obtain ⟨j1, j2, j3, j4, j5, j6, j7⟩ := hj
      exact ⟨j1, by simp; omega, fun i hi => by rw [blks_alloc_ne _ _ _ (by omega)]; exact j3 i hi, by rw [blks_alloc_ne _ _ _ (by omega)]; exact j4, by rw [blks_alloc_ne _ _ _ (by omega)]; exact j5, by rw [blks_alloc_ne _ _ _ (by omega)]; exact j6, by rw [blks_alloc_ne _ _ _ (by omega)]; exact j7⟩
    · intro k hh w hx hj
      exact hY _ _ _ ⟨k, w, hx, hj, rfl, rfl⟩
    · rintro h' (hj | hj)
      · exact hj
      · exact hj.elim
theorem budget_call {g : Nat} (q : Tab h p l) (hok : ∀ w ∈ l, w.ok) (hl : 0 < l.length) (hl2 : l.length ≤ 32) (hs : sumS l < 18446744073709551616) (hK : K (.int .u64 (aheadF l g (sumS l) : Nat)) h) : ACall prog 15 [ptr p, .int .u8 g] h K := by
  refine acallF_of tb0 func15 rfl rfl mixed (by kernel_rfl) fun hwf => ?_
  simp -dsimp (disch := omega)
  refine length_call q hl ?_
  simp -dsimp (disch := omega)
  refine ahead_call q hok hl hl2 hs ?_
  simp -dsimp (disch := omega)
  exact RetF.same hwf (by simp) (Nat.zero_le _) (fun _ _ => rfl) hK
def tb13 : Nat → Marks := fun k => ⟨[], fun _ => True⟩
theorem owned_call {g step : Nat} (q : Tab h p l) (hok : ∀ w ∈ l, w.ok) (hl : 0 < l.length) (hl2 : l.length ≤ 32) (hs : sumS l < 18446744073709551616) (hs0 : 0 < sumS l) (hst : step < 18446744073709551616) (hK : ∀ r : Int, r = IntKind.u64.wrap (IntKind.u64.wrap ((step / sumS l : Nat) * (aheadF l g (sumS l) : Nat)) + (aheadF l g (step % sumS l) : Nat)) → K (.int .u64 r) h) : ACall prog 17 [ptr p, .int .u8 g, .int .u64 step] h K := by
  refine acallF_of tb0 func17 rfl rfl mixed (by kernel_rfl) fun hwf => ?_
  simp -dsimp (disch := omega)
  refine is_call q hl ?_
  simp -dsimp (disch := omega)
  refine length_call q hl ?_
  have hml : step % sumS l < sumS l := Nat.mod_lt _ hs0
  have e1 : (step : Int) / (sumS l : Nat) = (step / sumS l : Nat) := by simp
  have e2 : (step : Int) % (sumS l : Nat) = (step % sumS l : Nat) := by simp
  have hds := Nat.div_le_self step (sumS l)
  generalize step / sumS l = dd at *
  generalize step % sumS l = mm at *
  have e3 : IntKind.u64.wrap ((step : Int) / (sumS l : Nat)) = dd := by
    rw [e1]
    exact IntWalk.u64_in _ (by omega)
  simp -dsimp (disch := omega) [e3]
  refine budget_call q hok hl hl2 hs ?_
  generalize aheadF l g (sumS l) = A at *
  simp -dsimp (disch := omega) [e3]
  refine length_call q hl ?_
  simp -dsimp (disch := omega) [e2, e3]
  refine ahead_call q hok hl hl2 (by omega) ?_
  generalize aheadF l g mm = B at *
  have hK := hK _ rfl
  generalize IntKind.u64.wrap ((dd : Int) * A) = C at *
  simp -dsimp (disch := omega) [e2, e3]
  exact RetF.same hwf (by simp) (Nat.zero_le _) (fun _ _ => rfl) hK
theorem wrap64 (n : Int) : IntKind.u64.wrap n = n % 18446744073709551616 := by simp [IntKind.wrap, IntKind.bits, IntKind.signed]
theorem up_call {a b : Nat} (ha : a < 18446744073709551616) (hb : b < 18446744073709551616) (hK : K (.tuple (if a + b < 18446744073709551616 then #[.int .u64 (a + b : Nat), .bool true] else #[.int .u64 0, .bool false])) h) : ACall prog 27 [.int .u64 a, .int .u64 b] h K := by
  refine acallF_of tb0 func27 rfl rfl mixed (by kernel_rfl) fun hwf => ?_
  by_cases c : a + b < 18446744073709551616
  · rw [if_pos c] at hK
    have c1 : ¬ (a : Int) + b < a := by omega
    simp -dsimp (disch := omega) [c1]
    exact RetF.same hwf (by simp) (Nat.zero_le _) (fun _ _ => rfl) hK
  · rw [if_neg c] at hK
    have e : IntKind.u64.wrap ((a : Int) + b) = (a : Int) + b - 18446744073709551616 := by rw [wrap64]; omega
    have c1 : (a : Int) + b - 18446744073709551616 < a := by omega
    simp -dsimp (disch := omega) [e, c1]
    exact RetF.same hwf (by simp) (Nat.zero_le _) (fun _ _ => rfl) hK
end
end Go.Proofs.YtndnpmfoegkkeaaDoor
