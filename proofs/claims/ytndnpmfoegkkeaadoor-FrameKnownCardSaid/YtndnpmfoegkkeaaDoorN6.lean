/-
  Owner.
-/
import Derived.Test.YtndnpmfoegkkeaaDoorN5
set_option linter.unusedSimpArgs false
set_option linter.unusedVariables false
set_option linter.unusedSectionVars false
namespace Go.Proofs.YtndnpmfoegkkeaaDoor
open Go Go.Mini Go.Proofs.Tryd
set_option maxRecDepth 100000

section
variable {h : Hp} {K : Value → Hp → Prop} {p : Nat} {l : List Win}
set_option maxHeartbeats 1000000 in
theorem owner_call {step : Nat} (q : Tab h p l) (hok : ∀ w ∈ l, w.ok) (hl : 0 < l.length) (hl2 : l.length ≤ 32) (hs : sumS l < 18446744073709551616) (hs0 : 0 < sumS l) (hst : step < 18446744073709551616)
    (hK : ∀ k w, l[k]? = some w → sumS (l.take k) ≤ step % sumS l → step % sumS l < sumS (l.take (k + 1)) → K (.int .u8 w.g) h) : ACall prog 14 [ptr p, .int .u64 step] h K := by
  refine acallF_of tb0 func14 rfl rfl mixed (by kernel_rfl) fun hwf => ?_
  have q' := q
  obtain ⟨vl, vb, q⟩ := q
  have q : TabV h p l vl vb := q
  have hpl := q.2.2.2.1
  have e2 : (step : Int) % (sumS l : Nat) = (step % sumS l : Nat) := by simp
  have hml : step % sumS l < sumS l := Nat.mod_lt _ hs0
  generalize step % sumS l = at_ at *
  have e2' : Int.tmod (step : Int) (sumS l : Nat) = at_ := by rw [Int.tmod_eq_emod_of_nonneg (by omega)]; exact e2
  simp -dsimp (disch := omega)
  refine is_call (q'.mono (Ext.alloc _ _)) hl ?_
  simp -dsimp (disch := omega)
  refine length_call (q'.mono (Ext.alloc _ _)) hl ?_
  simp -dsimp (disch := omega) [e2, e2']
  refine windows_call ?_
  simp -dsimp (disch := omega) [e2, e2']
  refine awpF_gen fun T G hT hG => ?_
  have gn : G.next = h.next + 3 := by rw [hG]; simp
  have gs : ∀ i, i < h.next → G.blks i = h.blks i := fun i hi => by rw [hG]; simp (disch := omega)
  have g0 : G.blks h.next = some ⟨#[.int .u8 0], 1, true⟩ := by rw [hG]; simp (disch := omega)
  have g1 : G.blks (h.next + 1) = some ⟨#[.int .u64 at_], 1, true⟩ := by rw [hG]; simp (disch := omega)
  have g2 : G.blks (h.next + 2) = some ⟨#[ptr p], 1, true⟩ := by rw [hG]; simp (disch := omega)
  have T16 : T 16 = .func (.func 29) #[] #[ptr (h.next + 2)] := by rw [hT]; rfl
  have T4 : T 4 = ptr h.next := by rw [hT]; rfl
  have T5 : T 5 = ptr (h.next + 1) := by rw [hT]; rfl
  clear hT hG
  obtain ⟨J, hJ⟩ : ∃ J : Nat → Hp → Prop, J = fun k hh => hh.jump = none ∧ h.next + 4 ≤ hh.next ∧ (∀ i, i < h.next → hh.blks i = h.blks i) ∧ hh.blks h.next = some ⟨#[.int .u8 0], 1, true⟩ ∧ hh.blks (h.next + 1) = some ⟨#[.int .u64 at_], 1, true⟩ ∧ hh.blks (h.next + 2) = some ⟨#[ptr p], 1, true⟩ ∧ sumS (l.take k) ≤ at_ := ⟨_, rfl⟩
  obtain ⟨Jx, hJx⟩ : ∃ Jx : Hp → Prop, Jx = fun hh => hh.jump = some .ret ∧ (∀ i, i < h.next → hh.blks i = h.blks i) ∧ ∃ k w, l[k]? = some w ∧ sumS (l.take k) ≤ at_ ∧ at_ < sumS (l.take (k + 1)) ∧ hh.blks h.next = some ⟨#[.int .u8 w.g], 1, true⟩ := ⟨_, rfl⟩
  refine awp_rangeJ (fun args hh K => ∃ k w, l[k]? = some w ∧ J k hh ∧ args = [.int .u64 (sumS (l.take k) : Nat), .agg #[.int .u8 w.g, .int .u16 w.s]] ∧ K = fun r h' => (r = .bool true ∧ J (k + 1) h') ∨ (r = .bool false ∧ Jx h')) (J l.length) Jx T16 (by kernel_rfl) (by simp) rfl rfl ?_ ?_ ?_ ?_
  · rintro args hh K ⟨k, w, hx, hj, rfl, rfl⟩
    have hj' := hj
    rw [hJ] at hj'
    obtain ⟨j1, j2, j3, j4, j5, j6, j7⟩ := hj'
    refine ⟨⟨j1, by omega, rfl⟩, ?_⟩
    have hkl : k < l.length := (List.getElem?_eq_some_iff.1 hx).1
    have hsk := sumS_le hok k
    have hss := sumS_succ hx
    have wo := hok w (List.mem_of_getElem? hx)
    have hx' := hx
    obtain ⟨wg, ws⟩ := w
    obtain ⟨wo1, wo2⟩ := wo
    simp only at hss wo1 wo2
    refine vcF_sound mixed (tb := tb0) _ (by kernel_rfl) ?_
    simp -dsimp (disch := omega) [setPs]
    refine vcF_sound mixed (tb := tb0) _ (by kernel_rfl) ?_
    by_cases c1 : at_ < sumS (l.take k) + ws
    · have c1' : (at_ : Int) < (sumS (l.take k) : Nat) + (ws : Int) := by omega
      simp -dsimp (disch := omega) [T4, T5, j4, j5, c1']
      rw [hJx]
      refine ⟨rfl, fun i hi => ?_, k, ⟨wg, ws⟩, hx, j7, by omega, ?_⟩
      · simp (disch := omega) [j3 i hi]
      · simp (disch := omega)
    · have c1' : ¬ (at_ : Int) < (sumS (l.take k) : Nat) + (ws : Int) := by omega
      simp -dsimp (disch := omega) [T4, T5, j4, j5, c1']
      rw [hJ]
      exact ⟨j1, by simp; omega, fun i hi => by rw [blks_alloc_ne _ _ _ (by omega)]; exact j3 i hi, by rw [blks_alloc_ne _ _ _ (by omega)]; exact j4, by rw [blks_alloc_ne _ _ _ (by omega)]; exact j5, by rw [blks_alloc_ne _ _ _ (by omega)]; exact j6, by omega⟩
  · intro h' hj
    rw [hJ] at hj
    obtain ⟨j1, j2, j3, j4, j5, j6, j7⟩ := hj
    rw [List.take_length] at j7
    omega
  · intro h' hj
    rw [hJx] at hj
    obtain ⟨j1, j2, k, w, hx, j3, j4, j5⟩ := hj
    refine ⟨j1, ?_⟩
    simp -dsimp (disch := omega) [T4, j5]
    exact RetF.same hwf (by simp (disch := omega) [T4, j5]) (Nat.zero_le _) (fun i hi => by simp (disch := omega) [j2 i hi]) (hK k w hx j3 j4)
  · intro E1 hcan hY
    refine each_call hcan J Jx (q.mono (by show h.next ≤ G.next + 1; omega) (fun i hi => gs i hi)) hl hl2 g2 ?_ ?_ ?_ ?_ ?_
    · intro k hh hj
      rw [hJ] at hj
      obtain ⟨j1, j2, j3, j4, j5, j6, j7⟩ := hj
      exact ⟨q.mono (by omega) j3, j6, by omega⟩
    · rw [hJ]
      exact ⟨rfl, by show h.next + 4 ≤ G.next + 1; omega, gs, g0, g1, g2, by simp [sumS]⟩
    · intro k hh b hj
      rw [hJ] at hj ⊢
      obtain ⟨j1, j2, j3, j4, j5, j6, j7⟩ := hj
      exact ⟨j1, by simp; omega, fun i hi => by rw [blks_alloc_ne _ _ _ (by omega)]; exact j3 i hi, by rw [blks_alloc_ne _ _ _ (by omega)]; exact j4, by rw [blks_alloc_ne _ _ _ (by omega)]; exact j5, by rw [blks_alloc_ne _ _ _ (by omega)]; exact j6, j7⟩
    · intro k hh w hx hj
      exact hY _ _ _ ⟨k, w, hx, hj, rfl, rfl⟩
    · intro h' hj
      exact hj
end
end Go.Proofs.YtndnpmfoegkkeaaDoor
