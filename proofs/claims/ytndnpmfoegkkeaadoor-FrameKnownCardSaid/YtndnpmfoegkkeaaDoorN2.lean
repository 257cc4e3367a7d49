/-
  The document's Check.
-/
import Derived.Test.YtndnpmfoegkkeaaDoorN1
set_option linter.unusedSimpArgs false
set_option linter.unusedVariables false
set_option linter.unusedSectionVars false
namespace Go.Proofs.YtndnpmfoegkkeaaDoor
open Go Go.Mini Go.Proofs.Tryd
set_option maxRecDepth 100000

section
variable {h : Hp} {K : Value → Hp → Prop}
set_option maxHeartbeats 1000000 in
theorem refCheck_call {l : List Win} {v : Value} {gs : Int} (hok : ∀ w ∈ l, w.ok) (hv : Sl h 2 l.length (winsC l) v) (hl : l.length < 9223372036854775808) (hK : K (.int .i64 (checkW l gs)) h) : ACall prog 5 [v, .int .i64 gs] h K := by
  refine acallF_of tb0 func5 rfl rfl mixed (by kernel_rfl) fun hwf => ?_
  have hvb := sblk_lt (hwf.args v (by simp))
  obtain ⟨va, vc, rfl⟩ := hv.slice
  unfold checkW at hK
  by_cases c1 : gs < 1
  · rw [if_pos (.inl c1)] at hK
    simp -dsimp (disch := omega) [c1]
    exact RetF.same hwf (by simp) (Nat.zero_le _) (fun _ _ => rfl) hK
  by_cases c2 : 16 < gs
  · rw [if_pos (.inr c2)] at hK
    simp -dsimp (disch := omega) [c1, c2]
    exact RetF.same hwf (by simp) (Nat.zero_le _) (fun _ _ => rfl) hK
  rw [if_neg (by omega)] at hK
  obtain ⟨G, rfl⟩ : ∃ G : Nat, gs = G := ⟨gs.toNat, by omega⟩
  rw [Int.toNat_natCast] at hK
  obtain ⟨n, hn⟩ : ∃ n, n = l.length := ⟨_, rfl⟩
  rw [← hn] at hK
  by_cases c3 : n = 0
  · rw [if_pos c3] at hK
    simp -dsimp (disch := omega) [c1, c2, ← hn, c3]
    exact RetF.same hwf (by simp) (Nat.zero_le _) (fun _ _ => rfl) hK
  rw [if_neg c3] at hK
  by_cases c4 : 32 < n
  · have c4' : (32 : Int) < n := by omega
    rw [if_pos c4] at hK
    simp -dsimp (disch := omega) [c1, c2, ← hn, c3, c4, c4']
    exact RetF.same hwf (by simp) (Nat.zero_le _) (fun _ _ => rfl) hK
  rw [if_neg c4] at hK
  have c4' : ¬ (32 : Int) < n := by omega
  simp -dsimp (disch := omega) [c1, c2, ← hn, c3, c4, c4']
  refine awp_loop (fun t h' => h' = h ∧ ∃ (k all : Nat), k ≤ n ∧ t 0 = .slice va n vc ∧ t 1 = .int .i64 G ∧ t 5 = .int .i64 all ∧ t 6 = .int .i64 k ∧ all ≤ 1024 ∧ runW G l 0 = runW G (l.drop k) all) (fun t _ => n - ivN (t 6)) ?_ ?_
  · simp -dsimp (disch := omega)
    exact ⟨0, by omega, hn.symm, 0, rfl, rfl, by omega, rfl⟩
  · rintro t h' ⟨rfl, k, all, hk, g0, g1, g5, g6, hall, hrun⟩
    refine vcF_sound mixed (tb := tb0) _ (by kernel_rfl) ?_
    simp -dsimp (disch := omega) [g0, g1, g6]
    refine CondF_dec (fun hc => ?_) (fun hc => ?_)
    · have hkl : k < l.length := by omega
      obtain ⟨w, hx⟩ : ∃ w, l[k]? = some w := ⟨l[k], List.getElem?_eq_getElem hkl⟩
      obtain ⟨a', c, b', q2, fa, s1, x1, y1⟩ := sl_el (f := winC) (n := 2) winC_len hv hx
      cases q2
      have wo := hok w (List.mem_of_getElem? hx)
      rw [runW_step hx] at hrun
      have y0 : b'.cells[a'.off + k * 2]? = some (.int .u8 w.g) := y1 0 (by omega)
      have y2 : b'.cells[a'.off + k * 2 + 1]? = some (.int .u16 w.s) := y1 1 (by omega)
      clear x1 y1
      obtain ⟨g, s⟩ := w
      obtain ⟨wo1, wo2⟩ := wo
      simp only at y0 y2 hrun wo1 wo2
      by_cases d0 : g ≠ 255 ∧ G ≤ g
      · rw [if_pos d0] at hrun
        rw [hrun] at hK
        obtain ⟨d1, d2⟩ := d0
        have d2' : (G : Int) ≤ g := by omega
        have d1' : ¬ (g : Int) = 255 := by omega
        simp -dsimp (disch := omega) [g0, g1, g6, fa, y0, y2, d1, d1', d2, d2', -getElem?_pos]
        exact RetF.same hwf (by simp) (Nat.zero_le _) (fun i hi => rfl) hK
      · rw [if_neg d0] at hrun
        by_cases d3 : s = 0
        · rw [if_pos d3] at hrun
          rw [hrun] at hK
          by_cases d1 : g = 255
          · simp -dsimp (disch := omega) [g0, g1, g6, fa, y0, y2, d1, d3, -getElem?_pos]
            exact RetF.same hwf (by simp) (Nat.zero_le _) (fun i hi => rfl) hK
          · have d2 : ¬ G ≤ g := by omega
            have d2' : ¬ (G : Int) ≤ g := by omega
            have d1' : ¬ (g : Int) = 255 := by omega
            simp -dsimp (disch := omega) [g0, g1, g6, fa, y0, y2, d1, d1', d2, d2', d3, -getElem?_pos]
            exact RetF.same hwf (by simp) (Nat.zero_le _) (fun i hi => rfl) hK
        · rw [if_neg d3] at hrun
          by_cases d4 : 1024 < all + s
          · rw [if_pos d4] at hrun
            rw [hrun] at hK
            have d4' : (1024 : Int) < (all : Int) + s := by omega
            by_cases d1 : g = 255
            · simp -dsimp (disch := omega) [g0, g1, g5, g6, fa, y0, y2, d1, d3, d4', -getElem?_pos]
              exact RetF.same hwf (by simp) (Nat.zero_le _) (fun i hi => rfl) hK
            · have d2 : ¬ G ≤ g := by omega
              have d2' : ¬ (G : Int) ≤ g := by omega
              have d1' : ¬ (g : Int) = 255 := by omega
              simp -dsimp (disch := omega) [g0, g1, g5, g6, fa, y0, y2, d1, d1', d2, d2', d3, d4', -getElem?_pos]
              exact RetF.same hwf (by simp) (Nat.zero_le _) (fun i hi => rfl) hK
          · rw [if_neg d4] at hrun
            have d4' : ¬ (1024 : Int) < (all : Int) + s := by omega
            by_cases d1 : g = 255
            · simp -dsimp (disch := omega) [g0, g1, g5, g6, fa, y0, y2, d1, d3, d4', -getElem?_pos]
              exact ⟨⟨k + 1, by omega, all + s, by simp, by simp, by omega, hrun⟩, by simp [ivN]; omega⟩
            · have d2 : ¬ G ≤ g := by omega
              have d2' : ¬ (G : Int) ≤ g := by omega
              have d1' : ¬ (g : Int) = 255 := by omega
              simp -dsimp (disch := omega) [g0, g1, g5, g6, fa, y0, y2, d1, d1', d2, d2', d3, d4', -getElem?_pos]
              exact ⟨⟨k + 1, by omega, all + s, by simp, by simp, by omega, hrun⟩, by simp [ivN]; omega⟩
    · have hkn : k = n := by omega
      rw [hkn, hn, List.drop_length] at hrun
      have hrun : runW G l 0 = 0 := hrun
      rw [hrun, if_neg (by omega)] at hK
      simp -dsimp (disch := omega) [g0, g1, g6]
      refine awp_loop (fun t h2 => h2 = h' ∧ ∃ k : Nat, k ≤ G ∧ t 0 = .slice va n vc ∧ t 1 = .int .i64 G ∧ t 7 = .int .i64 k ∧ ∀ i, i < k → there l i = true) (fun t _ => G - ivN (t 7)) ?_ ?_
      · simp -dsimp (disch := omega) [g0, g1]
        exact ⟨0, by omega, rfl, fun i hi => by omega⟩
      · rintro t h2 ⟨rfl, g, hk2, g0, g1, g7o, hth⟩
        have g7 := g7o
        refine vcF_sound mixed (tb := tb0) _ (by kernel_rfl) ?_
        simp -dsimp (disch := omega) [g0, g1, g7]
        refine CondF_dec (fun hc2 => ?_) (fun hc2 => ?_)
        · simp -dsimp (disch := omega) [g0, g1, g7]
          refine awp_loop (fun t h3 => h3 = h2 ∧ ∃ k : Nat, k ≤ n ∧ t 0 = .slice va n vc ∧ t 1 = .int .i64 G ∧ t 7 = .int .i64 g ∧ t 9 = .int .i64 k ∧ t 8 = .bool (there (l.take k) g)) (fun t _ => n - ivN (t 9)) ?_ ?_
          · simp -dsimp (disch := omega) [g0, g1, g7]
            exact ⟨0, by omega, rfl, by simp [there]⟩
          · rintro t h3 ⟨rfl, k, hk, g0, g1, g7, g9, g8⟩
            refine vcF_sound mixed (tb := tb0) _ (by kernel_rfl) ?_
            simp -dsimp (disch := omega) [g0, g9]
            refine CondF_dec (fun hc3 => ?_) (fun hc3 => ?_)
            · have hkl : k < l.length := by omega
              obtain ⟨w, hx⟩ : ∃ w, l[k]? = some w := ⟨l[k], List.getElem?_eq_getElem hkl⟩
              obtain ⟨a', c, b', q2, fa, s1, x1, y1⟩ := sl_el (f := winC) (n := 2) winC_len hv hx
              cases q2
              have wo := (hok w (List.mem_of_getElem? hx)).1
              have y0 : b'.cells[a'.off + k * 2]? = some (.int .u8 w.g) := y1 0 (by omega)
              clear x1 y1
              have ht := there_take hx g
              cases hb : there (l.take k) g with
              | true =>
                rw [hb, Bool.or_true] at ht
                rw [hb] at g8
                simp -dsimp (disch := omega) [g0, g1, g7, g8, g9]
                exact ⟨⟨k + 1, by omega, by simp, ht⟩, by simp [ivN]; omega⟩
              | false =>
                rw [hb, Bool.or_false] at ht
                rw [hb] at g8
                simp -dsimp (disch := omega) [g0, g1, g7, g8, g9, fa, y0, -getElem?_pos]
                refine ⟨⟨k + 1, by omega, by simp, ?_⟩, by simp [ivN]; omega⟩
                rw [ht, decide_eq_decide]
                omega
            · have hkn : k = n := by omega
              rw [hkn, hn, List.take_length] at g8
              cases hb : there l g with
              | true =>
                rw [hb] at g8
                simp -dsimp (disch := omega) [g0, g1, g7, g8, g9]
                exact ⟨⟨g + 1, by omega, by simp, fun i hi => by rcases Nat.lt_or_ge i g with h | h; exact hth i h; rw [show i = g by omega]; exact hb⟩, by simp [ivN, g7o]; omega⟩
              | false =>
                rw [hb] at g8
                have : (List.range G).all (there l) = false := by
                  rw [List.all_eq_false]
                  exact ⟨g, List.mem_range.2 (by omega), by simp [hb]⟩
                rw [this] at hK
                simp -dsimp (disch := omega) [g0, g1, g7, g8, g9]
                exact RetF.same hwf (by simp) (Nat.zero_le _) (fun i hi => rfl) hK
        · have : (List.range G).all (there l) = true := by
            rw [List.all_eq_true]
            intro i hi
            exact hth i (by have := List.mem_range.1 hi; omega)
          rw [this] at hK
          simp -dsimp (disch := omega) [g0, g1, g7]
          exact RetF.same hwf (by simp) (Nat.zero_le _) (fun i hi => rfl) hK
end
end Go.Proofs.YtndnpmfoegkkeaaDoor
