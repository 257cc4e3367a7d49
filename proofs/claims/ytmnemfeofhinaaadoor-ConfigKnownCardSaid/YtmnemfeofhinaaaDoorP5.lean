/-
  What a configuration that may be has: steps for each guest, lengths.
-/
import Derived.Test.YtmnemfeofhinaaaDoorP4
set_option linter.unusedSimpArgs false
set_option linter.unusedVariables false
set_option linter.unusedSectionVars false
namespace Go.Proofs.YtmnemfeofhinaaaDoor
set_option maxRecDepth 100000
open Go Go.Mini

theorem runW_pos : ∀ {n : Nat} {l : List Win} {all : Nat}, runW n l all = 0 → ∀ w ∈ l, 1 ≤ w.s
  | _, [], _, _, w, hw => by cases hw
  | n, x :: l, all, h, w, hw => by
    unfold runW at h
    split at h
    · cases h
    · split at h
      · cases h
      · split at h
        · cases h
        · rcases List.mem_cons.1 hw with rfl | hw
          · omega
          · exact runW_pos h w hw
theorem checkW_zero {l : List Win} {n : Nat} (h : checkW l n = 0) : 1 ≤ l.length ∧ (∀ w ∈ l, 1 ≤ w.s) ∧ ∀ i, i < n → ∃ w ∈ l, w.g = i := by
  unfold checkW at h
  split at h
  · cases h
  · split at h
    · cases h
    · split at h
      · cases h
      · split at h
        · omega
        · rename_i h1 h2 h3 h4
          split at h
          · rename_i h5
            have h4' : runW (n : Int).toNat l 0 = 0 := by omega
            refine ⟨by omega, runW_pos h4', fun i hi => ?_⟩
            rw [List.all_eq_true] at h5
            have := h5 i (List.mem_range.2 (by omega))
            unfold there at this
            obtain ⟨w, hw, e⟩ := List.any_eq_true.1 this
            exact ⟨w, hw, by simpa using e⟩
          · cases h
theorem sumS_cons (w : Win) (l : List Win) : sumS (w :: l) = w.s + sumS l := by simp [sumS]
theorem sumS_bound {l : List Win} (h : ∀ w ∈ l, w.ok) : sumS l ≤ 65535 * l.length := by
  induction l with
  | nil => simp [sumS]
  | cons w l ih =>
    rw [sumS_cons, List.length_cons]
    have := (h w (by simp)).2
    have := ih fun x hx => h x (by simp [hx])
    omega
theorem sumS_take_le (l : List Win) : ∀ k, sumS (l.take k) ≤ sumS l := by
  induction l with
  | nil => intro k; simp
  | cons w l ih =>
    intro k
    cases k with
    | zero => simp [sumS]
    | succ k =>
      rw [List.take_succ_cons, sumS_cons, sumS_cons]
      have := ih k
      omega
theorem aheadK_mono {l : List Win} {g pl : Nat} : ∀ {m k : Nat}, k ≤ m → aheadK l g pl k ≤ aheadK l g pl m
  | 0, k, h => by obtain rfl : k = 0 := by omega
                  exact Nat.le_refl _
  | m + 1, k, h => by
    by_cases e : k = m + 1
    · rw [e]; exact Nat.le_refl _
    · have := aheadK_mono (l := l) (g := g) (pl := pl) (m := m) (k := k) (by omega)
      simp only [aheadK]
      omega
theorem ahead_pos {l : List Win} {g : Nat} (hp : ∀ w ∈ l, 1 ≤ w.s) (h : ∃ w ∈ l, w.g = g) : 1 ≤ aheadF l g (sumS l) := by
  obtain ⟨w, hw, e⟩ := h
  obtain ⟨k, hk⟩ := List.mem_iff_getElem?.1 hw
  have hkl := (List.getElem?_eq_some_iff.1 hk).1
  have h1 := sumS_succ hk
  have h2 := sumS_take_le l (k + 1)
  have h3 := hp w hw
  have h4 : aheadK l g (sumS l) (k + 1) ≤ aheadF l g (sumS l) := aheadK_mono (by omega)
  rw [aheadK_succ hk, if_pos ⟨e, by omega⟩] at h4
  omega
theorem flat_len {α : Type} {f : α → List UInt8} {n m : Nat} : ∀ {l : List α}, (∀ x ∈ l, n ≤ (f x).length ∧ (f x).length ≤ m) → n * l.length ≤ (l.flatMap f).length ∧ (l.flatMap f).length ≤ m * l.length
  | [], _ => by simp
  | x :: l, h => by
    have h1 := h x (by simp)
    have h2 := flat_len (l := l) fun y hy => h y (by simp [hy])
    rw [List.flatMap_cons, List.length_append, List.length_cons, Nat.mul_succ, Nat.mul_succ]
    omega
theorem bld_len {gs : List Gu} {ws : List Win} {cs : List Ch} (c : ChkOk gs ws cs) (hg : ∀ g ∈ gs, g.ok) : 37 ≤ (bldB gs ws cs).length ∧ (bldB gs ws cs).length ≤ 2000 := by
  have b1 := flat_len (f := gEn) (n := 23) (m := 23) (l := gs) fun g h => by rw [gEn_len (hg g h).2.2.2.1]; omega
  have b2 := flat_len (f := wEn) (n := 3) (m := 3) (l := ws) fun w _ => by rw [wEn_len]; omega
  have b3 := flat_len (f := cEn) (n := 10) (m := 18) (l := cs) fun x h => by have := (shapeB_len (c.sh x h)).2; rw [cEn_len]; omega
  have w1 := (checkW_zero c.w0).1
  have := c.g1
  have := c.g16
  have := c.w32
  have := c.c16
  rw [bldB_sum, bodyB_eq]
  unfold lEn
  simp only [List.length_append, digs_length]
  have : magicL.length = 4 := rfl
  omega
theorem bldB_parses {gs : List Gu} {ws : List Win} {cs : List Ch} (hk : chkC gs ws cs = none) (hg : ∀ g ∈ gs, g.ok) (hw : ∀ w ∈ ws, w.ok) (hc : ∀ c ∈ cs, c.ok) : docP (bldB gs ws cs) = .inr (gs, ws, cs) := by
  have c := chkC_none hk
  have := c.g16
  have := c.w32
  have := c.c16
  exact docP_dec hg hw (fun x hx => ⟨hc x hx, by have := (shapeB_len (c.sh x hx)).2; omega⟩) (by omega) (by omega) (by omega) hk
/-- What Parse tells of what the document tells. -/
theorem pr_good {S : List UInt8} {gs : List Gu} {ws : List Win} {cs : List Ch} (h : docP S = .inr (gs, ws, cs)) : prF S = none ∧ (prG S).1 = gs ∧ (prW S).1 = ws ∧ (prC S).1 = cs := by
  have law := pr_doc S
  rw [h] at law
  exact law
theorem pr_bad {S : List UInt8} {z : Flt} (h : docP S = .inl z) : prF S = some z := by
  have law := pr_doc S
  rw [h] at law
  exact law
theorem pr_none {S : List UInt8} (h : prF S = none) : docP S = .inr ((prG S).1, (prW S).1, (prC S).1) := by
  cases hd : docP S with
  | inl z => rw [pr_bad hd] at h; cases h
  | inr p =>
    obtain ⟨a, b, c⟩ := p
    obtain ⟨_, q1, q2, q3⟩ := pr_good hd
    rw [q1, q2, q3]
/-- A text of which one byte is changed has a fault. -/
theorem spoilt_flt {gs : List Gu} {ws : List Win} {cs : List Ch} {i : Nat} {c' : UInt8} (hi : i < (bldB gs ws cs).length) (hc : (c'.toNat : Int) ≠ bAt (txt (bldB gs ws cs)) i) :
    ∃ z, prF ((bldB gs ws cs).take i ++ c' :: (bldB gs ws cs).drop (i + 1)) = some z ∧ FltOk z := by
  obtain ⟨B, hB⟩ : ∃ B, B = bldB gs ws cs := ⟨_, rfl⟩
  rw [← hB] at hi hc ⊢
  obtain ⟨c, hcc⟩ : ∃ c, B[i]? = some c := ⟨_, List.getElem?_eq_getElem hi⟩
  have e2 : bAt (txt B) i = c.toNat := by unfold bAt; rw [txt_data, hcc]; rfl
  have e1 : B = B.take i ++ c :: B.drop (i + 1) := by
    have := (List.take_append_drop i B).symm
    rw [List.drop_eq_getElem?_toList_append, hcc] at this
    simpa using this
  cases hp : prF (B.take i ++ c' :: B.drop (i + 1)) with
  | some z => exact ⟨z, rfl, prF_fltOk hp⟩
  | none =>
    have h1 := (docP_inv (pr_none hp)).1
    have h2 : c = c' := spoilt (hB.symm.trans e1) h1.symm
    exact absurd e2 fun e => hc (by rw [e, h2])
end Go.Proofs.YtmnemfeofhinaaaDoor
