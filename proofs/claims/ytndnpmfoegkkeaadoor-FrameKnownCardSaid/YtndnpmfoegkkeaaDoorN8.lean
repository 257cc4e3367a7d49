/-
  awake; FrameChecks' body.
-/
import Derived.Test.YtndnpmfoegkkeaaDoorN7
set_option linter.unusedSimpArgs false
set_option linter.unusedVariables false
set_option linter.unusedSectionVars false
namespace Go.Proofs.YtndnpmfoegkkeaaDoor
open Go Go.Mini Go.Proofs.Tryd
set_option maxRecDepth 100000

def wins : List Win := [⟨0, 2⟩, ⟨1, 1⟩, ⟨255, 1⟩, ⟨0, 1⟩]
theorem wins_at {k : Nat} {w : Win} (h : wins[k]? = some w) : (k = 0 ∧ w = ⟨0, 2⟩) ∨ (k = 1 ∧ w = ⟨1, 1⟩) ∨ (k = 2 ∧ w = ⟨255, 1⟩) ∨ (k = 3 ∧ w = ⟨0, 1⟩) := by
  match k, h with
  | 0, h => cases h; exact .inl ⟨rfl, rfl⟩
  | 1, h => cases h; exact .inr (.inl ⟨rfl, rfl⟩)
  | 2, h => cases h; exact .inr (.inr (.inl ⟨rfl, rfl⟩))
  | 3, h => cases h; exact .inr (.inr (.inr ⟨rfl, rfl⟩))
  | k + 4, h => cases h
theorem wins_ok : ∀ w ∈ wins, w.ok := by
  intro w hw
  obtain ⟨k, hk⟩ := List.mem_iff_getElem?.1 hw
  rcases wins_at hk with ⟨_, rfl⟩ | ⟨_, rfl⟩ | ⟨_, rfl⟩ | ⟨_, rfl⟩ <;> exact ⟨by decide, by decide⟩
theorem s1 : sumS (wins.take 0) = 0 := rfl
theorem s2 : sumS (wins.take 1) = 2 := rfl
theorem s3 : sumS (wins.take 2) = 3 := rfl
theorem s4 : sumS (wins.take 3) = 4 := rfl
theorem s5 : sumS (wins.take 4) = 5 := rfl
theorem sw : sumS wins = 5 := rfl
section
variable {h : Hp} {K : Value → Hp → Prop}
theorem given_call (hK : K (.slice (some ⟨h.next, 0, none⟩) 4 8) (h.alloc ⟨#[.int .u8 0, .int .u16 2, .int .u8 1, .int .u16 1, .int .u8 255, .int .u16 1, .int .u8 0, .int .u16 1], 2, true⟩)) : ACall prog 20 [] h K := by
  refine acallF_of tb0 func20 rfl rfl mixed (by kernel_rfl) fun hwf => ?_
  simp -dsimp (disch := omega)
  exact RetF.all (by simp) hK
theorem next7_call {p : Nat} (q : Tab h p wins) (hK : K (.bool true) h) : ACall prog 21 [ptr p, .int .u8 1, .int .u64 3, .int .u64 7] h K := by
  refine acallF_of tb0 func21 rfl rfl mixed (by kernel_rfl) fun hwf => ?_
  simp -dsimp (disch := omega)
  have e3 : 3 % sumS wins = 3 := rfl
  have key : ∀ nx, NInv wins 1 (3 % sumS wins) (sumS wins) wins.length nx → nx = 7 := by
    intro nx ⟨_, hn⟩
    rcases hn with ⟨_, hn⟩ | ⟨i, w, _, hx, hg, e, _⟩
    · exact absurd rfl (hn 1 ⟨1, 1⟩ (by decide) rfl)
    · rcases wins_at hx with ⟨rfl, rfl⟩ | ⟨rfl, rfl⟩ | ⟨rfl, rfl⟩ | ⟨rfl, rfl⟩
      · cases hg
      · rw [e, sw, s2]
      · cases hg
      · cases hg
  refine next_call (g := 1) (step := 3) q wins_ok (by decide) (by decide) (by rw [sw]; omega) (by rw [sw]; omega) (by omega) (fun e => absurd e (by decide)) (fun k w hx hg _ hlt => ?_) (fun nx hn _ => ?_) (fun hn => absurd (key 0 hn) (by decide))
  · rw [e3] at hlt
    rcases wins_at hx with ⟨rfl, rfl⟩ | ⟨rfl, rfl⟩ | ⟨rfl, rfl⟩ | ⟨rfl, rfl⟩
    · cases hg
    · rw [s3] at hlt; omega
    · cases hg
    · cases hg
  · rw [key nx hn]
    have e1 : upA 3 (7 - 3 % sumS wins) = 7 := by decide
    have e2 : upB 3 (7 - 3 % sumS wins) = true := by decide
    rw [e1, e2]
    simp -dsimp (disch := omega)
    exact RetF.same hwf (by simp) (Nat.zero_le _) (fun _ _ => rfl) hK
theorem awake_call (hK : K (.bool true) h) : ACall prog 6 [] h K := by
  refine acallF_of tb0 func6 rfl rfl mixed (by kernel_rfl) fun hwf => ?_
  simp -dsimp (disch := omega)
  refine given_call ?_
  simp -dsimp (disch := omega)
  have hc : checkW wins 2 = 0 := by decide
  refine new_call (l := wins) wins_ok ⟨rfl, .inr ⟨_, _, _, rfl, blks_alloc_eq _ _, by simp [wins], fun j _ => by simp [wins, winsC, winC]⟩⟩ (by decide) (fun e => absurd hc e) (fun _ _ h' p e1 hp q => ?_)
  have hsame : ∀ i, i < h.next → h'.blks i = h.blks i := fun i hi => by rw [e1.same i (by simp; omega)]; exact blks_alloc_ne _ _ _ (by omega)
  simp -dsimp (disch := omega)
  refine length_call q (by decide) ?_
  rw [sw]
  simp -dsimp (disch := omega)
  refine budget_call (g := 0) q wins_ok (by decide) (by decide) (by rw [sw]; omega) ?_
  rw [show aheadF wins 0 (sumS wins) = 3 from by decide]
  simp -dsimp (disch := omega)
  refine owner_call (step := 2) q wins_ok (by decide) (by decide) (by rw [sw]; omega) (by rw [sw]; omega) (by omega) (fun k w hx ha hb => ?_)
  rw [show 2 % sumS wins = 2 from rfl] at ha hb
  have hw : w.g = 1 := by
    rcases wins_at hx with ⟨rfl, rfl⟩ | ⟨rfl, rfl⟩ | ⟨rfl, rfl⟩ | ⟨rfl, rfl⟩
    · rw [s2] at hb; omega
    · rfl
    · rw [s3] at ha; omega
    · rw [s4] at ha; omega
  rw [hw]
  simp -dsimp (disch := omega)
  refine owner_call (step := 3) q wins_ok (by decide) (by decide) (by rw [sw]; omega) (by rw [sw]; omega) (by omega) (fun k w hx ha hb => ?_)
  rw [show 3 % sumS wins = 3 from rfl] at ha hb
  have hw : w.g = 255 := by
    rcases wins_at hx with ⟨rfl, rfl⟩ | ⟨rfl, rfl⟩ | ⟨rfl, rfl⟩ | ⟨rfl, rfl⟩
    · rw [s2] at hb; omega
    · rw [s3] at hb; omega
    · rfl
    · rw [s4] at ha; omega
  rw [hw]
  simp -dsimp (disch := omega)
  refine owned_call (g := 0) (step := 12) q wins_ok (by decide) (by decide) (by rw [sw]; omega) (by rw [sw]; omega) (by omega) (fun r hr => ?_)
  have hr8 : r = 8 := by rw [hr]; decide
  rw [hr8]
  simp -dsimp (disch := omega)
  refine next7_call q ?_
  simp -dsimp (disch := omega)
  exact RetF.same hwf (by simp) (Nat.zero_le _) hsame hK
end
end Go.Proofs.YtndnpmfoegkkeaaDoor
