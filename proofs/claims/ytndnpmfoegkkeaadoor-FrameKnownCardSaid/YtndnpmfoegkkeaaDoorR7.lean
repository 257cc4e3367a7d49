/-
  Tables that are none.
-/
import Derived.Test.YtndnpmfoegkkeaaDoorR5
set_option linter.unusedSimpArgs false
set_option linter.unusedVariables false
set_option linter.unusedSectionVars false
namespace Go.Proofs.YtndnpmfoegkkeaaDoor
open Go Go.Mini Go.Proofs.Tryd
set_option maxRecDepth 100000

def NoT (h : Hp) (v : Value) : Prop := v = .pointer none ∨ ∃ p, v = ptr p ∧ p < h.next ∧ h.blks p = some ⟨#[.slice none 0 0, .slice none 0 0], 1, true⟩
theorem NoT.mono {h h' : Hp} {v : Value} (hn : NoT h v) (hl : h.next ≤ h'.next) (hs : ∀ i, i < h.next → h'.blks i = h.blks i) : NoT h' v := by
  rcases hn with rfl | ⟨p, rfl, hp, hb⟩
  · exact .inl rfl
  · exact .inr ⟨p, rfl, by omega, by rw [hs p hp]; exact hb⟩
theorem NoT.ptr {h : Hp} {v : Value} (hn : NoT h v) : ∃ a, v = .pointer a := by
  rcases hn with rfl | ⟨p, rfl, hp, hb⟩
  · exact ⟨_, rfl⟩
  · exact ⟨_, rfl⟩
section
variable {h : Hp} {K : Value → Hp → Prop} {v : Value}
theorem is_no (hn : NoT h v) (hK : K (.bool false) h) : ACall prog 23 [v] h K := by
  refine acallF_of tb0 func23 rfl rfl mixed (by kernel_rfl) fun hwf => ?_
  rcases hn with rfl | ⟨p, rfl, hp, hb⟩
  · simp -dsimp (disch := omega)
    exact RetF.same hwf (by simp) (Nat.zero_le _) (fun _ _ => rfl) hK
  · simp -dsimp (disch := omega) [hb]
    exact RetF.same hwf (by simp) (Nat.zero_le _) (fun _ _ => rfl) hK
theorem length_no (hn : NoT h v) (hK : K (.int .u64 0) h) : ACall prog 9 [v] h K := by
  refine acallF_of tb0 func9 rfl rfl mixed (by kernel_rfl) fun hwf => ?_
  simp -dsimp (disch := omega)
  refine is_no hn ?_
  simp -dsimp (disch := omega)
  exact RetF.same hwf (by simp) (Nat.zero_le _) (fun _ _ => rfl) hK
theorem owner_no {x : Nat} (hn : NoT h v) (hK : K (.int .u8 255) h) : ACall prog 14 [v, .int .u64 x] h K := by
  refine acallF_of tb0 func14 rfl rfl mixed (by kernel_rfl) fun hwf => ?_
  simp -dsimp (disch := omega)
  refine is_no (hn.mono (by simp) fun i hi => blks_alloc_ne _ _ _ (by omega)) ?_
  simp -dsimp (disch := omega)
  exact RetF.same (r := .int .u8 255) hwf (by simp) (Nat.zero_le _) (fun i hi => by simp (disch := omega)) hK
theorem owned_no {g x : Nat} (hn : NoT h v) (hK : K (.int .u64 0) h) : ACall prog 17 [v, .int .u8 g, .int .u64 x] h K := by
  refine acallF_of tb0 func17 rfl rfl mixed (by kernel_rfl) fun hwf => ?_
  simp -dsimp (disch := omega)
  refine is_no hn ?_
  simp -dsimp (disch := omega)
  exact RetF.same hwf (by simp) (Nat.zero_le _) (fun _ _ => rfl) hK
theorem windows_no (hn : NoT h v) (hK : K (.func (.func 29) #[] #[Go.Proofs.YtndnpmfoegkkeaaDoor.ptr h.next]) (h.alloc ⟨#[v], 1, true⟩)) : ACall prog 19 [v] h K := by
  refine acallF_of tb0 func19 rfl rfl mixed (by kernel_rfl) fun hwf => ?_
  obtain ⟨a, rfl⟩ := hn.ptr
  simp -dsimp (disch := omega)
  exact RetF.all (by simp) hK
theorem each_no [E : REnv] {L c : Nat} (hb : h.blks c = some ⟨#[v], 1, true⟩) (hn : NoT h v) (hK : K (.tuple #[]) h) : ACall prog 29 [.func (.yield L) #[] #[], Go.Proofs.YtndnpmfoegkkeaaDoor.ptr c] h K := by
  refine acallF_of tb0 func29 rfl rfl mixed (by kernel_rfl) fun hwf => ?_
  obtain ⟨a, rfl⟩ := hn.ptr
  simp -dsimp (disch := omega) [hb]
  refine ACall.any (is_no hn ?_)
  simp -dsimp (disch := omega)
  exact RetF.all (by simp) hK
theorem ahead_no {g x : Nat} (hn : NoT h v) (hK : K (.int .u64 0) h) : ACall prog 28 [v, .int .u8 g, .int .u64 x] h K := by
  refine acallF_of tb0 func28 rfl rfl mixed (by kernel_rfl) fun hwf => ?_
  obtain ⟨a, rfl⟩ := hn.ptr
  simp -dsimp (disch := omega)
  refine windows_no (hn.mono (by simp; omega) fun i hi => by simp (disch := omega)) ?_
  simp -dsimp (disch := omega)
  refine awpF_gen fun T G hT hG => ?_
  have gn : G.next = h.next + 4 := by rw [hG]; simp
  have gs : ∀ i, i < h.next → G.blks i = h.blks i := fun i hi => by rw [hG]; simp (disch := omega)
  have g2 : G.blks (h.next + 2) = some ⟨#[.int .u64 0], 1, true⟩ := by rw [hG]; simp (disch := omega)
  have g3 : G.blks (h.next + 3) = some ⟨#[.pointer a], 1, true⟩ := by rw [hG]; simp (disch := omega)
  have T10 : T 10 = .func (.func 29) #[] #[Go.Proofs.YtndnpmfoegkkeaaDoor.ptr (h.next + 3)] := by rw [hT]; rfl
  have T6 : T 6 = Go.Proofs.YtndnpmfoegkkeaaDoor.ptr (h.next + 2) := by rw [hT]; rfl
  clear hT hG
  refine awp_rangeN (fun args hh K => False) (fun hh => hh.jump = none ∧ (∀ i, i < h.next → hh.blks i = h.blks i) ∧ hh.blks (h.next + 2) = some ⟨#[.int .u64 0], 1, true⟩) T10 (by kernel_rfl) (by simp) rfl rfl ?_ ?_ ?_
  · rintro args hh K ⟨⟩
  · rintro h' ⟨j1, j2, j3⟩
    refine ⟨j1, ?_⟩
    simp -dsimp (disch := omega) [T6, j3]
    exact RetF.same (r := .int .u64 0) hwf (by simp (disch := omega) [T6]) (Nat.zero_le _) (fun i hi => by simp (disch := omega) [j2 i hi]) hK
  · intro E1 hcan hY
    exact each_no g3 (hn.mono (by show h.next ≤ G.next + 1; omega) (fun i hi => gs i hi)) ⟨rfl, gs, g2⟩
theorem budget_no {g : Nat} (hn : NoT h v) (hK : K (.int .u64 0) h) : ACall prog 15 [v, .int .u8 g] h K := by
  refine acallF_of tb0 func15 rfl rfl mixed (by kernel_rfl) fun hwf => ?_
  simp -dsimp (disch := omega)
  refine length_no hn ?_
  simp -dsimp (disch := omega)
  refine ahead_no (x := 0) hn ?_
  simp -dsimp (disch := omega)
  exact RetF.same hwf (by simp) (Nat.zero_le _) (fun _ _ => rfl) hK
theorem next_no {g x : Nat} (hn : NoT h v) (hK : K (.tuple #[.int .u64 0, .bool false]) h) : ACall prog 12 [v, .int .u8 g, .int .u64 x] h K := by
  refine acallF_of tb14 func12 rfl rfl mixed (by kernel_rfl) fun hwf => ?_
  obtain ⟨a, rfl⟩ := hn.ptr
  simp -dsimp (disch := omega)
  refine budget_no (hn.mono (by simp; omega) fun i hi => by simp (disch := omega)) ?_
  simp -dsimp (disch := omega)
  exact RetF.same (r := .tuple #[.int .u64 0, .bool false]) hwf (by simp (disch := omega)) (Nat.zero_le _) (fun i hi => by simp (disch := omega)) hK
theorem text_no (hn : NoT h v) (hK : K (.string (txt [])) h) : ACall prog 10 [v] h K := by
  refine acallF_of tb10 func10 rfl rfl mixed (by kernel_rfl) fun hwf => ?_
  obtain ⟨a, rfl⟩ := hn.ptr
  simp -dsimp (disch := omega)
  refine windows_no (hn.mono (by simp) fun i hi => by simp (disch := omega)) ?_
  simp -dsimp (disch := omega)
  refine awpF_gen fun T G hT hG => ?_
  have gn : G.next = h.next + 2 := by rw [hG]; simp
  have gs : ∀ i, i < h.next → G.blks i = h.blks i := fun i hi => by rw [hG]; simp (disch := omega)
  have g0 : G.blks h.next = some ⟨#[.slice none 0 0], 1, true⟩ := by rw [hG]; simp (disch := omega)
  have g1 : G.blks (h.next + 1) = some ⟨#[.pointer a], 1, true⟩ := by rw [hG]; simp (disch := omega)
  have T8 : T 8 = .func (.func 29) #[] #[Go.Proofs.YtndnpmfoegkkeaaDoor.ptr (h.next + 1)] := by rw [hT]; rfl
  have T3 : T 3 = Go.Proofs.YtndnpmfoegkkeaaDoor.ptr h.next := by rw [hT]; rfl
  clear hT hG
  refine awp_rangeN (fun args hh K => False) (fun hh => hh.jump = none ∧ (∀ i, i < h.next → hh.blks i = h.blks i) ∧ hh.blks h.next = some ⟨#[.slice none 0 0], 1, true⟩) T8 (by kernel_rfl) (by simp) rfl rfl ?_ ?_ ?_
  · rintro args hh K ⟨⟩
  · rintro h' ⟨j1, j2, j3⟩
    refine ⟨j1, ?_⟩
    simp -dsimp (disch := omega) [T3, j3]
    refine ACall.of_calls ⟨_, _, func25, rfl, rfl⟩ (r := .string (txt [])) (by simp [vtop]) rfl (fun w => (Go.Proofs.Tryd.strings_Join_none none 0 (txt [32]) w).mono fun e w' ⟨h1, h2⟩ => ⟨h1, by subst h2; exact RowKit.Below.refl _ _⟩) ?_
    simp -dsimp (disch := omega)
    exact RetF.same (r := .string (txt [])) hwf (by simp) (Nat.zero_le _) j2 hK
  · intro E1 hcan hY
    exact each_no g1 (hn.mono (by show h.next ≤ G.next + 1; omega) (fun i hi => gs i hi)) ⟨rfl, gs, g0⟩
end
end Go.Proofs.YtndnpmfoegkkeaaDoor
