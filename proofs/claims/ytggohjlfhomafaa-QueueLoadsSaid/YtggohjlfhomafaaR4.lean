/-
  The queue that any bytes tell: the law's body.
-/
import Derived.Test.YtggohjlfhomafaaR3
set_option linter.unusedSimpArgs false
set_option linter.unusedVariables false
set_option linter.unusedSectionVars false
namespace Go.Proofs.Ytggohjlfhomafaa
open Go Go.Mini Go.Proofs.Try

section
variable {h : Hp} {K : Value → Hp → Prop}
theorem loadF_err {d o : Nat} {L : List UInt8} {e : Nat} (h : loadF d o L = .error e) : e ≠ 0 := by
  have r : ∀ (k : Nat) (r : List UInt8) (e : Nat), ldF o k r = .error e → e ≠ 0 := by
    intro k
    induction k with
    | zero => intro r e h; cases h
    | succ k ih =>
      intro r e h
      cases r with
      | nil => cases h; decide
      | cons n r =>
        simp only [ldF] at h
        split at h
        · cases h; decide
        · split at h
          · cases h; decide
          · split at h
            · cases h
            · rename_i hq
              cases h
              exact ih _ _ hq
  rw [loadF_fin] at h
  split at h
  · cases h; decide
  · have r2 : ∀ e, toF o L = .error e → e ≠ 0 := by
      cases L with
      | nil => intro e h; cases h; decide
      | cons m l => intro e h; exact r _ _ _ h
    cases hT : toF o L with
    | error e' => rw [hT] at h; cases h; exact r2 _ hT
    | ok x =>
      rw [hT] at h
      rcases x with ⟨M, _ | ⟨y, l⟩⟩
      · cases h
      · cases h; decide
set_option maxHeartbeats 1000000 in
theorem queueLoads_call {a b : Nat} (ha : a < 256) (hb : b < 256) {S : ByteArray} (hK : K (.bool true) h) : ACall prog 6 [.int .u8 a, .int .u8 b, .string S] h K := by
  refine acallF_of tb0 func6 rfl rfl mixed (by kernel_rfl) fun hwf => ?_
  by_cases hc : (2000 : Int) < S.size
  · simp -dsimp (disch := omega) [hc]
    refine awake_call ?_
    simp -dsimp (disch := omega)
    exact RetF.same hwf (by simp) (Nat.zero_le _) (fun _ _ => rfl) hK
  · obtain ⟨L, rfl⟩ : ∃ L, S = txt L := ⟨S.data.toList, rfl⟩
    have hl : L.length ≤ 2000 := by rw [txt_size] at hc; omega
    obtain ⟨S, hSe⟩ : ∃ S, S = txt L := ⟨_, rfl⟩
    rw [← hSe] at hc hwf ⊢
    simp -dsimp (disch := omega) [hc]
    rw [hSe]
    refine load_call ha hb hl (fun hn => ?_) (fun hn e he => ?_) (fun hn M hM h1 p hp hpl e1 q1 => ?_)
    · simp -dsimp (disch := omega)
      refine refLoad_call (p := 0) ha hb (fun hn' => absurd hn' (by simp [hn])) hl (fun _ => ?_) (fun hn' => absurd hn' (by simp [hn])) (fun hn' => absurd hn' (by simp [hn]))
      simp -dsimp (disch := omega)
      refine awake_call ?_
      simp -dsimp (disch := omega)
      exact RetF.same hwf (by simp) (Nat.zero_le _) (fun _ _ => rfl) hK
    · simp -dsimp (disch := omega)
      have hne := loadF_err he
      refine refLoad_call (p := 0) ha hb (fun _ ⟨M, hM⟩ => by rw [hM] at he; cases he) hl (fun hn' => absurd hn' (by simp [hn])) (fun _ e' he' => ?_) (fun _ M hM => by rw [hM] at he; cases he)
      rw [he] at he'
      cases he'
      have hne' : ¬ (e : Int) = 0 := by omega
      simp -dsimp (disch := omega) [hne, hne']
      refine awake_call ?_
      simp -dsimp (disch := omega)
      exact RetF.same hwf (by simp) (Nat.zero_le _) (fun _ _ => rfl) hK
    · simp -dsimp (disch := omega)
      refine refLoad_call (p := p) ha hb (fun _ _ => hpl) hl (fun hn' => absurd hn' (by simp [hn])) (fun _ e he => by rw [hM] at he; cases he) (fun _ M' hM' h2 r hr e2 q2 => ?_)
      rw [hM] at hM'
      cases hM'
      simp -dsimp (disch := omega)
      refine alike_call (q1.mono (e2.same _ hpl)) (by have := e2.le; omega) q2 ?_
      simp -dsimp (disch := omega)
      refine awake_call ?_
      simp -dsimp (disch := omega)
      exact RetF.same hwf (by simp) (Nat.zero_le _) (e1.trans e2).same hK
end
end Go.Proofs.Ytggohjlfhomafaa
