/-
  Send, Receive, New.
-/
import Derived.Test.YtggohjlfhomafaaQ1
set_option linter.unusedSimpArgs false
set_option linter.unusedVariables false
set_option linter.unusedSectionVars false
namespace Go.Proofs.Ytggohjlfhomafaa
open Go Go.Mini Go.Proofs.Try

section
variable {h : Hp} {K : Value → Hp → Prop} {p : Nat} {rg : Nat → ByteArray} {f m d o : Nat}
def newOk (a b : Nat) : Bool := decide (1 ≤ a) && decide (a ≤ 16) && decide (1 ≤ b) && decide (b ≤ 64)
def noRg : Nat → ByteArray := fun _ => txt []
theorem new_call {a b : Nat} (ha : a < 256) (hb : b < 256) (h1 : newOk a b = true → K (.tuple #[.pointer (some ⟨h.next, 0, none⟩), .int .i64 0]) (h.alloc (qB noRg 0 0 a b)))
    (h2 : newOk a b = false → K (.tuple #[.pointer none, .int .i64 2]) h) : ACall prog 7 [.int .u8 a, .int .u8 b] h K := by
  refine acallF_of tb0 func7 rfl rfl mixed (by kernel_rfl) fun hwf => ?_
  by_cases hok : newOk a b = true
  · have hK := h1 hok
    clear h1 h2
    have hok' : 1 ≤ a ∧ a ≤ 16 ∧ 1 ≤ b ∧ b ≤ 64 := by simpa [newOk, and_assoc] using hok
    obtain ⟨a0, a1, b0, b1⟩ := hok'
    have c1 : ¬ (a : Int) = 0 := by omega
    have c2 : ¬ (16 : Int) < a := by omega
    have c3 : ¬ (b : Int) = 0 := by omega
    have c4 : ¬ (64 : Int) < b := by omega
    have n1 : ¬ a = 0 := by omega
    have n2 : ¬ b = 0 := by omega
    simp -dsimp (disch := omega) [c1, c2, c3, c4, n1, n2]
    refine RetF.all (r := .tuple #[.pointer (some ⟨h.next, 0, none⟩), .int .i64 0]) (by simp) ?_
    exact hK
  · have hK := h2 (by simpa using hok)
    clear h1 h2
    have hok' : ¬ (1 ≤ a ∧ a ≤ 16 ∧ 1 ≤ b ∧ b ≤ 64) := by simpa [newOk, and_assoc] using hok
    by_cases c1 : a = 0
    · simp -dsimp (disch := omega) [c1]
      exact RetF.same hwf (by simp) (Nat.zero_le _) (fun _ _ => rfl) hK
    · by_cases c2 : (16 : Int) < a
      · simp -dsimp (disch := omega) [c1, c2]
        exact RetF.same hwf (by simp) (Nat.zero_le _) (fun _ _ => rfl) hK
      · by_cases c3 : b = 0
        · simp -dsimp (disch := omega) [c1, c2, c3]
          exact RetF.same hwf (by simp) (Nat.zero_le _) (fun _ _ => rfl) hK
        · have c4 : (64 : Int) < b := by omega
          simp -dsimp (disch := omega) [c1, c2, c3, c4]
          exact RetF.same hwf (by simp) (Nat.zero_le _) (fun _ _ => rfl) hK

theorem send_call {S : ByteArray} (hb : h.blks p = some (qB rg f m d o)) (hd : 0 < d) (hd2 : d ≤ 16) (hf : f < d) (hm : m ≤ d) (ho : o ≤ 64) (hS : (S.size : Int) ≤ 9223372036854775807)
    (h1 : o < S.size → K (.int .u8 3) h) (h2 : S.size ≤ o → m = d → K (.int .u8 1) h) (h3 : S.size ≤ o → m < d → K (.int .u8 0) (h.set p (qB (updR rg ((f + m) % d) S) f (m + 1 : Nat) d o))) : ACall prog 11 [.pointer (some ⟨p, 0, none⟩), .string S] h K := by
  refine acallF_of tb0 func11 rfl rfl mixed (by kernel_rfl) fun hwf => ?_
  simp -dsimp (disch := omega)
  refine isq_call hb (by omega) ?_
  unfold qB at hb h3
  by_cases c1 : o < S.size
  · have c1' : (o : Int) < S.size := by omega
    simp -dsimp (disch := omega) [hb, c1']
    exact RetF.same hwf (by simp) (Nat.zero_le _) (fun _ _ => rfl) (h1 c1)
  · have c1' : ¬ (o : Int) < S.size := by omega
    by_cases c2 : m = d
    · have c2' : (m : Int) = d := by omega
      simp -dsimp (disch := omega) [hb, c1', c2', c2]
      exact RetF.same hwf (by simp) (Nat.zero_le _) (fun _ _ => rfl) (h2 (by omega) c2)
    · have c2' : ¬ (m : Int) = d := by omega
      obtain ⟨k, hk⟩ : ∃ k, k = (f + m) % d := ⟨_, rfl⟩
      have hkd : k < d := by rw [hk]; exact Nat.mod_lt _ hd
      have e : ((f : Int) + m) % d = k := by rw [hk]; simp
      have hK := h3 (by omega) (by omega)
      rw [← hk] at hK
      have c4 := qC_set rg f m d o S k (by omega)
      simp -dsimp (disch := omega) [hb, c1', c2', c2, e, c4]
      refine RetF.all (r := .int .u8 0) (by simp) ?_
      rw [show ((m : Int) + 1) = ((m + 1 : Nat) : Int) by omega]
      exact hK
theorem recv_empty (hb : h.blks p = some (qB rg f 0 d o)) (hd : 0 < d) (hK : K (.tuple #[.string (txt []), .int .u8 4]) h) : ACall prog 12 [.pointer (some ⟨p, 0, none⟩)] h K := by
  refine acallF_of tb0 func12 rfl rfl mixed (by kernel_rfl) fun hwf => ?_
  simp -dsimp (disch := omega)
  refine isq_call hb (by omega) ?_
  unfold qB at hb
  simp -dsimp (disch := omega) [hb]
  exact RetF.same hwf (by simp) (Nat.zero_le _) (fun _ _ => rfl) hK
theorem recv_call (hb : h.blks p = some (qB rg f m d o)) (hd : 0 < d) (hd2 : d ≤ 16) (hf : f < d) (hm : m ≤ d) (hm0 : 0 < m)
    (hK : K (.tuple #[.string (rg f), .int .u8 0]) (h.set p (qB (updR rg f (txt [])) ((f + 1) % d : Nat) (m - 1 : Nat) d o))) : ACall prog 12 [.pointer (some ⟨p, 0, none⟩)] h K := by
  refine acallF_of tb0 func12 rfl rfl mixed (by kernel_rfl) fun hwf => ?_
  simp -dsimp (disch := omega)
  refine isq_call hb (by omega) ?_
  unfold qB at hb hK
  have c0 : ¬ (m : Int) = 0 := by omega
  have c1 := qC_at rg f m d o f (by omega)
  have n0 : ¬ m = 0 := by omega
  have c4 := qC_set rg f m d o (txt []) f (by omega)
  obtain ⟨k, hk⟩ : ∃ k, k = (f + 1) % d := ⟨_, rfl⟩
  have hkd : k < d := by rw [hk]; exact Nat.mod_lt _ hd
  have e : ((f : Int) + 1) % d = k := by rw [hk]; simp
  rw [← hk] at hK
  simp -dsimp (disch := omega) [hb, c0, c1, n0, e, c4]
  refine RetF.all (r := .tuple #[.string (rg f), .int .u8 0]) (by simp) ?_
  rw [show ((m : Int) - 1) = ((m - 1 : Nat) : Int) by omega]
  exact hK
end
end Go.Proofs.Ytggohjlfhomafaa
