/-
  A memory: New, Reserve, Held, Drop, Clear, Put, Bytes.
-/
import Derived.Test.YtkbiadobkheafaaG1
set_option linter.unusedSimpArgs false
set_option linter.unusedVariables false
set_option linter.unusedSectionVars false
namespace Go.Proofs.Ytkbiadobkheafaa.Rm
set_option maxRecDepth 100000
open Go Go.Mini Go.Proofs.Try

section
variable {h : Hp} {p b N C : Nat} {M : Nat → Nat} {a : Nat} {w : Int} {K : Value → Hp → Prop}

theorem Ram.claim {a' : Nat} {w' : Int} (r : Ram h p b N C M a w) (ha : a' < N) : Ram (h.set p ⟨ramC b N C a' w', 1, true⟩) p b N C M a' w' :=
  ⟨blks_set_eq _ _ _, by rw [blks_set_ne _ _ _ _ r.ne]; exact r.row, r.ne, r.plt, r.blt, r.N0, r.N1, ha, r.M8, r.NC⟩
theorem Ram.fill {M' : Nat → Nat} (r : Ram h p b N C M a w) (h8 : ∀ i, M' i < 256) : Ram (h.set b ⟨mem N M', 1, true⟩) p b N C M' a w :=
  ⟨by rw [blks_set_ne _ _ _ _ (Ne.symm r.ne)]; exact r.blk, blks_set_eq _ _ _, r.ne, r.plt, r.blt, r.N0, r.N1, r.a1, h8, r.NC⟩
theorem Ram.mono {h' : Hp} (r : Ram h p b N C M a w) (hn : h.next ≤ h'.next) (hp : h'.blks p = h.blks p) (hb : h'.blks b = h.blks b) : Ram h' p b N C M a w :=
  ⟨by rw [hp]; exact r.blk, by rw [hb]; exact r.row, r.ne, Nat.lt_of_lt_of_le r.plt hn, Nat.lt_of_lt_of_le r.blt hn, r.N0, r.N1, r.a1, r.M8, r.NC⟩
theorem toA_lt {x n : Nat} (ha : a < N) : toA a x n < N := by unfold toA; split <;> omega

theorem ramNew_call {n : Nat} (h1 : 1 ≤ n) (h2 : n ≤ 16) (hK : ∀ h' p b, Ext h h' → h.next ≤ p → h.next ≤ b → Ram h' p b (n * 4096) (n * 4096) (fun _ => 0) 0 0 → K (ptr p) h') : ACall prog 7 [.int .i64 n] h K := by
  refine acallF_of tb0 func7 rfl rfl mixed (by kernel_rfl) fun hwf => ?_
  have c1 : ¬ (n : Int) < 1 := by omega
  have c2 : ¬ 16 < (n : Int) := by omega
  obtain ⟨N, hN⟩ : ∃ N : Nat, N = n * 4096 := ⟨_, rfl⟩
  have hN' : (n : Int) * 4096 = N := by omega
  simp -dsimp (disch := omega) [c1, c2, hN']
  refine mk_row rfl rfl ⟨by unfold ROOM; omega, by unfold ROOM; omega⟩ ?_
  simp -dsimp (disch := omega) [c1, c2, hN']
  rw [show zeroRow #[.int .u8 0] N = mem N (fun _ => 0) from by have := mem_zero N; simpa using this]
  refine RetF.all (r := ptr (h.next + 1)) (by simp) (hK _ _ h.next ((Ext.alloc h _).then_alloc _) (by omega) (Nat.le_refl _) ?_)
  rw [← hN]
  exact ⟨blks_alloc_at _ _ _ (by simp), by rw [blks_alloc_ne _ _ _ (by simp)]; exact blks_alloc_eq _ _, by omega, by simp, by simp; omega, by omega, by omega, by omega, fun _ => by omega, Nat.le_refl _⟩
theorem ramNew_nil {n : Int} (hn : n < 1 ∨ 16 < n) (hK : K (.pointer none) h) : ACall prog 7 [.int .i64 n] h K := by
  refine acallF_of tb0 func7 rfl rfl mixed (by kernel_rfl) fun hwf => ?_
  by_cases c1 : n < 1
  · simp -dsimp (disch := omega) [c1]
    exact RetF.same hwf (by simp) (Nat.zero_le _) (fun _ _ => rfl) hK
  · have c2 : 16 < n := by omega
    simp -dsimp (disch := omega) [c1, c2]
    exact RetF.same hwf (by simp) (Nat.zero_le _) (fun _ _ => rfl) hK

/-- A claim that may be. -/
def cok (N x : Nat) (n : Int) : Prop := (n = 4 ∨ n = 8) ∧ x + n.toNat ≤ N ∧ x % n.toNat = 0
instance (N x : Nat) (n : Int) : Decidable (cok N x n) := by unfold cok; infer_instance

end
end Go.Proofs.Ytkbiadobkheafaa.Rm
