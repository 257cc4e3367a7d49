/-
  Read.
-/
import Derived.Test.YtfdhahnnhaeibaaDoorG7
set_option linter.unusedSimpArgs false
set_option linter.unusedVariables false
set_option linter.unusedSectionVars false
namespace Go.Proofs.YtfdhahnnhaeibaaDoor
open Go Go.Mini Go.Proofs.Tryd
set_option maxRecDepth 100000

/-- What a read tells, and the state behind it. -/
def readS (s : St) (off : Nat) : Nat × St :=
  if 0 < off ∧ off < 32 then (s.pr (off / 4), s)
  else if off = 4096 then (pendK s 8, s)
  else if off = 8320 then (s.en 1, s)
  else if off = 8192 then (s.en 0, s)
  else if off = 2101248 then (s.th 1, s)
  else if off = 2097152 then (s.th 0, s)
  else if off = 2101252 then (bestS s 1, claimS s 1)
  else if off = 2097156 then (bestS s 0, claimS s 0)
  else (0, s)
section
variable {h : Hp} {K : Value → Hp → Prop} {p : Nat} {s : St}
set_option maxHeartbeats 2000000 in
theorem read_call {off : Nat} {w : Int} (hb : h.blks p = some ⟨stC s, 1, true⟩) (hs : s.ok) (hp : p < h.next) (ho : off < 18446744073709551616) (k0 : mayN off w = false → K (.tuple #[.int .u64 0, .bool false]) h)
    (k1 : mayN off w = true → ∀ h', (∀ i, i < h.next → i ≠ p → h'.blks i = h.blks i) → h.next ≤ h'.next → h'.blks p = some ⟨stC (readS s off).2, 1, true⟩ → K (.tuple #[.int .u64 (readS s off).1, .bool true]) h') : ACall prog 16 [ptr p, .int .u64 off, .int .i64 w] h K := by
  refine acallF_of tb0 func16 rfl rfl mixed (by kernel_rfl) fun hwf => ?_
  simp -dsimp (disch := omega)
  refine may_call hb ho ?_
  cases hm : mayN off w with
  | false =>
    simp -dsimp (disch := omega)
    exact RetF.same hwf (by simp) (Nat.zero_le _) (fun _ _ => rfl) (k0 hm)
  | true =>
    have hK := k1 hm
    clear k0 k1
    have same : h.set p ⟨stC s, 1, true⟩ = h := set_same hb
    have hb' : ∀ b, (h.alloc b).blks p = some ⟨stC s, 1, true⟩ := fun b => by rw [blks_alloc_ne _ _ _ (by omega)]; exact hb
    simp -dsimp (disch := omega)
    refine find_call ho ?_
    unfold readS at hK
    unfold findV mv
    by_cases c1 : 0 < off ∧ off < 32
    · rw [if_pos c1] at hK ⊢
      have hd : off / 4 < 8 := by omega
      generalize off / 4 = d at *
      simp -dsimp (disch := omega)
      refine priority_call (s := s) (by simp (disch := omega) [hb]) hs hd ?_
      simp -dsimp (disch := omega)
      exact RetF.all (r := .tuple #[.int .u64 _, .bool true]) (by simp) (hK _ (fun i hi hn => by simp (disch := omega)) (by simp) (by simp (disch := omega) [hb]))
    rw [if_neg c1] at hK ⊢
    by_cases n0 : off = 4096
    · rw [if_pos n0] at hK ⊢
      simp -dsimp (disch := omega)
      refine pending_call (s := s) (by simp (disch := omega) [hb]) (by simp; omega) ?_
      simp -dsimp (disch := omega)
      exact RetF.all (r := .tuple #[.int .u64 _, .bool true]) (by simp) (hK _ (fun i hi hn => by simp (disch := omega)) (by simp) (by simp (disch := omega) [hb]))
    rw [if_neg n0] at hK ⊢
    by_cases n1 : off = 8320
    · rw [if_pos n1] at hK ⊢
      simp -dsimp (disch := omega)
      refine enabled_call (s := s) (c := 1) (by simp (disch := omega) [hb]) hs (by omega) ?_
      simp -dsimp (disch := omega)
      exact RetF.all (r := .tuple #[.int .u64 _, .bool true]) (by simp) (hK _ (fun i hi hn => by simp (disch := omega)) (by simp) (by simp (disch := omega) [hb]))
    rw [if_neg n1] at hK ⊢
    by_cases n2 : off = 8192
    · rw [if_pos n2] at hK ⊢
      simp -dsimp (disch := omega)
      refine enabled_call (s := s) (c := 0) (by simp (disch := omega) [hb]) hs (by omega) ?_
      simp -dsimp (disch := omega)
      exact RetF.all (r := .tuple #[.int .u64 _, .bool true]) (by simp) (hK _ (fun i hi hn => by simp (disch := omega)) (by simp) (by simp (disch := omega) [hb]))
    rw [if_neg n2] at hK ⊢
    by_cases n3 : off = 2101248
    · rw [if_pos n3] at hK ⊢
      simp -dsimp (disch := omega)
      refine threshold_call (s := s) (c := 1) (by simp (disch := omega) [hb]) hs (by omega) ?_
      simp -dsimp (disch := omega)
      exact RetF.all (r := .tuple #[.int .u64 _, .bool true]) (by simp) (hK _ (fun i hi hn => by simp (disch := omega)) (by simp) (by simp (disch := omega) [hb]))
    rw [if_neg n3] at hK ⊢
    by_cases n4 : off = 2097152
    · rw [if_pos n4] at hK ⊢
      simp -dsimp (disch := omega)
      refine threshold_call (s := s) (c := 0) (by simp (disch := omega) [hb]) hs (by omega) ?_
      simp -dsimp (disch := omega)
      exact RetF.all (r := .tuple #[.int .u64 _, .bool true]) (by simp) (hK _ (fun i hi hn => by simp (disch := omega)) (by simp) (by simp (disch := omega) [hb]))
    rw [if_neg n4] at hK ⊢
    by_cases n5 : off = 2101252
    · rw [if_pos n5] at hK ⊢
      simp -dsimp (disch := omega)
      refine claim_call (s := s) (c := 1) (by simp (disch := omega) [hb]) hs (by omega) (by simp; omega) ?_
      simp -dsimp (disch := omega)
      exact RetF.all (r := .tuple #[.int .u64 _, .bool true]) (by simp) (hK _ (fun i hi hn => by simp (disch := omega)) (by simp) (by simp (disch := omega) [hb]))
    rw [if_neg n5] at hK ⊢
    by_cases n6 : off = 2097156
    · rw [if_pos n6] at hK ⊢
      simp -dsimp (disch := omega)
      refine claim_call (s := s) (c := 0) (by simp (disch := omega) [hb]) hs (by omega) (by simp; omega) ?_
      simp -dsimp (disch := omega)
      exact RetF.all (r := .tuple #[.int .u64 _, .bool true]) (by simp) (hK _ (fun i hi hn => by simp (disch := omega)) (by simp) (by simp (disch := omega) [hb]))
    rw [if_neg n6] at hK ⊢
    simp -dsimp (disch := omega)
    refine none_call ?_
    simp -dsimp (disch := omega)
    exact RetF.all (r := .tuple #[.int .u64 _, .bool true]) (by simp) (hK _ (fun i hi hn => by simp (disch := omega)) (by simp) (by simp (disch := omega) [hb]))
end
end Go.Proofs.YtfdhahnnhaeibaaDoor
