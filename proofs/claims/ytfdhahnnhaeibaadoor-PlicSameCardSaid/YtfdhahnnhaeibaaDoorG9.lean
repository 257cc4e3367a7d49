/-
  Write.
-/
import Derived.Test.YtfdhahnnhaeibaaDoorG8
set_option linter.unusedSimpArgs false
set_option linter.unusedVariables false
set_option linter.unusedSectionVars false
namespace Go.Proofs.YtfdhahnnhaeibaaDoor
open Go Go.Mini Go.Proofs.Tryd
set_option maxRecDepth 100000

/-- The state behind a write. -/
def writeS (s : St) (off v : Nat) : St :=
  if 0 < off ∧ off < 32 then { s with pr := upd1 s.pr (off / 4) (v % 8) }
  else if off = 4096 then s
  else if off = 8320 then { s with en := upd1 s.en 1 (v &&& 254) }
  else if off = 8192 then { s with en := upd1 s.en 0 (v &&& 254) }
  else if off = 2101248 then { s with th := upd1 s.th 1 (v % 8) }
  else if off = 2097152 then { s with th := upd1 s.th 0 (v % 8) }
  else if off = 2101252 then completeS s 1 (v % 4294967296)
  else if off = 2097156 then completeS s 0 (v % 4294967296)
  else s
section
variable {h : Hp} {K : Value → Hp → Prop} {p : Nat} {s : St}
set_option maxHeartbeats 2000000 in
theorem write_call {off v : Nat} {w : Int} (hb : h.blks p = some ⟨stC s, 1, true⟩) (hs : s.ok) (hp : p < h.next) (ho : off < 18446744073709551616) (hv : v < 18446744073709551616) (k0 : mayN off w = false → K (.bool false) h)
    (k1 : mayN off w = true → ∀ h', (∀ i, i < h.next → i ≠ p → h'.blks i = h.blks i) → h.next ≤ h'.next → h'.blks p = some ⟨stC (writeS s off v), 1, true⟩ → K (.bool true) h') : ACall prog 17 [ptr p, .int .u64 off, .int .u64 v, .int .i64 w] h K := by
  refine acallF_of tb0 func17 rfl rfl mixed (by kernel_rfl) fun hwf => ?_
  simp -dsimp (disch := omega)
  refine may_call hb ho ?_
  cases hm : mayN off w with
  | false =>
    simp -dsimp (disch := omega)
    exact RetF.same hwf (by simp) (Nat.zero_le _) (fun _ _ => rfl) (k0 hm)
  | true =>
    have hK := k1 hm
    clear k0 k1
    simp -dsimp (disch := omega)
    refine find_call ho ?_
    unfold writeS at hK
    unfold findV mv
    by_cases c1 : 0 < off ∧ off < 32
    · rw [if_pos c1] at hK ⊢
      have hd : off / 4 < 8 := by omega
      generalize off / 4 = d at *
      simp -dsimp (disch := omega)
      refine setPriority_call (s := s) (by simp (disch := omega) [hb]) hd hv ?_
      simp -dsimp (disch := omega)
      exact RetF.all (r := .bool true) (by simp) (hK _ (fun i hi hn => by simp (disch := omega)) (by simp) (by simp (disch := omega) [hb]))
    rw [if_neg c1] at hK ⊢
    by_cases n0 : off = 4096
    · rw [if_pos n0] at hK ⊢
      simp -dsimp (disch := omega)
      refine nothing_call ?_
      simp -dsimp (disch := omega)
      exact RetF.all (r := .bool true) (by simp) (hK _ (fun i hi hn => by simp (disch := omega)) (by simp) (by simp (disch := omega) [hb]))
    rw [if_neg n0] at hK ⊢
    by_cases n1 : off = 8320
    · rw [if_pos n1] at hK ⊢
      simp -dsimp (disch := omega)
      refine enable_call (s := s) (c := 1) (by simp (disch := omega) [hb]) (by omega) hv ?_
      simp -dsimp (disch := omega)
      exact RetF.all (r := .bool true) (by simp) (hK _ (fun i hi hn => by simp (disch := omega)) (by simp) (by simp (disch := omega) [hb]))
    rw [if_neg n1] at hK ⊢
    by_cases n2 : off = 8192
    · rw [if_pos n2] at hK ⊢
      simp -dsimp (disch := omega)
      refine enable_call (s := s) (c := 0) (by simp (disch := omega) [hb]) (by omega) hv ?_
      simp -dsimp (disch := omega)
      exact RetF.all (r := .bool true) (by simp) (hK _ (fun i hi hn => by simp (disch := omega)) (by simp) (by simp (disch := omega) [hb]))
    rw [if_neg n2] at hK ⊢
    by_cases n3 : off = 2101248
    · rw [if_pos n3] at hK ⊢
      simp -dsimp (disch := omega)
      refine setThreshold_call (s := s) (c := 1) (by simp (disch := omega) [hb]) (by omega) hv ?_
      simp -dsimp (disch := omega)
      exact RetF.all (r := .bool true) (by simp) (hK _ (fun i hi hn => by simp (disch := omega)) (by simp) (by simp (disch := omega) [hb]))
    rw [if_neg n3] at hK ⊢
    by_cases n4 : off = 2097152
    · rw [if_pos n4] at hK ⊢
      simp -dsimp (disch := omega)
      refine setThreshold_call (s := s) (c := 0) (by simp (disch := omega) [hb]) (by omega) hv ?_
      simp -dsimp (disch := omega)
      exact RetF.all (r := .bool true) (by simp) (hK _ (fun i hi hn => by simp (disch := omega)) (by simp) (by simp (disch := omega) [hb]))
    rw [if_neg n4] at hK ⊢
    by_cases n5 : off = 2101252
    · rw [if_pos n5] at hK ⊢
      simp -dsimp (disch := omega)
      refine complete_call (s := s) (c := 1) (by simp (disch := omega) [hb]) hs (by omega) hv ?_
      simp -dsimp (disch := omega)
      exact RetF.all (r := .bool true) (by simp) (hK _ (fun i hi hn => by simp (disch := omega)) (by simp) (by simp (disch := omega) [hb]))
    rw [if_neg n5] at hK ⊢
    by_cases n6 : off = 2097156
    · rw [if_pos n6] at hK ⊢
      simp -dsimp (disch := omega)
      refine complete_call (s := s) (c := 0) (by simp (disch := omega) [hb]) hs (by omega) hv ?_
      simp -dsimp (disch := omega)
      exact RetF.all (r := .bool true) (by simp) (hK _ (fun i hi hn => by simp (disch := omega)) (by simp) (by simp (disch := omega) [hb]))
    rw [if_neg n6] at hK ⊢
    simp -dsimp (disch := omega)
    refine nothing_call ?_
    simp -dsimp (disch := omega)
    exact RetF.all (r := .bool true) (by simp) (hK _ (fun i hi hn => by simp (disch := omega)) (by simp) (by simp (disch := omega) [hb]))
end
end Go.Proofs.YtfdhahnnhaeibaaDoor
