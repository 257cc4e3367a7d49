/-
  The document's walk: Wrote, Begin, Run.
-/
import Derived.Test.YtkddajmfljlhiaaX4
set_option linter.unusedSimpArgs false
set_option linter.unusedVariables false
namespace Go.Proofs.Ytkddajmfljlhiaa
open Go Go.Mini Go.Proofs.Try

section
variable {h : Hp} {K : Value → Hp → Prop} {wp : Nat} {x : Ask} {r : Res} {en pu : Bool} {wa wo pe : Nat}
theorem rwrote_call {b : Bool} (hw : h.blks wp = some ⟨wsA x r en wa pu wo pe, 1, true⟩) (hn : 0 < r.n ∧ r.n ≤ 3) (hp : pe < 18446744073709551616) (ox : x.ok)
    (hK1 : b = false → K (.tuple #[]) (h.set wp ⟨wsA x (failR 2 r.a0 r.a1 r.a2 r.n) true wa false wo pe, 1, true⟩))
    (hK2 : b = true → K (.tuple #[]) (h.set wp ⟨wsA x ⟨r.f, paL x (3 - r.n) pe, 3 - r.n, pe, r.a0, r.a1, r.a2, r.n⟩ true wa false wo pe, 1, true⟩)) : ACall prog 30 [ptr wp, .bool b] h K := by
  refine acallF_of tb0 func30 rfl rfl mixed (by kernel_rfl) fun hwf => ?_
  cases b
  · simp -dsimp (disch := omega) [hw]
    refine rfail_call (blks_set_eq _ _ _) ?_
    rw [Hp.set_set]
    simp -dsimp (disch := omega)
    exact RetF.all (r := .tuple #[]) (by simp) (hK1 rfl)
  · simp -dsimp (disch := omega) [hw]
    refine rend_call (blks_set_eq _ _ _) hn hp ox ?_
    rw [Hp.set_set]
    simp -dsimp (disch := omega)
    exact RetF.all (r := .tuple #[]) (by simp) (hK2 rfl)
set_option maxRecDepth 100000 in
theorem begin_call (ox : x.ok)
    (hK1 : bareB x = true → ∀ h' wp, Ext h h' → h.next ≤ wp → wp < h'.next → h'.blks wp = some ⟨wsA x ⟨0, x.va, 0, 0, 0, 0, 0, 0⟩ true 0 false 0 0, 1, true⟩ → K (ptr wp) h')
    (hK2 : bareB x = false → canB x.va = false → ∀ h' wp, Ext h h' → h.next ≤ wp → wp < h'.next → h'.blks wp = some ⟨wsA x (failR 1 0 0 0 0) true 0 false 0 0, 1, true⟩ → K (ptr wp) h')
    (hK3 : bareB x = false → canB x.va = true → ∀ h' wp, Ext h h' → h.next ≤ wp → wp < h'.next → h'.blks wp = some ⟨wsA x ⟨0, 0, 0, 0, nx0 0 0 (addN x 2 (tab0 x)), nx1 0 0 (addN x 2 (tab0 x)), nx2 0 0 (addN x 2 (tab0 x)), 0 + 1⟩ false (addN x 2 (tab0 x)) false 0 0, 1, true⟩ → K (ptr wp) h') : ACall prog 28 [askV x] h K := by
  refine acallF_of tb0 func28 rfl rfl mixed (by kernel_rfl) fun hwf => ?_
  have ox' := ox
  obtain ⟨o1, o2, o3, o4⟩ := ox
  obtain ⟨G, hG⟩ : ∃ G, G = (h.alloc ⟨#[.int .u64 x.va, .int .u64 x.satp, .int .u8 x.kind, .int .u8 x.mode, .bool x.sum, .bool x.mxr], 1, true⟩).alloc ⟨#[.int .u64 x.va, .int .u64 x.satp, .int .u8 x.kind, .int .u8 x.mode, .bool x.sum, .bool x.mxr, .int .u8 0, .int .u64 0, .int .i64 0, .int .u64 0, .int .u64 0, .int .u64 0, .int .u64 0, .int .i64 0, .bool false, .int .u64 0, .bool false, .int .u64 0, .int .u64 0], 1, true⟩ := ⟨_, rfl⟩
  have EG : Ext h G := by rw [hG]; exact (Ext.alloc h _).then_alloc _
  have gN : G.next = h.next + 2 := by rw [hG]; rfl
  have gA : G.blks h.next = some ⟨#[.int .u64 x.va, .int .u64 x.satp, .int .u8 x.kind, .int .u8 x.mode, .bool x.sum, .bool x.mxr], 1, true⟩ := by
    rw [hG, blks_alloc_ne _ _ _ (by simp), blks_alloc_eq]
  have gW : G.blks (h.next + 1) = some ⟨wsA x ⟨0, 0, 0, 0, 0, 0, 0, 0⟩ false 0 false 0 0, 1, true⟩ := by
    rw [hG]; exact blks_alloc_eq _ _
  have bC := fun (K' : Value → Hp → Prop) (a : _) => rbare_call (h := G) (K := K') ox' a
  have cC := fun (K' : Value → Hp → Prop) (a : _) => rcan_call (h := G) (K := K') o1 a
  have hext : ∀ b, Ext h (G.set (h.next + 1) b) := fun b => EG.then_set b (by omega)
  have hn1 : ¬ h.next = h.next + 1 := by omega
  unfold askV at bC ⊢
  simp -dsimp (disch := omega) [← hG, gA]
  refine bC _ ?_
  cases hb : bareB x
  · simp -dsimp (disch := omega) [gA]
    refine cC _ ?_
    cases hc : canB x.va
    · simp -dsimp (disch := omega)
      refine rfail_call gW ?_
      simp -dsimp (disch := omega)
      exact RetF.all (r := ptr (h.next + 1)) (by simp) (hK2 hb hc _ _ (hext _) (by omega) (by simp; omega) (blks_set_eq _ _ _))
    · obtain ⟨s, hs⟩ : ∃ s, s = x.satp % 17592186044416 := ⟨_, rfl⟩
      have e1 : (x.satp : Int) % 17592186044416 = (s : Nat) := by omega
      obtain ⟨tb, htb⟩ : ∃ t, t = tab0 x := ⟨_, rfl⟩
      have hTT : tb = s * 4096 := by rw [htb, hs]; rfl
      have e2 : (s : Int) * 4096 = tb := by omega
      have hK3 := hK3 hb hc
      rw [← htb] at hK3
      clear htb
      simp -dsimp (disch := omega) [gA, e1, e2]
      refine rask_call gW (by simp) (by omega) ox' ?_
      simp -dsimp (disch := omega)
      exact RetF.all (r := ptr (h.next + 1)) (by simp) (hK3 _ _ (hext _) (by omega) (by simp; omega) (blks_set_eq _ _ _))
  · simp -dsimp (disch := omega) [gA, gW]
    exact RetF.all (r := ptr (h.next + 1)) (by simp) (hK1 hb _ _ (hext _) (by omega) (by simp; omega) (by rw [blks_set_eq]; rfl))
end
end Go.Proofs.Ytkddajmfljlhiaa
