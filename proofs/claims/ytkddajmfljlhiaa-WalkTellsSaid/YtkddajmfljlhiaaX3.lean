/-
  The document's walk: fail, number, size, ask, end.
-/
import Derived.Test.YtkddajmfljlhiaaX2
set_option linter.unusedSimpArgs false
set_option linter.unusedVariables false
namespace Go.Proofs.Ytkddajmfljlhiaa
open Go Go.Mini Go.Proofs.Try

abbrev wsA (x : Ask) (r : Res) (en : Bool) (wa : Nat) (pu : Bool) (wo pe : Nat) : Array Value := #[.int .u64 x.va, .int .u64 x.satp, .int .u8 x.kind, .int .u8 x.mode, .bool x.sum, .bool x.mxr, .int .u8 r.f, .int .u64 r.pa, .int .i64 r.lv, .int .u64 r.pte, .int .u64 r.a0, .int .u64 r.a1, .int .u64 r.a2, .int .i64 r.n, .bool en, .int .u64 wa, .bool pu, .int .u64 wo, .int .u64 pe]
def tb37 : Nat → Marks := fun k => if k = 0 then ⟨[5, 10, 13, 21], fun _ => True⟩ else ⟨[], fun _ => True⟩
@[simp] theorem tb37_l0 : (tb37 0).l = [5, 10, 13, 21] := rfl
@[simp] theorem tb37_R (k x : Nat) : (tb37 k).R x := by unfold tb37; split <;> trivial
section
variable {h : Hp} {K : Value → Hp → Prop} {wp : Nat} {x : Ask} {r : Res} {en pu : Bool} {wa wo pe : Nat}
theorem rfail_call {f : Nat} (hw : h.blks wp = some ⟨wsA x r en wa pu wo pe, 1, true⟩) (hK : K (.tuple #[]) (h.set wp ⟨wsA x (failR f r.a0 r.a1 r.a2 r.n) true wa pu wo pe, 1, true⟩)) : ACall prog 35 [ptr wp, .int .u8 f] h K := by
  refine acallF_of tb0 func35 rfl rfl mixed (by kernel_rfl) fun hwf => ?_
  unfold failR at hK
  simp -dsimp (disch := omega) [hw]
  exact RetF.all (r := .tuple #[]) (by simp) hK
set_option maxRecDepth 100000 in
theorem number_call {lv : Nat} (hw : h.blks wp = some ⟨wsA x r en wa pu wo pe, 1, true⟩) (hl : lv ≤ 2) (ox : x.ok) (hK : K (.int .u64 (x.va / 2 ^ (12 + 9 * lv) % 512 : Nat)) h) : ACall prog 40 [ptr wp, .int .i64 lv] h K := by
  refine acallF_of tb0 func40 rfl rfl mixed (by kernel_rfl) fun hwf => ?_
  have o1 := ox.1
  obtain ⟨d, hd⟩ : ∃ d, d = x.va / 4096 := ⟨_, rfl⟩
  have e1 : (x.va : Int) / 4096 = (d : Nat) := by omega
  have hdl : d < 18446744073709551616 := by omega
  have hpw : ∀ k, x.va / 2 ^ (12 + 9 * k) = d / 512 ^ k := fun k => by
    rw [hd, Nat.div_div_eq_div_mul, Nat.pow_add, Nat.pow_mul]
  rw [hpw] at hK
  simp -dsimp (disch := omega) [hw, e1]
  refine awp_loop (fun t h' => h' = h ∧ ∃ k : Nat, k ≤ lv ∧ t 1 = .int .i64 lv ∧ t 5 = .int .u64 (d / 512 ^ k : Nat) ∧ t 6 = .int .i64 k) (fun t _ => lv - ivN (t 6)) ?_ ?_
  · exact ⟨rfl, 0, by omega, by simp, by simp, by simp⟩
  · rintro t h' ⟨rfl, k, hk, g1, g5, g6⟩
    refine vcF_sound mixed (tb := tb0) _ (by kernel_rfl) ?_
    obtain ⟨e, he⟩ : ∃ e, e = d / 512 ^ k := ⟨_, rfl⟩
    have hel : e < 18446744073709551616 := by rw [he]; exact Nat.lt_of_le_of_lt (Nat.div_le_self _ _) hdl
    rw [← he] at g5
    by_cases hc : k < lv
    · have hcI : (k : Int) < lv := by omega
      obtain ⟨e', he'⟩ : ∃ e', e' = e / 512 := ⟨_, rfl⟩
      have e2 : (e : Int) / 512 = (e' : Nat) := by omega
      simp -dsimp (disch := omega) [g1, g5, g6, hc, hcI, e2]
      refine ⟨⟨k + 1, by omega, ?_, by omega⟩, by simp [ivN]; omega⟩
      have e3 : e' = d / 512 ^ (k + 1) := by rw [Nat.pow_succ, ← Nat.div_div_eq_div_mul, ← he]; exact he'
      rw [e3, Int.natCast_ediv, Int.natCast_pow]
      rfl
    · have hcI : ¬ (k : Int) < lv := by omega
      obtain rfl : k = lv := by omega
      rw [← he] at hK
      obtain ⟨e', he'⟩ : ∃ e', e' = e % 512 := ⟨_, rfl⟩
      have e2 : (e : Int) % 512 = (e' : Nat) := by omega
      rw [← he'] at hK
      simp -dsimp (disch := omega) [g1, g5, g6, hc, hcI, e2]
      exact RetF.same (r := .int .u64 (e' : Nat)) hwf (by simp) (Nat.zero_le _) (fun _ _ => rfl) hK
theorem size_call (hw : h.blks wp = some ⟨wsA x r en wa pu wo pe, 1, true⟩) (hn : 0 < r.n ∧ r.n ≤ 3) (hK : K (.int .u64 (2 ^ (9 * (3 - r.n)) : Nat)) h) : ACall prog 41 [ptr wp] h K := by
  refine acallF_of tb0 func41 rfl rfl mixed (by kernel_rfl) fun hwf => ?_
  obtain ⟨n, hnn⟩ : ∃ n, n = 3 - r.n := ⟨_, rfl⟩
  rw [← hnn, Nat.pow_mul] at hK
  have hrn : (3 : Int) - r.n = n := by omega
  simp -dsimp (disch := omega)
  refine awp_loop (fun t h' => h' = h ∧ ∃ k : Nat, k ≤ n ∧ t 0 = ptr wp ∧ t 3 = .int .u64 (512 ^ k : Nat) ∧ t 4 = .int .i64 k) (fun t _ => n - ivN (t 4)) ?_ ?_
  · exact ⟨rfl, 0, by omega, by simp, by simp, by simp⟩
  · rintro t h' ⟨rfl, k, hk, g0, g3, g4⟩
    refine vcF_sound mixed (tb := tb0) _ (by kernel_rfl) ?_
    by_cases hc : k < n
    · have hcI : (k : Int) < n := by omega
      rcases (by omega : k = 0 ∨ k = 1) with hk2 | hk2
      · subst hk2
        simp -dsimp (disch := omega) [g0, g3, g4, hw, hrn, hc, hcI]
        exact ⟨⟨1, by omega, by rfl, by omega⟩, by simp [ivN]; omega⟩
      · subst hk2
        simp at hcI
        simp -dsimp (disch := omega) [g0, g3, g4, hw, hrn, hc, hcI]
        exact ⟨⟨2, by omega, by rfl, by omega⟩, by simp [ivN]; omega⟩
    · have hcI : ¬ (k : Int) < n := by omega
      obtain rfl : k = n := by omega
      simp -dsimp (disch := omega) [g0, g3, g4, hw, hrn, hc, hcI]
      exact RetF.same (r := .int .u64 (512 ^ k : Nat)) hwf (by simp) (Nat.zero_le _) (fun _ _ => rfl) hK
theorem rask_call {tab : Nat} (hw : h.blks wp = some ⟨wsA x r en wa pu wo pe, 1, true⟩) (hn : r.n < 3) (ht : tab < 144115188075855872) (ox : x.ok)
    (hK : K (.tuple #[]) (h.set wp ⟨wsA x ⟨r.f, r.pa, r.lv, r.pte, nx0 r.n r.a0 (addN x (2 - r.n) tab), nx1 r.n r.a1 (addN x (2 - r.n) tab), nx2 r.n r.a2 (addN x (2 - r.n) tab), r.n + 1⟩ en (addN x (2 - r.n) tab) pu wo pe, 1, true⟩)) : ACall prog 36 [ptr wp, .int .u64 tab] h K := by
  refine acallF_of tb0 func36 rfl rfl mixed (by kernel_rfl) fun hwf => ?_
  have nC := fun (K' : Value → Hp → Prop) (a : _) => number_call (K := K') (lv := 2 - r.n) hw (by omega) ox a
  unfold addN at hK
  obtain ⟨q, hq⟩ : ∃ q, q = x.va / 2 ^ (12 + 9 * (2 - r.n)) % 512 := ⟨_, rfl⟩
  have hql : q < 512 := by omega
  rw [← hq] at nC hK
  clear hq
  obtain ⟨y, hy⟩ : ∃ y, y = tab + 8 * q := ⟨_, rfl⟩
  have hyI : (tab : Int) + 8 * q = y := by omega
  rw [← hy] at hK
  obtain ⟨f, pa, lv, pt, a0, a1, a2, n⟩ := r
  simp only at hn nC hK hw
  unfold nx0 nx1 nx2 at hK
  rcases (by omega : n = 0 ∨ n = 1 ∨ n = 2) with rfl | rfl | rfl
  all_goals
    simp -dsimp (disch := omega) [hw]
    refine nC _ ?_
    simp -dsimp (disch := omega) [hw, hyI]
    exact RetF.all (r := .tuple #[]) (by simp) hK
set_option maxRecDepth 100000 in
theorem rend_call (hw : h.blks wp = some ⟨wsA x r en wa pu wo pe, 1, true⟩) (hn : 0 < r.n ∧ r.n ≤ 3) (hp : pe < 18446744073709551616) (ox : x.ok)
    (hK : K (.tuple #[]) (h.set wp ⟨wsA x ⟨r.f, paL x (3 - r.n) pe, 3 - r.n, pe, r.a0, r.a1, r.a2, r.n⟩ true wa pu wo pe, 1, true⟩)) : ACall prog 37 [ptr wp] h K := by
  refine acallF_of tb37 func37 rfl rfl mixed (by kernel_rfl) fun hwf => ?_
  have o1 := ox.1
  have sC := fun (K' : Value → Hp → Prop) (a : _) => size_call (K := K') hw hn a
  have pC := fun (K' : Value → Hp → Prop) (a : _) => rpage_call (h := h) (K := K') hp a
  unfold paL at hK
  have hpg : pageN pe < 17592186044416 := Nat.mod_lt _ (by omega)
  have hp18 : 2 ^ (9 * (3 - r.n)) ≤ 2 ^ 18 := Nat.pow_le_pow_right (by omega) (by omega)
  have hp0 : 0 < 2 ^ (9 * (3 - r.n)) := Nat.pow_pos (by omega)
  obtain ⟨z, hz⟩ : ∃ z, z = 2 ^ (9 * (3 - r.n)) := ⟨_, rfl⟩
  rw [← hz] at sC hK hp18 hp0
  obtain ⟨g, hg⟩ : ∃ g, g = pageN pe := ⟨_, rfl⟩
  rw [← hg] at pC hK hpg
  obtain ⟨d, hd⟩ : ∃ d, d = x.va / 4096 := ⟨_, rfl⟩
  have e1 : (x.va : Int) / 4096 = (d : Nat) := by omega
  have hdl : d < 4503599627370496 := by omega
  rw [← hd] at hK
  obtain ⟨u, hu⟩ : ∃ u, u = x.va % 4096 := ⟨_, rfl⟩
  have e2 : (x.va : Int) % 4096 = (u : Nat) := by omega
  have hul : u < 4096 := by omega
  rw [← hu] at hK
  obtain ⟨q, hq⟩ : ∃ q, q = d % z := ⟨_, rfl⟩
  have hql : q < z := by rw [hq]; exact Nat.mod_lt _ hp0
  have e3 : (d : Int) % (z : Int) = (q : Nat) := by rw [hq]; exact (Int.natCast_emod d z).symm
  rw [← hq] at hK
  have hz0 : ¬ z = 0 := by omega
  have hz0' : ¬ (z : Int) = 0 := by omega
  obtain ⟨pa, hpa⟩ : ∃ p, p = (g + q) * 4096 + u := ⟨_, rfl⟩
  have e4 : ((g : Int) + q) * 4096 + u = pa := by omega
  rw [← hpa] at hK
  have hi3 : (3 : Int) - r.n = ((3 - r.n : Nat) : Int) := by omega
  simp -dsimp (disch := omega) [hw]
  refine pC _ ?_
  simp -dsimp (disch := omega) [hw, e1]
  refine sC _ ?_
  simp -dsimp (disch := omega) [hw, e1, e2, e3, e4, hz0, hz0', hi3]
  exact RetF.all (r := .tuple #[]) (by simp) hK
end
end Go.Proofs.Ytkddajmfljlhiaa
