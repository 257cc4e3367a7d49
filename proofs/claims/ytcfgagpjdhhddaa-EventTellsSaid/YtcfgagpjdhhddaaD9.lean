/-
  A guest's events; what is kept of a guest hangs on its own records alone: the law's body.
-/
import Derived.Test.YtcfgagpjdhhddaaS2
set_option linter.unusedSimpArgs false
set_option linter.unusedVariables false
set_option linter.unusedSectionVars false
namespace Go.Proofs.Ytcfgagpjdhhddaa
open Go Go.Mini Go.Proofs.Try

def ofG (l : List Ev) (g : Nat) : List Ev := l.filter fun x => x.g == g
theorem ofG_snoc (l : List Ev) (e : Ev) (g : Nat) : ofG (l ++ [e]) g = if e.g = g then ofG l g ++ [e] else ofG l g := by
  unfold ofG
  rw [List.filter_append]
  by_cases h : e.g = g <;> simp [h]
theorem ofG_len (l : List Ev) (g : Nat) : (ofG l g).length ≤ l.length := List.length_filter_le _ _
theorem ofG_ok {l : List Ev} {g : Nat} (h : ∀ e ∈ l, e.ok) : ∀ e ∈ ofG l g, e.ok := fun e he => h e (List.mem_filter.1 he).1

theorem ofE_call {l : List Ev} {v : Value} {g : Nat} {h : Hp} {K : Value → Hp → Prop} (hn : l.length ≤ 2000000) (hv : Sl h 4 l.length (evsC l) v) (hK : ∀ h' v', Ext h h' → Row h.next h' 4 (ofG l g).length (evsC (ofG l g)) v' → K v' h') : ACall prog 15 [v, .int .u8 g] h K := by
  refine acallF_of tb0 func15 rfl rfl mixed (by kernel_rfl) fun hwf => ?_
  have hvb := sblk_lt (hwf.args v (by simp))
  obtain ⟨va, vc, rfl⟩ := hv.slice
  simp -dsimp (disch := omega)
  refine awp_loop (fun t h' => Ext h h' ∧ ∃ k : Nat, k ≤ l.length ∧ t 0 = .slice va l.length vc ∧ t 1 = .int .u8 g ∧ t 6 = .int .i64 k ∧ Row h.next h' 4 (ofG (l.take k) g).length (evsC (ofG (l.take k) g)) (t 5)) (fun t _ => l.length - ivN (t 6)) ?_ ?_
  · simp -dsimp (disch := omega)
    exact ⟨Ext.refl h, 0, by omega, rfl, Row.nil _ _ _⟩
  · rintro t h' ⟨he, k, hk, g0, g1, g6, hrow⟩
    refine vcF_sound mixed (tb := tb0) _ (by kernel_rfl) ?_
    simp -dsimp (disch := omega) [g0, g1, g6]
    refine CondF_dec (fun hcc => ?_) (fun hcc => ?_)
    · obtain ⟨e, hx⟩ : ∃ e, l[k]? = some e := ⟨l[k]'(by omega), List.getElem?_eq_getElem _⟩
      obtain ⟨a, c, b, q1, f1, s1, x1, y1, y2⟩ := sl_ev2 hv hx
      cases q1
      have hf : h'.blks a.block = some b := by rw [he.same _ (hvb _ rfl)]; exact f1
      have hs : ofG (l.take (k + 1)) g = if e.g = g then ofG (l.take k) g ++ [e] else ofG (l.take k) g := by rw [take_snoc hx, ofG_snoc]
      have hlen := ofG_len (l.take k) g
      rw [List.length_take] at hlen
      have hn0 := he.le
      by_cases hg : e.g = g
      · rw [if_pos hg] at hs
        subst hg
        simp -dsimp (disch := omega) [g0, g1, g6, hf, y1, y2, s1, x1, -getElem?_pos]
        refine app_row (hrow.alloc _) (by simp; omega) (src_slice _ _ _ _ _ (evA e) (by simp [evA])) (by omega) (by simp [evA]) (by unfold ROOM; omega) ?_
        intro v' h3 r3 n3 b3 s3
        simp at n3 b3
        have hs4 : ∀ j, j < h'.next → sblk (t 5) ≠ some j → h3.blks j = h'.blks j := fun j hj hd => by
          rw [s3 j (by simp; omega) hd]; simp (disch := omega)
        have hnk : ∀ i, i < h.next → sblk (t 5) ≠ some i := fun i hi e => by have := (hrow.blk i e).1; omega
        simp -dsimp (disch := omega) [g0, g1, g6]
        refine ⟨⟨⟨by omega, fun i hi => by rw [hs4 i (by omega) (hnk i hi)]; exact he.same i hi⟩, k + 1, by omega, by simp, ?_⟩, by simp [ivN]; omega⟩
        rw [hs, evsC_snoc, List.length_append]
        simpa [evA, evC] using r3
      · have hg' : ¬ ((e.g : Nat) : Int) = g := by omega
        rw [if_neg hg] at hs
        clear s1 x1
        simp -dsimp (disch := omega) [g0, g1, g6, hf, y1, y2, hg, hg']
        exact ⟨⟨he, k + 1, by omega, by simp, by rw [hs]; exact hrow⟩, by simp [ivN]; omega⟩
    · have hkl : k = l.length := by omega
      subst hkl
      rw [List.take_length] at hrow
      simp -dsimp (disch := omega) [g0, g1, g6]
      exact RetF.all (by simp) (hK _ _ he hrow)

theorem kpt_len (guests : Int) (l : List Ev) (h : ∀ e ∈ l, e.ok) : (kpt guests l).length ≤ l.length := by
  have := pst_len guests (recs (buildL l)) l.length
  rw [← parse_build_kept guests l h, parse_build guests l h]
  omega
theorem kpt_ok (guests : Int) (l : List Ev) (h : ∀ e ∈ l, e.ok) : ∀ e ∈ kpt guests l, e.ok := by
  rw [← parse_build_kept guests l h, parse_build guests l h]
  exact pst_ok (fun i => recA_ok _ _) _

theorem eventGuests_call {l : List Ev} {v : Value} {guests : Int} {g : Nat} {h : Hp} {K : Value → Hp → Prop} (hok : ∀ e ∈ l, e.ok) (hv : Sl h 4 l.length (evsC l) v) (hK : ∀ h', Ext h h' → K (.bool true) h') : ACall prog 6 [v, .int .i64 guests, .int .u8 g] h K := by
  refine acallF_of tb0 func6 rfl rfl mixed (by kernel_rfl) fun hwf => ?_
  have hvb := sblk_lt (hwf.args v (by simp))
  obtain ⟨va, vc, rfl⟩ := hv.slice
  by_cases hc1 : (60 : Int) < l.length
  · simp -dsimp (disch := omega) [hc1]
    refine awake_call ?_
    simp -dsimp (disch := omega)
    exact RetF.all (by simp) (hK _ (Ext.refl h))
  simp -dsimp (disch := omega) [hc1]
  refine build_call (by omega) hok hv ?_
  simp -dsimp (disch := omega)
  refine parse_call (by rw [buildL_length]; omega) fun h1 vk vd e1 l1 => ?_
  have k1 := l1.k
  rw [parse_build_kept guests l hok] at k1
  have hv1 : Sl h1 4 l.length (evsC l) (.slice va l.length vc) := hv.mono fun b hb => e1.same b (hvb b hb)
  simp -dsimp (disch := omega)
  refine ofE_call (by omega) hv1 fun h2 v2 e2 r2 => ?_
  have q1 := ofG_len l g
  simp -dsimp (disch := omega)
  refine build_call (by omega) (ofG_ok hok) (row_sl r2) ?_
  simp -dsimp (disch := omega)
  refine parse_call (by rw [buildL_length]; omega) fun h3 vk3 vd3 e3 l3 => ?_
  have k3 := l3.k
  rw [parse_build_kept guests _ (ofG_ok hok)] at k3
  have q2 := kpt_len guests l hok
  have hk3 : Sl h3 4 (kpt guests l).length (evsC (kpt guests l)) vk := (row_sl k1).mono fun b hb => by
    have := (k1.blk b hb).2
    have := e2.le
    rw [e3.same b (by omega), e2.same b (by omega)]
  simp -dsimp (disch := omega)
  refine ofE_call (by omega) hk3 fun h4 v4 e4 r4 => ?_
  have hk4 : Sl h4 4 (kpt guests (ofG l g)).length (evsC (kpt guests (ofG l g))) vk3 := (row_sl k3).mono fun b hb => e4.same b (k3.blk b hb).2
  have heq : ofG (kpt guests l) g = kpt guests (ofG l g) := kpt_guest guests g l
  have q3 := ofG_len (kpt guests l) g
  simp -dsimp (disch := omega)
  refine same_call (by omega) (row_sl r4) hk4 ?_
  rw [decide_eq_true heq]
  simp -dsimp (disch := omega)
  refine awake_call ?_
  simp -dsimp (disch := omega)
  exact RetF.all (by simp) (hK _ ((e1.trans e2).trans (e3.trans e4)))

end Go.Proofs.Ytcfgagpjdhhddaa
