/-
  Load; a byte of a memory behind it.
-/
import Derived.Test.YtcbagjhbmdmjfaaDoorL2
import Derived.Test.YtcbagjhbmdmjfaaDoorRM
set_option linter.unusedSimpArgs false
set_option linter.unusedVariables false
set_option linter.unusedSectionVars false
namespace Go.Proofs.YtcbagjhbmdmjfaaDoor
set_option maxRecDepth 100000
open Go Go.Mini Go.Proofs.Tryd

def offN (a : Nat) : Nat := a - 2147483648
theorem offN_eq {a : Nat} (h : 2147483648 ≤ a) : a = 2147483648 + offN a := by unfold offN; omega
def putAll (M : Nat → Nat) (l : List Sg) : Nat → Nat := l.foldl (fun M g => lay M (offN g.a) g.b) M
theorem putAll_take {l : List Sg} {k : Nat} {g : Sg} {M : Nat → Nat} (hg : l[k]? = some g) : putAll M (l.take (k + 1)) = lay (putAll M (l.take k)) (offN g.a) g.b := by
  rw [take_snoc hg]
  unfold putAll
  rw [List.foldl_append, List.foldl_cons, List.foldl_nil]
theorem putAll_lt (l : List Sg) : ∀ {M : Nat → Nat}, (∀ i, M i < 256) → ∀ i, putAll M l i < 256 := by
  induction l with
  | nil => intro M h; exact h
  | cons g l ih =>
    intro M h i
    unfold putAll at ih ⊢
    rw [List.foldl_cons]
    exact ih (Rm.lay_lt h) i
def fitL (N : Nat) (l : List Sg) : Bool := l.all fun g => hasN 2147483648 (2147483648 + N) g.a g.b.length
theorem fit_at {N : Nat} {l : List Sg} {g : Sg} (h : fitL N l = true) (hg : g ∈ l) : 2147483648 ≤ g.a ∧ offN g.a + g.b.length ≤ N := by
  have := List.all_eq_true.1 h g hg
  unfold hasN at this
  simp only [Bool.and_eq_true, decide_eq_true_eq] at this
  have := offN_eq this.1
  omega
theorem load_call {p b N C : Nat} {M : Nat → Nat} {a : Nat} {w : Int} {x : Nat} {l : List Sg} {v : Value} {h : Hp} {K : Value → Hp → Prop} (r : Rm.Ram h p b N C M a w) (hv : Sl h 2 l.length (sgC l) v) (hvp : ∀ i, sblk v = some i → i ≠ p ∧ i ≠ b) (hl : ∀ g ∈ l, g.ok) (hL : l.length < 9223372036854775808)
    (K1 : fitL N l = true → ∀ h' a' w', Rm.Ram h' p b N C (putAll (fun _ => 0) l) a' w' → h.next ≤ h'.next → (∀ i, i < h.next → i ≠ p → i ≠ b → h'.blks i = h.blks i) → K (.int .i64 0) h')
    (K2 : fitL N l = false → K (.int .i64 6) h) : ACall prog 27 [.pointer (some ⟨p, 0, none⟩), imV x v] h K := by
  refine acallF_of tb0 func27 rfl rfl mixed (by kernel_rfl) fun hwf => ?_
  have hvb := sblk_lt (n := h.next) (v := v) (by have := hwf.args (imV x v) (by simp); simp [imV, vtop, vtopL] at this; omega)
  obtain ⟨va, vc, rfl⟩ := hv.slice
  have hp := r.plt
  have hb := r.blt
  have hN0 := r.N0
  have hN1 := r.N1
  have r1 : ∀ c, Rm.Ram (h.alloc c) p b N C M a w := fun c => r.mono (by simp) (blks_alloc_ne _ _ _ (by omega)) (blks_alloc_ne _ _ _ (by omega))
  simp -dsimp (disch := omega) [imV]
  refine Rm.size_call (r1 _) ?_
  have hN0' : ¬ N = 0 := by omega
  simp -dsimp (disch := omega) [hN0']
  refine Rm.size_call (r1 _) ?_
  simp -dsimp (disch := omega)
  refine awp_loop (fun t h' => ∃ k : Nat, k ≤ l.length ∧ h.next + 2 ≤ h'.next ∧ (∀ i, i < h.next → h'.blks i = h.blks i) ∧ h'.blks h.next = some ⟨#[.int .u64 x, .slice va l.length vc], 1, true⟩ ∧ h'.blks (h.next + 1) = some ⟨#[.int .u64 (2147483648 : Nat), .int .u64 ((2147483648 + N : Nat) : Int)], 1, true⟩ ∧ t 0 = .pointer (some ⟨p, 0, none⟩) ∧ t 3 = .pointer (some ⟨h.next, 0, none⟩) ∧ t 5 = .pointer (some ⟨h.next + 1, 0, none⟩) ∧ t 18 = .slice va l.length vc ∧ t 19 = .int .i64 l.length ∧ t 20 = .int .i64 k ∧ ∀ j g, j < k → l[j]? = some g → hasN 2147483648 (2147483648 + N) g.a g.b.length = true) (fun t _ => l.length - ivN (t 20)) ?_ ?_
  · simp -dsimp
    exact ⟨0, Nat.zero_le _, fun i hi => by rw [if_neg (by omega), if_neg (by omega)], rfl, fun j g hj => by omega⟩
  · rintro t h' ⟨k, hk, hn, hs, b0, b1, h0, h3, h5, h18, h19, h20, hfit⟩
    refine vcF_sound mixed (tb := tb0) _ (by kernel_rfl) ?_
    simp -dsimp (disch := omega) [h18, h19, h20]
    by_cases hc : k < l.length
    · obtain ⟨g, hg⟩ : ∃ g, l[k]? = some g := ⟨l[k], by simp [hc]⟩
      obtain ⟨g1, g2⟩ := hl g (List.mem_of_getElem? hg)
      obtain ⟨_, ⟨_, c, e, h0⟩ | ⟨aa, c, bb, e0, hbb, hbs, hbc⟩⟩ := hv
      · omega
      cases e0
      have hab := hvb _ rfl
      obtain ⟨d1, d2⟩ := sgC_at l k g hg
      have hx' : bb.cells.extract (aa.off + k * 2) (aa.off + k * 2 + 2) = #[.int .u64 g.a, .string (txt g.b)] := by
        have e1 := hbc (k * 2) (by omega)
        have e2 := hbc (k * 2 + 1) (by omega)
        rw [Nat.mul_comm k 2] at e1 e2
        rw [Nat.mul_comm k 2]
        exact extract2 (e1.trans d1) (e2.trans d2)
      have hb' : h'.blks aa.block = some bb := by rw [hs _ hab]; exact hbb
      have hsz : aa.off + k * 2 + 2 ≤ bb.cells.size := by omega
      have hlen : (txt g.b).size = g.b.length := rfl
      simp -dsimp (disch := omega) [h0, h3, h5, h18, h19, h20, hc, b1, hb', hx', hsz, hlen]
      refine has_call (f := 2147483648) (e := 2147483648 + N) (by omega) g1 ?_
      cases hh : hasN 2147483648 (2147483648 + N) g.a g.b.length with
      | false =>
        simp -dsimp (disch := omega)
        refine RetF.same hwf (by simp) (Nat.zero_le _) (fun i hi => by rw [blks_alloc_ne _ _ _ (by omega)]; exact hs i hi) (K2 ?_)
        cases hf : fitL N l with
        | false => rfl
        | true =>
          have := List.all_eq_true.1 hf g (List.mem_of_getElem? hg)
          rw [hh] at this
          cases this
      | true =>
        simp -dsimp (disch := omega) [h18, h19, h20]
        refine ⟨⟨k + 1, by omega, by omega, fun i hi => by rw [if_neg (by omega)]; exact hs i hi, b0, b1, h0, h3, h5, by simp, fun j g' hj hg' => ?_⟩, by simp [ivN]; omega⟩
        rcases Nat.lt_or_ge j k with hjk | hjk
        · exact hfit j g' hjk hg'
        · have : j = k := by omega
          subst this
          rw [hg] at hg'
          cases hg'
          exact hh
    · have hk' : k = l.length := by omega
      subst hk'
      simp -dsimp (disch := omega) [h0, h3, h5, h18, h19, h20]
      have hfl : fitL N l = true := List.all_eq_true.2 fun g hg => by
        obtain ⟨j, hj⟩ := List.mem_iff_getElem?.1 hg
        have := (List.getElem?_eq_some_iff.1 hj).1
        exact hfit j g (by omega) hj
      have r2 : Rm.Ram h' p b N C M a w := r.mono (by omega) (hs _ hp) (hs _ hb)
      refine Rm.clear_call r2 ?_
      have r3 := (r2.fill (M' := fun _ => 0) fun _ => by omega).claim (a' := Rm.toA a 0 N) (w' := Rm.toW a w 0 N) (Rm.toA_lt r2.a1)
      obtain ⟨h2, hh2⟩ : ∃ h2, h2 = (h'.set b ⟨mem N (fun _ => 0), 1, true⟩).set p ⟨Rm.ramC b N C (Rm.toA a 0 N) (Rm.toW a w 0 N), 1, true⟩ := ⟨_, rfl⟩
      rw [← hh2] at r3 ⊢
      have hn2 : h2.next = h'.next := by rw [hh2]; simp
      have hs2 : ∀ i, i ≠ p → i ≠ b → h2.blks i = h'.blks i := fun i i1 i2 => by rw [hh2, blks_set_ne _ _ _ _ i1, blks_set_ne _ _ _ _ i2]
      have b02 : h2.blks h.next = some ⟨#[.int .u64 x, .slice va l.length vc], 1, true⟩ := by rw [hs2 _ (by omega) (by omega)]; exact b0
      clear hh2
      simp -dsimp (disch := omega) [h0, h3, b02]
      refine awp_loop (fun t h' => ∃ k a' w', k ≤ l.length ∧ h.next + 2 ≤ h'.next ∧ (∀ i, i < h.next → i ≠ p → i ≠ b → h'.blks i = h.blks i) ∧ Rm.Ram h' p b N C (putAll (fun _ => 0) (l.take k)) a' w' ∧ t 0 = .pointer (some ⟨p, 0, none⟩) ∧ t 37 = .slice va l.length vc ∧ t 38 = .int .i64 l.length ∧ t 39 = .int .i64 (k : Nat)) (fun t _ => l.length - ivN (t 39)) ?_ ?_
      · simp -dsimp (disch := omega) [h0]
        exact ⟨0, Nat.zero_le _, by omega, fun i i1 i2 i3 => by rw [hs2 i i2 i3]; exact hs i i1, ⟨_, _, r3⟩, rfl⟩
      · rintro t h3 ⟨k, a', w', hk, hn3, hs3, r4, h0, h37, h38, h39⟩
        refine vcF_sound mixed (tb := tb0) _ (by kernel_rfl) ?_
        simp -dsimp (disch := omega) [h37, h38, h39]
        by_cases hc : k < l.length
        · obtain ⟨g, hg⟩ : ∃ g, l[k]? = some g := ⟨l[k], by simp [hc]⟩
          obtain ⟨g1, g2⟩ := hl g (List.mem_of_getElem? hg)
          obtain ⟨q1, q2⟩ := fit_at hfl (List.mem_of_getElem? hg)
          obtain ⟨_, ⟨_, c, e, h00⟩ | ⟨aa, c, bb, e0, hbb, hbs, hbc⟩⟩ := hv
          · omega
          cases e0
          have hab := hvb _ rfl
          obtain ⟨ap, ab⟩ := hvp _ rfl
          obtain ⟨d1, d2⟩ := sgC_at l k g hg
          have hx' : bb.cells.extract (aa.off + k * 2) (aa.off + k * 2 + 2) = #[.int .u64 g.a, .string (txt g.b)] := by
            have e1 := hbc (k * 2) (by omega)
            have e2 := hbc (k * 2 + 1) (by omega)
            rw [Nat.mul_comm k 2] at e1 e2
            rw [Nat.mul_comm k 2]
            exact extract2 (e1.trans d1) (e2.trans d2)
          have hb' : h3.blks aa.block = some bb := by rw [hs3 _ hab ap ab]; exact hbb
          have hsz : aa.off + k * 2 + 2 ≤ bb.cells.size := by omega
          have ho := offN_eq q1
          obtain ⟨o, eo⟩ : ∃ o, o = offN g.a := ⟨_, rfl⟩
          rw [← eo] at q2 ho
          have hsub : (g.a : Int) - 2147483648 = o := by omega
          simp -dsimp (disch := omega) [h0, h37, h38, h39, hc, hb', hx', hsz, hsub]
          have r5 : Rm.Ram (h3.alloc ⟨#[.int .u64 g.a, .string (txt g.b)], 1, true⟩) p b N C (putAll (fun _ => 0) (l.take k)) a' w' := r4.mono (by simp) (blks_alloc_ne _ _ _ (by have := r4.plt; omega)) (blks_alloc_ne _ _ _ (by have := r4.blt; omega))
          refine Rm.put_call (x := o) r5 (by omega) (fun _ => ?_) (fun hx => absurd q2 hx)
          have r6 := (r4.fill (M' := lay (putAll (fun _ => 0) (l.take k)) o g.b) (Rm.lay_lt r4.M8)).claim (a' := Rm.toA a' o g.b.length) (w' := Rm.toW a' w' o g.b.length) (Rm.toA_lt r4.a1)
          simp -dsimp (disch := omega) [h0, h37, h38, h39]
          refine ⟨⟨k + 1, by omega, by omega, fun i i1 i2 i3 => by rw [if_neg (by omega), if_neg i2, if_neg i3]; exact hs3 i i1 i2 i3, ⟨Rm.toA a' o g.b.length, Rm.toW a' w' o g.b.length, ?_⟩, by simp⟩, by simp [ivN]; omega⟩
          rw [putAll_take hg, ← eo]
          exact r6.mono (by simp) (blks_alloc_ne _ _ _ (by have := r4.plt; simp; omega)) (blks_alloc_ne _ _ _ (by have := r4.blt; simp; omega))
        · have hk' : k = l.length := by omega
          subst hk'
          rw [List.take_length] at r4
          simp -dsimp (disch := omega) [h37, h38, h39]
          exact RetF.all (by simp) (K1 hfl _ a' w' r4 (by omega) hs3)
theorem refByte_call {x off : Nat} {l : List Sg} {v : Value} {h : Hp} {K : Value → Hp → Prop} (ho : off < 18446744073709551616) (hv : Sl h 2 l.length (sgC l) v) (hl : ∀ g ∈ l, g.ok) (hL : l.length < 9223372036854775808) (hf : ∀ g ∈ l, 2147483648 ≤ g.a)
    (hK : K (.int .u8 (putAll (fun _ => 0) l off : Nat)) h) : ACall prog 28 [imV x v, .int .u64 off] h K := by
  refine acallF_of tb0 func28 rfl rfl mixed (by kernel_rfl) fun hwf => ?_
  have hvb := sblk_lt (n := h.next) (v := v) (by have := hwf.args (imV x v) (by simp); simp [imV, vtop, vtopL] at this; omega)
  obtain ⟨va, vc, rfl⟩ := hv.slice
  simp -dsimp (disch := omega) [imV]
  refine awp_loop (fun t h' => h' = h.alloc ⟨#[.int .u64 x, .slice va l.length vc], 1, true⟩ ∧ ∃ k : Nat, k ≤ l.length ∧ t 1 = .int .u64 off ∧ t 2 = .pointer (some ⟨h.next, 0, none⟩) ∧ t 5 = .int .i64 ((k : Int) - 1) ∧ putAll (fun _ => 0) l off = putAll (fun _ => 0) (l.take k) off) (fun t _ => match t 5 with | .int _ i => (i + 1).toNat | _ => 0) ?_ ?_
  · simp -dsimp
    exact ⟨l.length, Nat.le_refl _, rfl, by rw [List.take_length]⟩
  · rintro t _ ⟨rfl, k, hk, h1, h2, h5, hp⟩
    refine vcF_sound mixed (tb := tb0) _ (by kernel_rfl) ?_
    simp -dsimp (disch := omega) [h1, h2, h5]
    by_cases hc : 0 < k
    · obtain ⟨j, rfl⟩ : ∃ j, k = j + 1 := ⟨k - 1, by omega⟩
      have ej : (((j + 1 : Nat) : Int) - 1) = j := by omega
      obtain ⟨g, hg⟩ : ∃ g, l[j]? = some g := ⟨l[j], by simp [show j < l.length by omega]⟩
      obtain ⟨g1, g2⟩ := hl g (List.mem_of_getElem? hg)
      have hb := hf g (List.mem_of_getElem? hg)
      obtain ⟨_, ⟨_, c, e, h00⟩ | ⟨a, c, b, e0, hbb, hbs, hbc⟩⟩ := hv
      · omega
      cases e0
      have hab := hvb _ rfl
      obtain ⟨d1, d2⟩ := sgC_at l j g hg
      have e1 := hbc (2 * j) (by omega)
      have e2 := hbc (2 * j + 1) (by omega)
      rw [d1] at e1
      rw [d2] at e2
      rw [Nat.mul_comm 2 j] at e1 e2
      have e1' : b.cells[a.off + j * 2]? = some (.int .u64 g.a) := e1
      have e2' : b.cells[a.off + j * 2 + 1]? = some (.string (txt g.b)) := e2
      have hoff := offN_eq hb
      rw [putAll_take hg] at hp
      obtain ⟨o, eo⟩ : ∃ o, o = offN g.a := ⟨_, rfl⟩
      rw [← eo] at hp hoff
      have hsub : (g.a : Int) - 2147483648 = o := by omega
      have hlen : (txt g.b).size = g.b.length := rfl
      unfold lay at hp
      clear hbc hbs e1 e2
      rw [ej] at h5
      have hc1 : (1 : Int) ≤ (j : Int) + 1 := by omega
      simp -dsimp (disch := omega) [h1, h2, h5, hc1, hbb, e1', e2', hsub, hlen]
      by_cases c1 : o ≤ off
      · obtain ⟨d, hd⟩ : ∃ d, off = o + d := ⟨off - o, by omega⟩
        have hd' : (off : Int) - o = d := by omega
        have hd2 : off - o = d := by omega
        by_cases c2 : d < g.b.length
        · rw [if_pos ⟨c1, by omega⟩, hd2] at hp
          have hbA : bAt (txt g.b) d = ((((g.b[d]?).getD 0).toNat : Nat) : Int) := by unfold bAt; rw [txt_data]
          rw [hp, ← hbA] at hK
          have c2' : (d : Int) < g.b.length := by omega
          simp -dsimp (disch := omega) [h1, h2, h5, c1, c2, c2', hd', hbb, e1', e2', hsub, hlen]
          exact RetF.same hwf (by simp) (Nat.zero_le _) (fun i hi => by simp [Hp.blks_alloc, Nat.ne_of_lt hi]) hK
        · rw [if_neg (by omega)] at hp
          have c2' : ¬ (d : Int) < g.b.length := by omega
          simp -dsimp (disch := omega) [h1, h2, h5, c1, c2, c2', hd', hbb, e1', e2', hsub, hlen]
          exact ⟨j, by omega, rfl, hp⟩
      · rw [if_neg (by omega)] at hp
        simp -dsimp (disch := omega) [h1, h2, h5, c1, hbb, e1', e2', hsub, hlen]
        exact ⟨j, by omega, rfl, hp⟩
    · have hk0 : k = 0 := by omega
      subst hk0
      simp -dsimp (disch := omega) [h1, h2, h5]
      rw [hp] at hK
      exact RetF.same hwf (by simp [putAll]) (Nat.zero_le _) (fun i hi => by simp [Hp.blks_alloc, Nat.ne_of_lt hi]) hK
end Go.Proofs.YtcbagjhbmdmjfaaDoor
