/-
  Which memories are the same, of the document's; both ways to tell agree.
-/
import Derived.Test.YtgafaelakjnemaaR6
set_option linter.unusedSimpArgs false
set_option linter.unusedVariables false
namespace Go.Proofs.Ytgafaelakjnemaa
open Go Go.Mini Go.Proofs.Try

section
variable {h : Hp} {m r N : Nat} {v : Value} {L : By} {a : Nat} {w : Int} {K : Value → Hp → Prop}

/-- Are they the same? -/
def sameR (N N2 : Nat) (L L2 : By) (a a2 : Nat) (w w2 : Int) : Prop := N = N2 ∧ (∀ e ∈ L, look L2 e.1 = e.2) ∧ (∀ e ∈ L2, look L e.1 = e.2) ∧ w = w2 ∧ (w = 0 ∨ a = a2)
instance (N N2 : Nat) (L L2 : By) (a a2 : Nat) (w w2 : Int) : Decidable (sameR N N2 L L2 a a2 w w2) := by unfold sameR; infer_instance

theorem rfSame_call {m2 r2 N2 : Nat} {v2 : Value} {L2 : By} {a2 : Nat} {w2 : Int} (q : Rf m h r N v L a w) (q2 : Rf m2 h r2 N2 v2 L2 a2 w2) (hl : L.length ≤ 1000000) (hl2 : L2.length ≤ 1000000) (hK : K (.bool (decide (sameR N N2 L L2 a a2 w w2))) h) : ACall prog 26 [ptr r, ptr r2] h K := by
  refine acallF_of tb0 func26 rfl rfl mixed (by kernel_rfl) fun hwf => ?_
  have hb := q.blk
  have hb2 := q2.blk
  by_cases h1 : N = N2
  · have h1' : (N : Int) = N2 := by omega
    simp -dsimp (disch := omega) [hb, hb2, h1, h1']
    refine part_call q q2 hl hl2 ?_
    by_cases h2 : ∀ e ∈ L, look L2 e.1 = e.2
    · rw [decide_eq_true h2]
      simp -dsimp (disch := omega) [hb, hb2, h1, h1']
      refine part_call q2 q hl2 hl ?_
      by_cases h3 : ∀ e ∈ L2, look L e.1 = e.2
      · rw [decide_eq_true h3]
        by_cases h4 : w = w2
        · by_cases h5 : w = 0
          · rw [decide_eq_true ⟨h1, h2, h3, h4, .inl h5⟩] at hK
            have h6 : w2 = 0 := by omega
            simp -dsimp (disch := omega) [hb, hb2, h1, h1', h4, h5, h6]
            exact RetF.same hwf (by simp) (Nat.zero_le _) (fun _ _ => rfl) hK
          · have h6 : ¬ w2 = 0 := by omega
            simp -dsimp (disch := omega) [hb, hb2, h1, h1', h4, h5, h6]
            refine RetF.same (r := .bool (decide ((a : Int) = a2))) hwf (by simp) (Nat.zero_le _) (fun _ _ => rfl) ?_
            rw [show decide ((a : Int) = a2) = decide (sameR N N2 L L2 a a2 w w2) from by
              rw [decide_eq_decide]
              exact ⟨fun h => ⟨h1, h2, h3, h4, .inr (by omega)⟩, fun h => by have := h.2.2.2.2; omega⟩]
            exact hK
        · rw [decide_eq_false fun h => h4 h.2.2.2.1] at hK
          simp -dsimp (disch := omega) [hb, hb2, h1, h1', h4]
          exact RetF.same hwf (by simp) (Nat.zero_le _) (fun _ _ => rfl) hK
      · rw [decide_eq_false h3]
        rw [decide_eq_false fun h => h3 h.2.2.1] at hK
        simp -dsimp (disch := omega) [hb, hb2, h1, h1']
        exact RetF.same hwf (by simp) (Nat.zero_le _) (fun _ _ => rfl) hK
    · rw [decide_eq_false h2]
      rw [decide_eq_false fun h => h2 h.2.1] at hK
      simp -dsimp (disch := omega) [hb, hb2, h1, h1']
      exact RetF.same hwf (by simp) (Nat.zero_le _) (fun _ _ => rfl) hK
  · have h1' : ¬ (N : Int) = N2 := by omega
    rw [decide_eq_false fun h => h1 h.1] at hK
    simp -dsimp (disch := omega) [hb, hb2, h1, h1']
    exact RetF.same hwf (by simp) (Nat.zero_le _) (fun _ _ => rfl) hK
end

theorem all_eq {M M2 : Nat → Nat} {N N2 : Nat} (h8 : ∀ i, M i < 256) (h8' : ∀ i, M2 i < 256) : all M N = all M2 N2 ↔ N = N2 ∧ ∀ i, i < N → M i = M2 i := by
  constructor
  · intro h
    have hn : N = N2 := by have := congrArg List.length h; simpa [all, bytesM_length] using this
    subst hn
    refine ⟨rfl, fun i hi => ?_⟩
    have e : (all M N)[i]? = (all M2 N)[i]? := by rw [h]
    unfold all bytesM at e
    simp only [Nat.zero_add, List.getElem?_map, List.getElem?_range hi, Option.map_some, Option.some.injEq] at e
    have := congrArg UInt8.toNat e
    have q1 := h8 i
    have q2 := h8' i
    simp only [UInt8.toNat_ofNat'] at this
    omega
  · rintro ⟨rfl, h⟩
    exact bytesM_congr fun i _ hi => h i (by omega)
theorem Ag.same {N N2 : Nat} {M M2 : Nat → Nat} {a a2 : Nat} {w w2 : Int} {L L2 : By} {a' a2' : Nat} {w' w2' : Int} (g : Ag N M a w L a' w') (g2 : Ag N2 M2 a2 w2 L2 a2' w2') (h8 : ∀ i, M i < 256) (h8' : ∀ i, M2 i < 256) (u : Uniq L) (u2 : Uniq L2) (o : ∀ e ∈ L, e.1 < N) (o2 : ∀ e ∈ L2, e.1 < N2) :
    decide (all M N = all M2 N2 ∧ a = a2 ∧ w = w2) = decide (sameR N N2 L L2 a' a2' w' w2') := by
  rw [decide_eq_decide, all_eq h8 h8']
  unfold sameR
  have far : ∀ {N : Nat} {L : By}, (∀ e ∈ L, e.1 < N) → ∀ x, N ≤ x → look L x = 0 := fun o x hx => look_none fun e he => by have := o e he; omega
  have key : N = N2 → ((∀ i, i < N → M i = M2 i) ↔ (∀ e ∈ L, look L2 e.1 = e.2) ∧ (∀ e ∈ L2, look L e.1 = e.2)) := fun hn => by
    rw [← look_all u u2]
    constructor
    · intro h x
      by_cases hx : x < N
      · rw [← g.bytes x hx, h x hx, g2.bytes x (by omega)]
      · rw [far o x (by omega), far o2 x (by omega)]
    · intro h i hi
      rw [g.bytes i hi, h i, g2.bytes i (by omega)]
  rw [g.cw, g2.cw]
  constructor
  · rintro ⟨⟨h1, h2⟩, h3, h4⟩
    have := (key h1).1 h2
    refine ⟨h1, this.1, this.2, h4, ?_⟩
    by_cases hw : w = 0
    · exact .inl hw
    · exact .inr (by rw [g.ca hw, g2.ca (by omega)]; exact h3)
  · rintro ⟨h1, h2, h3, h4, h5⟩
    refine ⟨⟨h1, (key h1).2 ⟨h2, h3⟩⟩, ?_, h4⟩
    by_cases hw : w = 0
    · rw [g.c0 hw, g2.c0 (by omega)]
    · have := h5.resolve_left hw
      rw [g.ca hw, g2.ca (by omega)] at this
      exact this

/-! ### Copies of both -/
theorem Row.low {m m' : Nat} {h : Hp} {esz n : Nat} {cs : List Value} {v : Value} (hr : Row m h esz n cs v) (hm : m' ≤ m) : Row m' h esz n cs v := by
  obtain ⟨h0, h1 | ⟨b, h1, h2, h3, h4⟩⟩ := hr
  · exact ⟨h0, .inl h1⟩
  · exact ⟨h0, .inr ⟨b, by omega, h2, h3, h4⟩⟩
theorem Rf.low {m m' : Nat} {h : Hp} {r N : Nat} {v : Value} {L : By} {a : Nat} {w : Int} (q : Rf m h r N v L a w) (hm : m' ≤ m) : Rf m' h r N v L a w :=
  ⟨q.blk, Row.low q.row hm, q.rlt, by have := q.mr; omega, by have := q.mh; omega, q.vr, q.N1, q.a1, q.w0, q.ok, q.uq⟩
theorem Own.low {h0 h1 h : Hp} {p b N C : Nat} {M : Nat → Nat} {a : Nat} {w : Int} (o : Own h1 h p b N C M a w) (e : Ext h0 h1) : Own h0 h p b N C M a w :=
  ⟨o.ram, e.trans o.ext, Nat.le_trans e.le o.pn, Nat.le_trans e.le o.bn⟩
theorem few_of {l : List Act} (h : fewL l = true) : l.length ≤ 60 ∧ ∀ e ∈ l, e.s.length ≤ 100 := by
  unfold fewL at h
  rw [Bool.and_eq_true, decide_eq_true_eq, decide_eq_true_eq] at h
  refine ⟨h.2, fun e he => h.1 e ?_⟩
  rw [List.take_of_length_le (by omega)]
  exact he

end Go.Proofs.Ytgafaelakjnemaa
