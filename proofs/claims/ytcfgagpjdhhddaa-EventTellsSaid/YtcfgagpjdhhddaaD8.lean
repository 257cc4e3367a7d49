/-
  What is kept and dropped is the document's: the law's body.
-/
import Derived.Test.YtcfgagpjdhhddaaD7
set_option linter.unusedSimpArgs false
set_option linter.unusedVariables false
set_option linter.unusedSectionVars false
namespace Go.Proofs.Ytcfgagpjdhhddaa
open Go Go.Mini Go.Proofs.Try

theorem drC_length (l : List (Nat × Nat)) : (drC l).length = l.length * 2 := by
  induction l with
  | nil => rfl
  | cons e l ih =>
    have h1 : drC (e :: l) = [.int .i64 e.1, .int .u8 e.2] ++ drC l := rfl
    rw [h1, List.length_append, ih, List.length_cons, List.length_cons, List.length_cons, List.length_nil]; omega
theorem drC_at (l : List (Nat × Nat)) : ∀ (k : Nat) (d : Nat × Nat), l[k]? = some d → (drC l)[k * 2]? = some (.int .i64 d.1) ∧ (drC l)[k * 2 + 1]? = some (.int .u8 d.2) := by
  induction l with
  | nil => intro k e h; simp at h
  | cons x l ih =>
    intro k e h
    cases k with
    | zero => simp only [List.getElem?_cons_zero, Option.some.injEq] at h; subst h; exact ⟨rfl, rfl⟩
    | succ k =>
      have := ih k e (by simpa using h)
      rw [show (k + 1) * 2 = k * 2 + 1 + 1 from by omega]
      simpa [drC] using this
theorem sl_dr {h : Hp} {l : List (Nat × Nat)} {v : Value} {k : Nat} {d : Nat × Nat} (hv : Sl h 2 l.length (drC l) v) (hk : l[k]? = some d) :
    ∃ a c b, v = .slice (some a) l.length c ∧ h.blks a.block = some b ∧ a.off + k * 2 + 2 ≤ b.cells.size ∧ b.cells.extract (a.off + k * 2) (a.off + k * 2 + 2) = #[.int .i64 d.1, .int .u8 d.2] := by
  have hlt : k < l.length := (List.getElem?_eq_some_iff.1 hk).1
  obtain ⟨h0, ⟨_, _, _, h1⟩ | ⟨a, c, b, rfl, h2, h3, h4⟩⟩ := hv
  · omega
  · obtain ⟨c1, c2⟩ := drC_at l k d hk
    exact ⟨a, c, b, rfl, h2, by omega, extract2 ((h4 _ (by omega)).trans c1) ((by have := h4 (k * 2 + 1) (by omega); rw [← Nat.add_assoc] at this; exact this.trans c2))⟩

theorem parse_len (guests : Int) (L : List UInt8) : (parse guests L).1.length ≤ L.length ∧ (parse guests L).2.length ≤ L.length + 1 := by
  have := pst_len guests (recs L) (L.length / 10)
  unfold parse
  split
  · omega
  · simp only [List.length_append, List.length_singleton]; omega

theorem eventParses_call {S : ByteArray} {guests : Int} {h : Hp} {K : Value → Hp → Prop} (hK : ∀ h', Ext h h' → K (.bool true) h') : ACall prog 3 [.string S, .int .i64 guests] h K := by
  refine acallF_of tb0 func3 rfl rfl mixed (by kernel_rfl) fun hwf => ?_
  by_cases hc1 : (1000 : Int) < S.size
  · simp -dsimp (disch := omega) [hc1]
    refine awake_call ?_
    simp -dsimp (disch := omega)
    exact RetF.all (by simp) (hK _ (Ext.refl h))
  have hS : S = txt S.data.toList := rfl
  have hSl : S.size = S.data.toList.length := rfl
  rw [hSl] at hc1
  rw [hS]
  generalize S.data.toList = L at *
  have hsz : (txt L).size = L.length := rfl
  have hpl := parse_len guests L
  simp -dsimp (disch := omega) [hc1]
  refine parse_call (by omega) fun h1 vk vd e1 l1 => ?_
  simp -dsimp (disch := omega)
  refine refParse_call (by omega) fun h2 vk2 vd2 e2 l2 => ?_
  have l1' : Lists h.next h2 (parse guests L).1 (parse guests L).2 vk vd := l1.mono e2.le fun b _ hb => e2.same b hb
  generalize parse guests L = S' at *
  have s1 := row_sl l1'.d
  have s2 := row_sl l2.d
  obtain ⟨ad, cd, rfl⟩ := s1.slice
  obtain ⟨ad2, cd2, rfl⟩ := s2.slice
  simp -dsimp (disch := omega)
  refine same_call (by omega) (row_sl l1'.k) (row_sl l2.k) ?_
  simp -dsimp (disch := omega)
  refine awp_loop (fun t h' => h' = h2 ∧ ∃ k : Nat, k ≤ S'.2.length ∧ t 6 = .slice ad S'.2.length cd ∧ t 8 = .slice ad2 S'.2.length cd2 ∧ t 9 = .int .i64 k) (fun t _ => S'.2.length - ivN (t 9)) ?_ ?_
  · simp -dsimp (disch := omega)
    exact ⟨0, by omega, rfl⟩
  · rintro t _ ⟨rfl, k, hk, g6, g8, g9⟩
    refine vcF_sound mixed (tb := tb0) _ (by kernel_rfl) ?_
    simp -dsimp (disch := omega) [g6, g8, g9]
    refine CondF_dec (fun hcc => ?_) (fun hcc => ?_)
    · obtain ⟨x, hx⟩ : ∃ x, S'.2[k]? = some x := ⟨S'.2[k]'(by omega), List.getElem?_eq_getElem _⟩
      obtain ⟨a1, c1, b1, q1, f1, z1, x1⟩ := sl_dr s1 hx
      obtain ⟨a2, c2, b2, q2, f2, z2, x2⟩ := sl_dr s2 hx
      cases q1
      cases q2
      simp -dsimp (disch := omega) [g6, g8, g9, f1, f2, z1, z2, x1, x2]
      exact ⟨⟨k + 1, by omega, by simp⟩, by simp [ivN]; omega⟩
    · simp -dsimp (disch := omega) [g6, g8, g9]
      refine awake_call ?_
      simp -dsimp (disch := omega)
      exact RetF.all (by simp) (hK _ (e1.trans e2))

end Go.Proofs.Ytcfgagpjdhhddaa
