/-
  Lists of entries: append, Delete, Clone; a TLB's list; lose.
-/
import Derived.Test.YtmlpcnpkidmlhaaY2
set_option linter.unusedSimpArgs false
set_option linter.unusedVariables false
set_option linter.unusedSectionVars false
namespace Go.Proofs.Ytmlpcnpkidmlhaa
set_option maxRecDepth 100000
open Go Go.Mini Go.Proofs.Try

/-- A list as a slice: nil, or a block of its own. -/
structure Sli (h : Hp) (ob : Option Nat) (l : List Ent) (v : Value) : Prop where
  ex : (ob = none ∧ v = .slice none 0 0 ∧ l = []) ∨ ∃ b n, ob = some b ∧ v = .slice (some ⟨b, 0, none⟩) l.length (2 * n + 1) ∧ Lst h b n l ∧ n < 1000000
theorem Sli.mono {h h' : Hp} {ob : Option Nat} {l : List Ent} {v : Value} (s : Sli h ob l v) (hn : h.next ≤ h'.next) (hs : ∀ b, ob = some b → h'.blks b = h.blks b) : Sli h' ob l v := by
  rcases s.ex with h1 | ⟨b, n, rfl, h2, h3, h4⟩
  · exact ⟨.inl h1⟩
  · exact ⟨.inr ⟨b, n, rfl, h2, h3.mono hn (hs b rfl), h4⟩⟩
theorem Sli.lt {h : Hp} {ob : Option Nat} {l : List Ent} {v : Value} (s : Sli h ob l v) : ∀ b, ob = some b → b < h.next := by
  rcases s.ex with ⟨rfl, _⟩ | ⟨b, n, rfl, _, h3, _⟩
  · intro b hb; cases hb
  · intro b' hb; cases hb; exact h3.lt
/-- Where only a list's block changed. -/
structure Fb (h h' : Hp) (ob : Option Nat) : Prop where
  le : h.next ≤ h'.next
  same : ∀ i, i < h.next → ob ≠ some i → h'.blks i = h.blks i
theorem Fb.refl (h : Hp) (ob : Option Nat) : Fb h h ob := ⟨Nat.le_refl _, fun _ _ _ => rfl⟩
theorem app_ent {h : Hp} {ob : Option Nat} {l : List Ent} {v x : Value} {e : Ent} {K : Value → Hp → Prop} {u : Tag K} (s : Sli h ob l v) (hx : srcCells h 8 x = some (1, entA e)) (hl : l.length < 900000)
    (hK : ∀ h' ob' v', Sli h' ob' (l ++ [e]) v' → Fb h h' ob → (ob' = ob ∨ ob' = some h.next) → K v' h') : OptF (aappend h 8 64 v x) K u := by
  rcases s.ex with ⟨rfl, rfl, rfl⟩ | ⟨b, n, rfl, rfl, L, hn⟩
  · unfold aappend
    simp only [hx]
    rw [if_pos ⟨trivial, trivial⟩, if_neg (by omega)]
    unfold agrown
    rw [if_pos (by unfold ROOM; omega)]
    refine hK _ (some h.next) _ ⟨.inr ⟨h.next, 1, rfl, rfl, ⟨⟨[], rfl, ?_⟩, by simp⟩, by omega⟩⟩ ⟨by simp, fun i hi _ => blks_alloc_ne _ _ _ (by omega)⟩ (.inr rfl)
    rw [blks_alloc_eq]
    simp [entsC, entA_eq]
  · obtain ⟨R, hR, hb⟩ := L.ex
    have hlt := L.lt
    unfold aappend
    simp only [hx]
    have e3 : (2 * n + 1) / 2 = n := by omega
    rw [e3]
    by_cases hfit : l.length + 1 ≤ n
    · rw [if_pos hfit, if_neg (by omega), hb]
      simp only
      rw [if_pos ⟨trivial, by rw [List.size_toArray, entsC_length, hR]; omega⟩]
      obtain ⟨r, R', rfl⟩ : ∃ r R', R = r :: R' := by
        cases R with
        | nil => simp at hR; omega
        | cons r R' => exact ⟨r, R', rfl⟩
      have e4 : Blk.put ⟨(entsC (l ++ r :: R')).toArray, 8, true⟩ (0 + l.length * 8) (entA e).toList = ⟨(entsC ((l ++ [e]) ++ R')).toArray, 8, true⟩ := by
        have := ents_put l [r] [e] R' rfl
        rw [show entsC [e] = entL e from by simp [entsC]] at this
        unfold Blk.put
        rw [Nat.zero_add, show (entA e).toList = entL e from rfl, show l ++ r :: R' = l ++ ([r] ++ R') from rfl, this]
        simp
      rw [e4]
      refine hK _ (some b) _ ⟨.inr ⟨b, n, rfl, by simp, ⟨⟨R', ?_, blks_set_eq _ _ _⟩, by simpa using hlt⟩, hn⟩⟩ ⟨by simp, fun i _ hi => blks_set_ne _ _ _ _ (fun q => hi (by rw [q]))⟩ (.inl rfl)
      rw [← hR]; simp
    · have hle := L.le
      have hln : l.length = n := by omega
      have hR0 : R = [] := by
        rw [List.length_append] at hR
        exact List.length_eq_zero_iff.1 (by omega)
      subst hR0
      rw [List.append_nil] at hb
      rw [if_neg hfit, if_neg (by omega), hb]
      simp only
      rw [if_pos ⟨trivial, trivial, trivial, by rw [List.size_toArray, entsC_length], by omega⟩]
      unfold agrown
      rw [if_pos (by unfold ROOM; omega)]
      refine hK _ (some h.next) _ ⟨.inr ⟨h.next, l.length + 1, rfl, by simp, ⟨⟨[], by simp, ?_⟩, by simp⟩, by omega⟩⟩ ⟨by simp, fun i hi q => ?_⟩ (.inr rfl)
      · simp only [Hp.blks_alloc, Hp.next_kill, if_true, List.append_nil]
        rw [entsC_append]
        simp [entsC, entA_eq]
      · have : i ≠ b := fun e => q (by rw [e])
        simp [Hp.blks_alloc, Hp.blks_kill, Nat.ne_of_lt hi, this]
section
variable {h : Hp} {K : Value → Hp → Prop}
theorem clone_call {ob : Option Nat} {l : List Ent} {v : Value} (s : Sli h ob l v) (h0 : ob = none ∨ l ≠ []) (hl : l.length < 900000) (hK : ∀ h' ob' v', Sli h' ob' l v' → Ext h h' → (∀ b, ob' = some b → h.next ≤ b) → K v' h') : ACall prog 29 [v] h K := by
  refine acallF_of tb0 func29 rfl rfl mixed (by kernel_rfl) fun hwf => ?_
  rcases s.ex with ⟨rfl, rfl, rfl⟩ | ⟨b, n, rfl, rfl, L, hn⟩
  · simp -dsimp (disch := omega)
    exact RetF.all (by simp) (hK h none _ ⟨.inl ⟨rfl, rfl, rfl⟩⟩ (Ext.refl _) fun _ h => by cases h)
  · obtain ⟨R, hR, hb⟩ := L.ex
    have hlt := L.lt
    have hl0 : 0 < l.length := by
      rcases h0 with h0 | h0
      · cases h0
      · exact List.length_pos_iff.2 h0
    have hx : (entsC (l ++ R)).toArray.extract 0 (l.length * 8) = (entsC l).toArray := by
      rw [entsC_append, ← entsC_length]
      simp
    have hsz : l.length * 8 ≤ (entsC (l ++ R)).toArray.size := by rw [List.size_toArray, entsC_length, List.length_append]; omega
    obtain ⟨X, hX⟩ : ∃ X, X = (entsC (l ++ R)).toArray := ⟨_, rfl⟩
    rw [← hX] at hb hx hsz
    simp -dsimp (disch := omega)
    refine app_fresh (new := (entsC l).toArray) (k := l.length) (blks_alloc_eq _ _) (src_slice _ _ _ _ _ _ ?_) hl0 ⟨by unfold ROOM; omega, by unfold ROOM; omega⟩ ?_
    · unfold Mini.rowAt
      simp (disch := omega) [hb, hx, hsz]
    simp -dsimp (disch := omega)
    refine RetF.all (by simp) (hK _ (some (h.next + 1)) _ ⟨.inr ⟨_, l.length, rfl, rfl, ⟨⟨[], by simp, ?_⟩, by simp⟩, by omega⟩⟩ ((Ext.alloc _ _).then_alloc _) fun b hb => by cases hb; omega)
    rw [blks_alloc_at _ _ _ (by simp), List.append_nil]
end
end Go.Proofs.Ytmlpcnpkidmlhaa
