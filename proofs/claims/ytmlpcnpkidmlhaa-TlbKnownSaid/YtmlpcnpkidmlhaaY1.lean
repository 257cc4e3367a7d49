/-
  Lists of entries: their rows; IndexFunc.
-/
import Derived.Test.YtmlpcnpkidmlhaaZ6
set_option linter.unusedSimpArgs false
set_option linter.unusedVariables false
set_option linter.unusedSectionVars false
namespace Go.Proofs.Ytmlpcnpkidmlhaa
set_option maxRecDepth 100000
open Go Go.Mini Go.Proofs.Try

theorem take_snoc {α : Type} {l : List α} {k : Nat} {f : α} (hf : l[k]? = some f) : l.take (k + 1) = l.take k ++ [f] := by
  rw [List.take_add_one, hf]; rfl
def entsC (l : List Ent) : List Value := l.flatMap entL
theorem entsC_append (l m : List Ent) : entsC (l ++ m) = entsC l ++ entsC m := by simp [entsC]
theorem entsC_cons (e : Ent) (l : List Ent) : entsC (e :: l) = entL e ++ entsC l := rfl
theorem entsC_length (l : List Ent) : (entsC l).length = l.length * 8 := by
  induction l with
  | nil => rfl
  | cons e l ih => rw [entsC_cons, List.length_append, ih, List.length_cons]; simp [entL]; omega
theorem entA_eq (e : Ent) : entA e = (entL e).toArray := rfl
theorem putL_mid : ∀ (G A M C : List Value), M.length = G.length → putL (A ++ (M ++ C)).toArray A.length G = (A ++ (G ++ C)).toArray
  | [], A, M, C, h => by
    obtain rfl := List.length_eq_zero_iff.1 h
    rfl
  | v :: G, A, [], C, h => by simp at h
  | v :: G, A, m :: M, C, h => by
    rw [putL_cons]
    have e : (A ++ (m :: M ++ C)).toArray.setIfInBounds A.length v = ((A ++ [v]) ++ (M ++ C)).toArray := by
      simp
    rw [e]
    have := putL_mid G (A ++ [v]) M C (by simpa using h)
    rw [List.length_append, List.length_singleton] at this
    rw [this]
    simp
theorem put_none8 (v : Ent) : putL #[.int .u64 0, .int .u64 0, .int .u64 0, .int .i64 0, .int .u64 0, .int .u64 0, .int .u64 0, .int .i64 0] 0 (entL v) = entA v := by
  have := putL_mid (entL v) [] [.int .u64 0, .int .u64 0, .int .u64 0, .int .i64 0, .int .u64 0, .int .u64 0, .int .u64 0, .int .i64 0] [] rfl
  rw [List.append_nil, List.append_nil] at this
  exact this
theorem ents_put (A M G C : List Ent) (h : M.length = G.length) : putL (entsC (A ++ (M ++ C))).toArray (A.length * 8) (entsC G) = (entsC (A ++ (G ++ C))).toArray := by
  have := putL_mid (entsC G) (entsC A) (entsC M) (entsC C) (by rw [entsC_length, entsC_length, h])
  rw [entsC_length] at this
  rw [entsC_append, entsC_append, this, entsC_append, entsC_append]
theorem ents_get (A C : List Ent) (e : Ent) : (entsC (A ++ e :: C)).toArray.extract (A.length * 8) (A.length * 8 + 8) = entA e := by
  apply Array.ext'
  rw [entsC_append, entsC_cons, ← entsC_length, entA_eq]
  simp [List.extract_eq_take_drop, entL]
theorem ents_at {l : List Ent} {k : Nat} {e : Ent} (h : l[k]? = some e) (R : List Ent) : (entsC (l ++ R)).toArray.extract (k * 8) (k * 8 + 8) = entA e := by
  have e1 : l = l.take k ++ e :: l.drop (k + 1) := by
    obtain ⟨h1, h2⟩ := List.getElem?_eq_some_iff.1 h
    have := (List.take_append_drop k l).symm
    rw [List.drop_eq_getElem_cons h1, h2] at this
    exact this
  have h1 := (List.getElem?_eq_some_iff.1 h).1
  have := ents_get (l.take k) (l.drop (k + 1) ++ R) e
  rw [List.length_take, Nat.min_eq_left (by omega)] at this
  rw [← this]
  congr 2
  rw [show l ++ R = (l.take k ++ e :: l.drop (k + 1)) ++ R from by rw [← e1]]
  simp
/-- A block that holds a list's entries first, and others. -/
structure Lst (h : Hp) (b n : Nat) (l : List Ent) : Prop where
  ex : ∃ R, (l ++ R).length = n ∧ h.blks b = some ⟨(entsC (l ++ R)).toArray, 8, true⟩
  lt : b < h.next
theorem Lst.le {h : Hp} {b n : Nat} {l : List Ent} (L : Lst h b n l) : l.length ≤ n := by
  obtain ⟨R, h1, _⟩ := L.ex
  rw [List.length_append] at h1
  omega
theorem Lst.mono {h h' : Hp} {b n : Nat} {l : List Ent} (L : Lst h b n l) (hn : h.next ≤ h'.next) (hs : h'.blks b = h.blks b) : Lst h' b n l := by
  obtain ⟨R, h1, h2⟩ := L.ex
  exact ⟨⟨R, h1, by rw [hs]; exact h2⟩, Nat.lt_of_lt_of_le L.lt hn⟩
/-- A function over entries, called where only a block may be another. -/
def Clo (h : Hp) (b f : Nat) (cs : List Value) (p : Ent → Bool) (l : List Ent) : Prop := ∀ h', h.next ≤ h'.next → (∀ i, i < h.next → i ≠ b → h'.blks i = h.blks i) → ∀ e ∈ l, ∀ K', K' (.bool (p e)) h' → ACall prog f (.agg (entA e) :: cs) h' K'
def idxP (p : Ent → Bool) : List Ent → Nat → Int
  | [], _ => -1
  | e :: l, k => if p e = true then k else idxP p l (k + 1)
section
variable {h : Hp} {K : Value → Hp → Prop}
theorem idx_call {p : Ent → Bool} {l : List Ent} {b n c f : Nat} {cs : List Value} (L : Lst h b n l) (hl : l.length < 4611686018427387904) (hc : Clo h b f cs p l) (hK : K (.int .i64 (idxP p l 0)) h) : ACall prog 35 [.slice (some ⟨b, 0, none⟩) l.length c, fnV f cs] h K := by
  refine acallF_of tb0 func35 rfl rfl mixed (by kernel_rfl) fun hwf => ?_
  obtain ⟨R, h1, hb⟩ := L.ex
  simp -dsimp (disch := omega)
  refine awp_loop (fun t h' => h' = h ∧ ∃ k : Nat, k ≤ l.length ∧ t 0 = .slice (some ⟨b, 0, none⟩) l.length c ∧ t 1 = fnV f cs ∧ t 7 = .int .i64 l.length ∧ t 8 = .int .i64 k ∧ idxP p l 0 = idxP p (l.drop k) k) (fun t _ => l.length - ivN (t 8)) ?_ ?_
  · simp -dsimp (disch := omega)
    exact ⟨0, Nat.zero_le _, rfl, rfl⟩
  · rintro t h' ⟨rfl, k, hk, g0, g1, g7, g8, hix⟩
    refine vcF_sound mixed (tb := tb0) _ (by kernel_rfl) ?_
    by_cases hc' : k < l.length
    · have hci : (k : Int) < l.length := by omega
      obtain ⟨e, he⟩ : ∃ e, l[k]? = some e := ⟨l[k], by simp [hc']⟩
      have hx := ents_at he R
      have hsz : (entsC (l ++ R)).toArray.size = n * 8 := by rw [List.size_toArray, entsC_length, h1]
      have hle : k * 8 + 8 ≤ (entsC (l ++ R)).toArray.size := by rw [hsz, ← h1, List.length_append]; omega
      have hdr : l.drop k = e :: l.drop (k + 1) := by
        obtain ⟨q1, q2⟩ := List.getElem?_eq_some_iff.1 he
        rw [List.drop_eq_getElem_cons q1, q2]
      rw [hdr] at hix
      simp only [idxP] at hix
      simp -dsimp (disch := omega) [g0, g1, g7, g8, hc', hci, hb, hx, hle]
      refine hc h' (Nat.le_refl _) (fun _ _ _ => rfl) e (List.mem_of_getElem? he) _ ?_
      cases hp : p e with
      | true =>
        rw [hp, if_pos rfl] at hix
        rw [hix] at hK
        simp -dsimp (disch := omega) [g8]
        exact RetF.same hwf (by simp) (Nat.zero_le _) (fun _ _ => rfl) hK
      | false =>
        rw [hp, if_neg (by simp)] at hix
        simp -dsimp (disch := omega) [g0, g1, g7, g8]
        exact ⟨⟨k + 1, by omega, by simp, hix⟩, by simp [ivN]; omega⟩
    · have : k = l.length := by omega
      subst this
      simp -dsimp (disch := omega) [g0, g1, g7, g8]
      rw [hix, List.drop_length] at hK
      exact RetF.same hwf (by simp [idxP]) (Nat.zero_le _) (fun _ _ => rfl) hK
end
end Go.Proofs.Ytmlpcnpkidmlhaa
