/-
  Lists of entries: DeleteFunc.
-/
import Derived.Test.YtmlpcnpkidmlhaaY1
set_option linter.unusedSimpArgs false
set_option linter.unusedVariables false
set_option linter.unusedSectionVars false
namespace Go.Proofs.Ytmlpcnpkidmlhaa
set_option maxRecDepth 100000
open Go Go.Mini Go.Proofs.Try

theorem idxP_spec (p : Ent → Bool) : ∀ (l : List Ent) (k : Nat), (idxP p l k = -1 ∧ ∀ e ∈ l, p e = false) ∨ ∃ A e C, l = A ++ e :: C ∧ (∀ x ∈ A, p x = false) ∧ p e = true ∧ idxP p l k = ((k + A.length : Nat) : Int)
  | [], _ => .inl ⟨rfl, fun _ h => by cases h⟩
  | x :: l, k => by
    by_cases hx : p x = true
    · exact .inr ⟨[], x, l, rfl, (fun _ h => by cases h), hx, by simp [idxP, hx]⟩
    · rcases idxP_spec p l (k + 1) with ⟨h1, h2⟩ | ⟨A, e, C, h1, h2, h3, h4⟩
      · exact .inl ⟨by simp only [idxP, if_neg hx, h1], fun e he => by
          rcases List.mem_cons.1 he with rfl | he
          · simpa using hx
          · exact h2 e he⟩
      · exact .inr ⟨x :: A, e, C, by rw [h1]; rfl, fun y hy => by
          rcases List.mem_cons.1 hy with rfl | hy
          · simpa using hx
          · exact h2 y hy, h3, by simp only [idxP, if_neg hx, h4, List.length_cons]; congr 1; omega⟩
def zeroE : Ent := ⟨0, 0, 0, 0, 0, 0, 0, 0⟩
theorem zero_rows (m : Nat) : (zeroRow none8 (m * 8)).toList = entsC (List.replicate m zeroE) := by
  have := zeroRow_zrow none8 m
  rw [show m * none8.size = m * 8 from rfl] at this
  rw [this]
  clear this
  show zrowL none8.toList m = _
  induction m with
  | zero => rfl
  | succ m ih => rw [zrowL_succ, List.replicate_succ, entsC_cons, ← ih]; rfl
theorem asl_tail {b n L i : Nat} (hi : i < n) (hl : i ≤ L) : asliceRow ⟨b, 0, none⟩ 8 L (2 * n + 1) (some (.int .i64 (i : Nat))) none none = some (.slice (some ⟨b, i * 8, none⟩) (L - i) (2 * (n - i) + 1)) := by
  unfold asliceRow
  have e1 : bndD none n L = some L := by simp [bndD]
  have e2 : bndD (some (.int .i64 (i : Nat))) L 0 = some i := by simp [bndD, bnd]; omega
  have e3 : (2 * n + 1) / 2 = n := by omega
  simp only [e3, e1, e2]
  rw [if_pos (by omega), if_neg (by omega)]
  simp
theorem asl_head {b n L i : Nat} (hi : i ≤ n) : asliceRow ⟨b, 0, none⟩ 8 L (2 * n + 1) none (some (.int .i64 (i : Nat))) none = some (.slice (some ⟨b, 0, none⟩) i (2 * n + 1)) := by
  unfold asliceRow
  have e3 : (2 * n + 1) / 2 = n := by omega
  have e1 : bndD (some (.int .i64 (i : Nat))) n L = some i := by simp [bndD, bnd]; omega
  have e2 : bndD none i 0 = some 0 := by simp [bndD]
  simp only [e3, e1, e2]
  rw [if_pos (by omega), if_neg (by omega)]
  simp
theorem aclear_ents {h : Hp} {b i m c : Nat} {A M C : List Ent} {K : Value → Hp → Prop} {u : Tag K} (hb : h.blks b = some ⟨(entsC (A ++ (M ++ C))).toArray, 8, true⟩) (hi : A.length = i) (hm : M.length = m) (hm0 : 0 < m) (hK : K (.tuple #[]) (h.set b ⟨(entsC (A ++ (List.replicate m zeroE ++ C))).toArray, 8, true⟩)) : OptF (aclear h none8 (.slice (some ⟨b, i * 8, none⟩) m c)) K u := by
  subst hi
  unfold aclear
  simp only [hb]
  rw [if_neg (by omega), if_pos ⟨trivial, by show A.length * 8 + m * 8 ≤ _; rw [List.size_toArray, entsC_length]; simp only [List.length_append]; omega⟩]
  have e : Blk.put ⟨(entsC (A ++ (M ++ C))).toArray, 8, true⟩ (A.length * 8) (zeroRow none8 (m * none8.size)).toList = ⟨(entsC (A ++ (List.replicate m zeroE ++ C))).toArray, 8, true⟩ := by
    unfold Blk.put
    rw [show m * none8.size = m * 8 from rfl, zero_rows, ents_put A M (List.replicate m zeroE) C (by rw [hm, List.length_replicate])]
  rw [e]
  exact hK
section
variable {h : Hp} {K : Value → Hp → Prop}
theorem del_call {p : Ent → Bool} {l : List Ent} {b n f : Nat} {cs : List Value} (L : Lst h b n l) (hn : n < 1000000) (hc : Clo h b f cs p l)
    (hK : ∀ h', Lst h' b n (l.filter fun e => !p e) → h.next ≤ h'.next → (∀ i, i < h.next → i ≠ b → h'.blks i = h.blks i) → K (.slice (some ⟨b, 0, none⟩) (l.filter fun e => !p e).length (2 * n + 1)) h') : ACall prog 34 [.slice (some ⟨b, 0, none⟩) l.length (2 * n + 1), fnV f cs] h K := by
  refine acallF_of tb0 func34 rfl rfl mixed (by kernel_rfl) fun hwf => ?_
  have hle := L.le
  have hlt := L.lt
  obtain ⟨R, hR, hb⟩ := L.ex
  simp -dsimp (disch := omega)
  refine idx_call L (by omega) hc ?_
  rcases idxP_spec p l 0 with ⟨i1, i2⟩ | ⟨A, e, C, i1, i2, i3, i4⟩
  · rw [i1]
    simp -dsimp (disch := omega)
    have hf : (l.filter fun e => !p e) = l := List.filter_eq_self.2 fun e he => by rw [i2 e he]; rfl
    rw [hf] at hK
    exact RetF.all (by simp) (hK h L (Nat.le_refl _) fun _ _ _ => rfl)
  · rw [i4, Nat.zero_add]
    have hAl : A.length < l.length := by rw [i1]; simp
    have hA1 : ¬ (A.length : Int) = -1 := by omega
    simp -dsimp (disch := omega) [hA1]
    refine awp_loop (fun t h' => ∃ j G Y, t 0 = .slice (some ⟨b, 0, none⟩) l.length (2 * n + 1) ∧ t 1 = fnV f cs ∧ t 5 = .int .i64 (List.length G : Nat) ∧ t 6 = .int .i64 (j : Nat) ∧ j ≤ l.length ∧ G = (l.take j).filter (fun e => !p e) ∧ (G ++ Y).length = j ∧ Y ≠ [] ∧ h.next ≤ h'.next ∧ (∀ i, i < h.next → i ≠ b → h'.blks i = h.blks i) ∧ h'.blks b = some ⟨(entsC (G ++ (Y ++ (l.drop j ++ R)))).toArray, 8, true⟩) (fun t _ => l.length - ivN (t 6)) ?_ ?_
    · simp -dsimp (disch := omega)
      refine ⟨A.length + 1, A, rfl, by simp, by omega, ?_, [e], by simp, by simp, ?_⟩
      · have e1 : l.take (A.length + 1) = A ++ [e] := by
          rw [i1, show A ++ e :: C = (A ++ [e]) ++ C by simp]
          have := List.take_left (l₁ := A ++ [e]) (l₂ := C)
          simpa using this
        rw [e1, List.filter_append, List.filter_eq_self.2 fun x hx => by rw [i2 x hx]; rfl]
        simp [i3]
      · have e2 : l.drop (A.length + 1) = C := by
          rw [i1, show A ++ e :: C = (A ++ [e]) ++ C by simp]
          simp
        rw [e2, hb, i1]
        simp
    · rintro t h' ⟨j, G, Y, g0, g1, g5, g6, hj, hG, hGY, hY, hn', hs, hb'⟩
      refine vcF_sound mixed (tb := tb0) _ (by kernel_rfl) ?_
      by_cases hcj : j < l.length
      · have hci : (j : Int) < l.length := by omega
        obtain ⟨v, hv⟩ : ∃ v, l[j]? = some v := ⟨l[j], by simp [hcj]⟩
        have hdr : l.drop j = v :: l.drop (j + 1) := by
          obtain ⟨q1, q2⟩ := List.getElem?_eq_some_iff.1 hv
          rw [List.drop_eq_getElem_cons q1, q2]
        rw [hdr] at hb'
        have hx : (entsC (G ++ (Y ++ (v :: l.drop (j + 1) ++ R)))).toArray.extract (j * 8) (j * 8 + 8) = entA v := by
          have := ents_get (G ++ Y) (l.drop (j + 1) ++ R) v
          rw [hGY] at this
          rw [← this]
          simp
        have hsz : j * 8 + 8 ≤ (entsC (G ++ (Y ++ (v :: l.drop (j + 1) ++ R)))).toArray.size := by
          rw [List.size_toArray, entsC_length]
          simp only [List.length_append, List.length_cons] at hGY ⊢
          omega
        have hz : (entA v).size = 8 := rfl
        obtain ⟨y, Y', rfl⟩ : ∃ y Y', Y = y :: Y' := by
          cases Y with
          | nil => exact absurd rfl hY
          | cons y Y' => exact ⟨y, Y', rfl⟩
        have hput : putL (entsC (G ++ (y :: Y' ++ (v :: l.drop (j + 1) ++ R)))).toArray (G.length * 8) (entL v) = (entsC ((G ++ [v]) ++ ((Y' ++ [v]) ++ (l.drop (j + 1) ++ R)))).toArray := by
          have := ents_put G [y] [v] (Y' ++ (v :: l.drop (j + 1) ++ R)) rfl
          rw [show entsC [v] = entL v from by simp [entsC]] at this
          rw [show G ++ (y :: Y' ++ (v :: l.drop (j + 1) ++ R)) = G ++ ([y] ++ (Y' ++ (v :: l.drop (j + 1) ++ R))) by simp, this]
          simp
        have hdel : G ++ (y :: Y' ++ (v :: l.drop (j + 1) ++ R)) = G ++ ((y :: Y' ++ [v]) ++ (l.drop (j + 1) ++ R)) := by simp
        have htk : l.take (j + 1) = l.take j ++ [v] := take_snoc hv
        have hGj : G.length < j := by rw [← hGY]; simp
        have hone : oneAll (entL v) = true := rfl
        obtain ⟨X, hX⟩ : ∃ X, X = (entsC (G ++ (y :: Y' ++ (v :: l.drop (j + 1) ++ R)))).toArray := ⟨_, rfl⟩
        rw [← hX] at hb' hx hsz hput
        have hsG : G.length * 8 + 8 ≤ X.size := by omega
        obtain ⟨V, hV⟩ : ∃ V, V = entA v := ⟨_, rfl⟩
        have hV1 : oneAll V.toList = true := by rw [hV]; rfl
        have hV2 : putL #[.int .u64 0, .int .u64 0, .int .u64 0, .int .i64 0, .int .u64 0, .int .u64 0, .int .u64 0, .int .i64 0] 0 V.toList = V := by rw [hV]; exact put_none8 v
        have hVl : V.toList = entL v := by rw [hV]; rfl
        have hVx : V.extract 0 8 = V := by rw [hV]; rfl
        rw [← hV] at hx hz
        simp -dsimp (disch := omega) [g0, g1, g5, g6, hcj, hci, hb', hx, hsz, hz, hV1, hV2, hVx]
        rw [hV]
        refine hc _ (by simp; omega) (fun i i1 i2 => by rw [blks_alloc_ne _ _ _ (by omega)]; exact hs i i1 i2) v (List.mem_of_getElem? hv) _ ?_
        rw [← hV]
        cases hp : p v with
        | true =>
          simp -dsimp (disch := omega) [g0, g1, g5, g6]
          refine ⟨⟨j + 1, G, rfl, by simp, by omega, ?_, y :: Y' ++ [v], ?_, by simp, by omega, fun i i1 i2 => ?_, ?_⟩, by simp [ivN]; omega⟩
          · rw [htk, List.filter_append, ← hG]
            simp [hp]
          · simp only [List.length_append, List.length_cons, List.length_nil] at hGY ⊢
            omega
          · rw [if_neg (by omega)]; exact hs i i1 i2
          · rw [hb', hX, hdel]
        | false =>
          simp -dsimp (disch := omega) [g0, g1, g5, g6, hb', hz, hV1, hV2, hVx, hVl, hput, hone, hsG]
          refine ⟨⟨j + 1, G ++ [v], by simp, by simp, by omega, ?_, Y' ++ [v], ?_, by simp, by omega, fun i i1 i2 => ?_, ?_⟩, by simp [ivN]; omega⟩
          · rw [htk, List.filter_append, ← hG]
            simp [hp]
          · simp only [List.length_append, List.length_cons, List.length_nil] at hGY ⊢
            omega
          · rw [if_neg (by omega), if_neg i2]; exact hs i i1 i2
          · simp
      · have : j = l.length := by omega
        subst this
        have hGl : G.length < l.length := by
          rw [← hGY, List.length_append]
          cases Y with
          | nil => exact absurd rfl hY
          | cons y Y' => simp
        have hGn : G.length < n := by omega
        have s1 := asl_tail (b := b) (L := l.length) hGn (Nat.le_of_lt hGl)
        have s2 := asl_head (b := b) (n := n) (L := l.length) (Nat.le_of_lt hGn)
        simp -dsimp (disch := omega) [g0, g1, g5, g6, s1, s2]
        rw [List.drop_length, List.nil_append] at hb'
        have hYl : Y.length = l.length - G.length := by rw [← hGY, List.length_append]; omega
        refine aclear_ents (A := G) (M := Y) (C := R) hb' rfl hYl (by omega) ?_
        simp -dsimp (disch := omega) [g0, g1, g5, g6, s1, s2]
        rw [List.take_length] at hG
        rw [← hG] at hK
        refine RetF.all (by simp) (hK _ ⟨⟨List.replicate (l.length - G.length) zeroE ++ R, ?_, blks_set_eq _ _ _⟩, by simp; omega⟩ (by simpa using hn') fun i i1 i2 => by rw [blks_set_ne _ _ _ _ i2]; exact hs i i1 i2)
        rw [← hR]
        simp only [List.length_append, List.length_replicate]
        omega
end
end Go.Proofs.Ytmlpcnpkidmlhaa
