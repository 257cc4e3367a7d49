/-
  The document's queue.
-/
import Derived.Test.YtggohjlfhomafaaL2
import Derived.Test.YtggohjlfhomafaaM23
set_option linter.unusedSimpArgs false
set_option linter.unusedVariables false
set_option linter.unusedSectionVars false
namespace Go.Proofs.Ytggohjlfhomafaa
open Go Go.Mini Go.Proofs.Try

def strsC (l : List ByteArray) : List Value := l.map .string
theorem strsC_append (l l' : List ByteArray) : strsC (l ++ l') = strsC l ++ strsC l' := by simp [strsC]
theorem strsC_len (l : List ByteArray) : (strsC l).length = l.length := by simp [strsC]
def refC (vs : Value) (d o : Nat) : Array Value := #[vs, .int .i64 d, .int .i64 o]
/-- The document's queue, apart from block p. -/
def RefQ (h : Hp) (p r : Nat) (M : List ByteArray) (d o : Nat) : Prop :=
  ∃ vs, h.blks r = some ⟨refC vs d o, 1, true⟩ ∧ Sl h 1 M.length (strsC M) vs ∧ r ≠ p ∧ r < h.next ∧ (∀ b, sblk vs = some b → b < h.next ∧ b ≠ r ∧ b ≠ p) ∧ d ≤ 16 ∧ o ≤ 64 ∧ M.length ≤ d ∧ (∀ s ∈ M, s.size ≤ 64) ∧ ∀ a k c, vs = .slice (some a) k c → k ≤ c / 2
theorem RefQ.mono {h h' : Hp} {p r : Nat} {M : List ByteArray} {d o : Nat} (q : RefQ h p r M d o) (hn : h.next ≤ h'.next) (hs : ∀ i, i < h.next → i ≠ p → h'.blks i = h.blks i) : RefQ h' p r M d o := by
  obtain ⟨vs, h1, h2, h3, h4, h5, r1⟩ := q
  refine ⟨vs, by rw [hs r h4 h3]; exact h1, h2.mono fun b hb => hs b (h5 b hb).1 (h5 b hb).2.2, h3, by omega, fun b hb => ⟨by have := (h5 b hb).1; omega, (h5 b hb).2⟩, r1⟩
/-- Apart from what is new. -/
theorem RefQ.fresh {h h' : Hp} {p p' r : Nat} {M : List ByteArray} {d o : Nat} (q : RefQ h p r M d o) (hp : h.next ≤ p') (hn : h.next ≤ h'.next) (hs : ∀ i, i < h.next → i ≠ p → h'.blks i = h.blks i) : RefQ h' p' r M d o := by
  obtain ⟨vs, h1, h2, h3, h4, h5, r1⟩ := q
  refine ⟨vs, by rw [hs r h4 h3]; exact h1, h2.mono fun b hb => hs b (h5 b hb).1 (h5 b hb).2.2, by omega, by omega, fun b hb => ⟨by have := (h5 b hb).1; omega, (h5 b hb).2.1, by have := (h5 b hb).1; omega⟩, r1⟩

section
variable {h : Hp} {K : Value → Hp → Prop} {p r d o : Nat} {M : List ByteArray}
theorem refNew_call {a b : Nat} (ha : a < 256) (hb : b < 256) (h1 : newOk a b = true → K (.tuple #[ptr h.next, .int .i64 0]) (h.alloc ⟨refC (.slice none 0 0) a b, 1, true⟩))
    (h2 : newOk a b = false → K (.tuple #[.pointer none, .int .i64 2]) h) : ACall prog 14 [.int .u8 a, .int .u8 b] h K := by
  refine acallF_of tb0 func14 rfl rfl mixed (by kernel_rfl) fun hwf => ?_
  by_cases hok : newOk a b = true
  · have hK := h1 hok
    clear h1 h2
    have hok' : 1 ≤ a ∧ a ≤ 16 ∧ 1 ≤ b ∧ b ≤ 64 := by simpa [newOk, and_assoc] using hok
    obtain ⟨a0, a1, b0, b1⟩ := hok'
    have c1 : ¬ (a : Int) < 1 := by omega
    have c2 : ¬ (16 : Int) < a := by omega
    have c3 : ¬ (b : Int) < 1 := by omega
    have c4 : ¬ (64 : Int) < b := by omega
    simp -dsimp (disch := omega) [c1, c2, c3, c4]
    refine RetF.all (r := .tuple #[.pointer (some ⟨h.next, 0, none⟩), .int .i64 0]) (by simp) ?_
    exact hK
  · have hK := h2 (by simpa using hok)
    clear h1 h2
    have hok' : ¬ (1 ≤ a ∧ a ≤ 16 ∧ 1 ≤ b ∧ b ≤ 64) := by simpa [newOk, and_assoc] using hok
    by_cases c1 : (a : Int) < 1
    · simp -dsimp (disch := omega) [c1]
      exact RetF.same hwf (by simp) (Nat.zero_le _) (fun _ _ => rfl) hK
    · by_cases c2 : (16 : Int) < a
      · simp -dsimp (disch := omega) [c1, c2]
        exact RetF.same hwf (by simp) (Nat.zero_le _) (fun _ _ => rfl) hK
      · by_cases c3 : (b : Int) < 1
        · simp -dsimp (disch := omega) [c1, c2, c3]
          exact RetF.same hwf (by simp) (Nat.zero_le _) (fun _ _ => rfl) hK
        · have c4 : (64 : Int) < b := by omega
          simp -dsimp (disch := omega) [c1, c2, c3, c4]
          exact RetF.same hwf (by simp) (Nat.zero_le _) (fun _ _ => rfl) hK
theorem digs_one (n : Nat) (hn : n < 256) : digs (n : Int) 1 = [UInt8.ofNat n] := by
  have e : ((n : Int) / 256 ^ 0 % 256).toNat = n := by
    rw [Int.pow_zero, Int.ediv_one]; omega
  show [digAt n 0] = _
  unfold digAt
  rw [e]
def partL (M : List ByteArray) (k : Nat) : List UInt8 := [UInt8.ofNat M.length] ++ (M.take k).flatMap tell
theorem partL_succ {M : List ByteArray} {k : Nat} {x : ByteArray} (hx : M[k]? = some x) (h64 : x.size ≤ 64) : partL M (k + 1) = partL M k ++ [UInt8.ofNat x.size] ++ x.data.toList := by
  unfold partL
  rw [take_snoc hx]
  simp [tell, digs_one x.size (by omega)]
theorem partL_len {M : List ByteArray} (h64 : ∀ s ∈ M, s.size ≤ 64) : ∀ k, (partL M k).length ≤ 1 + 65 * k := by
  intro k
  induction k with
  | zero => simp [partL]
  | succ k ih =>
    cases hx : M[k]? with
    | none =>
      have : M.length ≤ k := List.getElem?_eq_none_iff.1 hx
      unfold partL at ih ⊢
      rw [List.take_of_length_le (by omega)] at ih ⊢
      omega
    | some x =>
      have := h64 x (List.mem_of_getElem? hx)
      rw [partL_succ hx this]
      have e : x.data.toList.length = x.size := rfl
      simp only [List.length_append, List.length_singleton, e]
      omega
theorem partL_all {M : List ByteArray} (h : M.length < 256) : partL M M.length = dumpOf M := by
  unfold partL dumpOf
  rw [List.take_length, digs_one _ h]
theorem refDump_call (q : RefQ h p r M d o) (hK : K (.string (txt (dumpOf M))) h) : ACall prog 26 [ptr r] h K := by
  refine acallF_of tb0 func26 rfl rfl mixed (by kernel_rfl) fun hwf => ?_
  obtain ⟨vs, hb, hv, q1, q2, q3, q4, q5, q6, q7, q8⟩ := q
  obtain ⟨va, vc, rfl⟩ := hv.slice
  unfold refC at hb
  simp -dsimp (disch := omega) [hb]
  refine awp_loop (fun t h' => h.next ≤ h'.next ∧ (∀ i, i < h.next → h'.blks i = h.blks i) ∧ ∃ k : Nat, k ≤ M.length ∧ t 0 = ptr r ∧ t 3 = .string (txt (partL M k)) ∧ t 4 = .int .i64 k) (fun t _ => M.length - ivN (t 4)) ?_ ?_
  · simp -dsimp (disch := omega)
    exact ⟨fun i hi he => absurd he (by omega), 0, by omega, by simp [partL], rfl⟩
  · rintro t h' ⟨hn, hs, k, hk, g0, g3, g4⟩
    have hb' : h'.blks r = some ⟨#[.slice va M.length vc, .int .i64 d, .int .i64 o], 1, true⟩ := by rw [hs _ q2]; exact hb
    refine vcF_sound mixed (tb := tb0) _ (by kernel_rfl) ?_
    simp -dsimp (disch := omega) [g0, g4, hb']
    refine CondF_dec (fun hc => ?_) (fun hc => ?_)
    · have hkl : k < M.length := by omega
      obtain ⟨x, hx⟩ : ∃ x, M[k]? = some x := ⟨M[k], List.getElem?_eq_getElem hkl⟩
      have h64 := q7 x (List.mem_of_getElem? hx)
      obtain ⟨z1, ⟨_, _, _, z2⟩ | ⟨a, c, b', e, z3, z4, z5⟩⟩ := hv
      · omega
      cases e
      have z6 := z5 k (by omega)
      rw [show (strsC M)[k]? = some (.string x) by simp [strsC, hx]] at z6
      have hab := (q3 _ rfl).1
      have z7 : h'.blks a.block = some b' := by rw [hs _ (q3 _ rfl).1]; exact z3
      have hpl := partL_len q7 k
      have hps := partL_succ hx h64
      have hbs : a.off + k < b'.cells.size := by omega
      clear z5
      simp -dsimp (disch := first | omega | (simp; omega)) [g0, g3, g4, hb', z7, z6, hbs, -getElem?_pos]
      refine ⟨⟨by omega, fun i hi => ?_, k + 1, by omega, ?_, by simp⟩, by simp [ivN]; omega⟩
      · rw [if_neg (by omega)]; exact hs i hi
      · rw [hps, ← txt_append _ x.data.toList, txt_of]
    · have : k = M.length := by omega
      subst this
      rw [partL_all (by omega)] at g3
      simp -dsimp (disch := omega) [g0, g3, g4]
      exact RetF.same hwf (by simp [g3]) (Nat.zero_le _) hs hK
end
end Go.Proofs.Ytggohjlfhomafaa
