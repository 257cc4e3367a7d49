/-
  What is taken of any text: the law's body.
-/
import Derived.Test.YtpppnibhlkpgmaaA7
namespace Go.Proofs.Ytpppnibhlkpgmaa
open Go Go.Mini Go.Proofs.Try

def askCells (l : List (Bool × Int)) : List Value := l.flatMap fun f => [.bool f.1, .int .i64 f.2]
theorem askCells_at (l : List (Bool × Int)) : ∀ (k : Nat) (f : Bool × Int), l[k]? = some f → (askCells l)[2 * k]? = some (.bool f.1) ∧ (askCells l)[2 * k + 1]? = some (.int .i64 f.2) := by
  induction l with
  | nil => intro k f h; simp at h
  | cons g l ih =>
    intro k f h
    cases k with
    | zero => simp only [List.getElem?_cons_zero, Option.some.injEq] at h; subst h; exact ⟨rfl, rfl⟩
    | succ k =>
      have := ih k f (by simpa using h)
      rw [show 2 * (k + 1) = 2 * k + 1 + 1 from by omega]
      simpa [askCells] using this
theorem Srce.other {h : Hp} {s p q r : Nat} {S : ByteArray} {at_ left : Int} {torn : Bool} {b : Blk} (hs : Srce h s p q S at_ left torn) (h1 : s ≠ r) (h2 : p ≠ r) (h3 : q ≠ r) : Srce (h.set r b) s p q S at_ left torn :=
  ⟨by rw [blks_set_ne _ _ _ _ h1]; exact hs.bs, by rw [blks_set_ne _ _ _ _ h2]; exact hs.bp, by rw [blks_set_ne _ _ _ _ h3]; exact hs.bq, hs.ls, hs.lp, hs.lq, hs.ps, hs.qs, hs.at0, hs.left0, hs.sum, hs.len⟩

def Both (h : Hp) (s p q r : Nat) (S : ByteArray) : Prop := ∃ at_ left torn, Srce h s p q S at_ left torn ∧ h.blks r = some (refB S at_ torn)

def tb5 : Nat → Marks := fun k => if k = 17 then ⟨[1, 5, 9, 15, 21, 23, 28, 30], fun _ => True⟩ else ⟨[], fun _ => True⟩

@[simp] theorem tb5_l : (tb5 17).l = [1, 5, 9, 15, 21, 23, 28, 30] := rfl
@[simp] theorem tb5_R (k : Nat) (x : Nat) : (tb5 k).R x := by unfold tb5; split <;> trivial

theorem codecTakes_call {l : List (Bool × Int)} {v : Value} {S : ByteArray} {h : Hp} {K : Value → Hp → Prop} (hv : Sl h 2 l.length (askCells l) v)
    (hK : ∀ h', Ext h h' → K (.bool true) h') : ACall prog 5 [.string S, v] h K := by
  refine acallF_of tb5 func5 rfl rfl mixed (by kernel_rfl) fun hwf => ?_
  have hlen := hv.slice
  have hvb := sblk_lt (hwf.args v (by simp))
  obtain ⟨va, vc, rfl⟩ := hlen
  by_cases hc1 : (3000 : Int) < S.size
  · simp -dsimp (disch := omega) [hc1]
    refine awake_call fun h' he => ?_
    simp -dsimp (disch := omega)
    exact RetF.all (by simp) (hK _ he)
  by_cases hc2 : (100 : Int) < l.length
  · simp -dsimp (disch := omega) [hc1, hc2]
    refine awake_call fun h' he => ?_
    simp -dsimp (disch := omega)
    exact RetF.all (by simp) (hK _ he)
  simp -dsimp (disch := omega) [hc1, hc2]
  refine of_call (by omega) ?_
  intro h1 s p q hs hs1 hs2 hs3 he1
  simp -dsimp (disch := omega)
  refine awp_loop (fun t h' => Ext h h' ∧ ∃ (k : Nat), Both h' s p q h1.next S ∧ h1.next < h'.next ∧ t 0 = .string S ∧ t 1 = .slice va l.length vc ∧ t 5 = .pointer (some ⟨s, 0, none⟩) ∧ t 6 = .pointer (some ⟨h1.next, 0, none⟩) ∧ t 7 = .int .i64 k ∧ k ≤ l.length) (fun t _ => l.length - ivN (t 7)) ?_ ?_
  · simp -dsimp
    exact ⟨he1.then_alloc _, ⟨0, S.size, false, hs.ext (Ext.alloc _ _), by simp [refB]⟩, 0, rfl, Nat.zero_le _⟩
  · rintro t h' ⟨he, k, ⟨at_, left, torn, hsr, hrf⟩, hrn, h0, ht1, h5, h6, h7, hk⟩
    have l1 := hs.ls
    have l2 := hs.lp
    have l3 := hs.lq
    have n1 := he1.le
    refine vcF_sound mixed (tb := tb5) _ (by kernel_rfl) ?_
    simp -dsimp (disch := omega) [h0, ht1, h5, h6, h7]
    refine CondF_dec (fun hc => ?_) (fun hc => ?_)
    · have hkl : k < l.length := by omega
      obtain ⟨f, hf⟩ : ∃ f, l[k]? = some f := ⟨l[k], by simp [hkl]⟩
      obtain ⟨_, ⟨_, c, e, h0⟩ | ⟨a, c, b, e, hb, hbs, hbc⟩⟩ := hv
      · omega
      cases e
      have hab := hvb _ rfl
      obtain ⟨c1, c2⟩ := askCells_at l k f hf
      have hb' : h'.blks a.block = some b := by rw [he.same _ hab]; exact hb
      have e1 := hbc (2 * k) (by omega)
      have e2 := hbc (2 * k + 1) (by omega)
      rw [c1, Nat.mul_comm 2 k] at e1
      rw [c2, Nat.mul_comm 2 k, ← Nat.add_assoc] at e2
      clear hbs hbc
      obtain ⟨raw, n⟩ := f
      simp only at e1 e2
      -- what follows, whatever was taken
      cases raw with
      | true =>
        simp -dsimp (disch := omega) [h0, ht1, h5, h6, h7, hb', e1, e2]
        refine text_call hsr ?_
        have hsa := hsr.after (n := cut0 n) (by unfold cut0; split <;> omega)
        have hra : (h'.set s (afterB p q at_ left torn (cut0 n))).blks h1.next = some (refB S at_ torn) := by rw [blks_set_ne _ _ _ _ (by omega)]; exact hrf
        have hba : (h'.set s (afterB p q at_ left torn (cut0 n))).blks a.block = some b := by rw [blks_set_ne _ _ _ _ (by omega)]; exact hb'
        have hea : Ext h (h'.set s (afterB p q at_ left torn (cut0 n))) := he.then_set _ hs1
        simp -dsimp (disch := omega) [h0, ht1, h5, h6, h7, hb', e1, e2]
        refine refText_call hra hsr.at0 hsr.left0 hsr.sum hsr.len ?_
        have hs2 := hsa.other (r := h1.next) (b := refB S (nxtA at_ left torn (cut0 n)) (nxtT left torn (cut0 n))) (by omega) (by omega) (by omega)
        have hr2 := blks_set_eq (h'.set s (afterB p q at_ left torn (cut0 n))) h1.next (refB S (nxtA at_ left torn (cut0 n)) (nxtT left torn (cut0 n)))
        have b1 := hs2.left0
        have b2 := hs2.at0
        have b3 := hs2.sum
        have e3 : (S.size : Int) - nxtA at_ left torn (cut0 n) = nxtL left torn (cut0 n) := by have := hs2.sum; omega
        simp -dsimp (disch := omega) [h0, ht1, h5, h6, h7, hb', e1, e2]
        refine at_call hs2 ?_
        simp -dsimp (disch := omega) [h0, ht1, h5, h6, h7, refB]
        refine left_call hs2 ?_
        simp -dsimp (disch := omega) [h0, ht1, h5, h6, h7, refB, e3]
        refine fail_call hs2 ?_
        simp -dsimp (disch := omega) [h0, ht1, h5, h6, h7]
        refine refFail_call hr2 ?_
        simp -dsimp (disch := omega) [h0, ht1, h5, h6, h7]
        refine end_call hs2 ?_
        simp -dsimp (disch := omega) [h0, ht1, h5, h6, h7]
        refine refEnd_call hr2 hs2.left0 hs2.sum ?_
        simp -dsimp (disch := omega) [h0, ht1, h5, h6, h7]
        exact ⟨⟨hea.then_set _ he1.le, ⟨_, _, _, hs2, hr2⟩, hrn, k + 1, by simp, by omega⟩, by simp [ivN]; omega⟩
      | false =>
        simp -dsimp (disch := omega) [h0, ht1, h5, h6, h7, hb', e1, e2]
        refine taken_call hsr ?_
        intro h3 he3
        have hw := wideF_range n
        have hsa := (hsr.after (n := wideF n) (by omega)).ext he3
        have hn3 : h'.next ≤ h3.next := he3.le
        have hra : h3.blks h1.next = some (refB S at_ torn) := by rw [he3.same _ (by simpa using hrn), blks_set_ne _ _ _ _ (by omega)]; exact hrf
        have hba : h3.blks a.block = some b := by
          have := he.le
          rw [he3.same _ (by simp; omega), blks_set_ne _ _ _ _ (by omega)]; exact hb'
        have hea : Ext h h3 := (he.then_set _ hs1).trans he3
        simp -dsimp (disch := omega) [h0, ht1, h5, h6, h7, hba, e1, e2]
        refine refTake_call hra hsr.at0 hsr.left0 hsr.sum hsr.len ?_
        have hs2 := hsa.other (r := h1.next) (b := refB S (nxtA at_ left torn (wideF n)) (nxtT left torn (wideF n))) (by omega) (by omega) (by omega)
        have hr2 := blks_set_eq h3 h1.next (refB S (nxtA at_ left torn (wideF n)) (nxtT left torn (wideF n)))
        have b1 := hs2.left0
        have b2 := hs2.at0
        have b3 := hs2.sum
        have e3 : (S.size : Int) - nxtA at_ left torn (wideF n) = nxtL left torn (wideF n) := by have := hs2.sum; omega
        simp -dsimp (disch := omega) [h0, ht1, h5, h6, h7, hba, e1, e2]
        refine at_call hs2 ?_
        simp -dsimp (disch := omega) [h0, ht1, h5, h6, h7, refB]
        refine left_call hs2 ?_
        simp -dsimp (disch := omega) [h0, ht1, h5, h6, h7, refB, e3]
        refine fail_call hs2 ?_
        simp -dsimp (disch := omega) [h0, ht1, h5, h6, h7]
        refine refFail_call hr2 ?_
        simp -dsimp (disch := omega) [h0, ht1, h5, h6, h7]
        refine end_call hs2 ?_
        simp -dsimp (disch := omega) [h0, ht1, h5, h6, h7]
        refine refEnd_call hr2 hs2.left0 hs2.sum ?_
        simp -dsimp (disch := omega) [h0, ht1, h5, h6, h7]
        exact ⟨⟨hea.then_set _ he1.le, ⟨_, _, _, hs2, hr2⟩, (by show h1.next < h3.next; omega), k + 1, by simp, by omega⟩, by simp [ivN]; omega⟩
    · simp -dsimp (disch := omega) [h0, ht1, h5, h6, h7]
      refine awake_call fun h' he' => ?_
      simp -dsimp (disch := omega)
      exact RetF.all (by simp) (hK _ (he.trans he'))

end Go.Proofs.Ytpppnibhlkpgmaa
