/-
  The chapter's own answers, and the first law's body.
-/
import Derived.Test.YtpppnibhlkpgmaaA5
namespace Go.Proofs.Ytpppnibhlkpgmaa
open Go Go.Mini Go.Proofs.Try

theorem awake_call {h : Hp} {K : Value → Hp → Prop} (hK : ∀ h', Ext h h' → K (.bool true) h') : ACall prog 7 [] h K := by
  refine acallF_of tb0 func7 rfl rfl mixed (by kernel_rfl) fun hwf => ?_
  simp -dsimp (disch := omega)
  refine of_call (by decide) ?_
  intro h1 s p q hs hs1 hs2 hs3 he1
  simp -dsimp (disch := omega)
  refine put_call (l := [(258, 2), (7, 1)]) ?_ (by simp) (by simp) ?_
  · exact ⟨by simp [fldCells], .inr ⟨_, _, _, rfl, blks_alloc_eq _ _, by simp, fun j _ => by simp [fldCells]⟩⟩
  have e1 : Go.Proofs.Ytpppnibhlkpgmaa.putL [(258, 2), (7, 1)] = [2, 1, 7] := by kernel_rfl
  have e2 : numTo (got (txt [2, 1, 7]) 0 ((txt [2, 1, 7]).size : Int) false (wideF 2)) (got (txt [2, 1, 7]) 0 ((txt [2, 1, 7]).size : Int) false (wideF 2)).size = 258 := by kernel_rfl
  have e3 : nxtA 0 ((txt [2, 1, 7]).size : Int) false (wideF 2) = 2 := by kernel_rfl
  have e4 : nxtL ((txt [2, 1, 7]).size : Int) false (wideF 2) = 1 := by kernel_rfl
  have e5 : sumTo (txt [97]) (txt [97]).size = 128 := by kernel_rfl
  simp -dsimp (disch := omega) [e1]
  have hs' := hs.ext (Ext.alloc h1 ⟨#[.int .u64 258, .int .i64 2, .int .u64 7, .int .i64 1], 2, true⟩)
  refine taken_call hs' fun h2 he2 => ?_
  rw [e2]
  simp -dsimp (disch := omega)
  have hs2' := (hs'.after (n := wideF 2) (by decide)).ext he2
  rw [e3, e4] at hs2'
  refine at_call hs2' ?_
  simp -dsimp (disch := omega)
  refine left_call hs2' ?_
  simp -dsimp (disch := omega)
  refine sum_call (by decide) ?_
  rw [e5]
  simp -dsimp (disch := omega)
  refine RetF.all (by simp) (hK _ ?_)
  refine ((he1.then_alloc _).then_set _ hs1).trans he2

theorem putL_take_length (l : List (Int × Int)) (k : Nat) : (Go.Proofs.Ytpppnibhlkpgmaa.putL (l.take k)).length ≤ 8 * l.length := by
  have := putL_length (l.take k)
  have := List.length_take_le' k l
  omega
theorem codecPuts_call {l : List (Int × Int)} {v : Value} {S : ByteArray} {h : Hp} {K : Value → Hp → Prop} (hv : Sl h 2 l.length (fldCells l) v) (hr : ∀ f ∈ l, 0 ≤ f.1 ∧ f.1 ≤ 18446744073709551615)
    (hK : ∀ h', Ext h h' → K (.bool true) h') : ACall prog 3 [v, .string S] h K := by
  refine acallF_of tb0 func3 rfl rfl mixed (by kernel_rfl) fun hwf => ?_
  have hlen := hv.slice
  have hvb := sblk_lt (hwf.args v (by simp))
  obtain ⟨va, vc, rfl⟩ := hlen
  by_cases hc1 : (100 : Int) < l.length
  · simp -dsimp (disch := omega) [hc1]
    refine awake_call fun h' he => ?_
    simp -dsimp (disch := omega)
    exact RetF.all (by simp) (hK _ he)
  by_cases hc2 : (3000 : Int) < S.size
  · simp -dsimp (disch := omega) [hc1, hc2]
    refine awake_call fun h' he => ?_
    simp -dsimp (disch := omega)
    exact RetF.all (by simp) (hK _ he)
  simp -dsimp (disch := omega) [hc1, hc2]
  refine awp_loop (fun t h' => Ext h h' ∧ ∃ k : Nat, t 0 = .slice va l.length vc ∧ t 1 = .string S ∧ t 6 = .int .i64 k ∧ t 5 = .string (txt (Go.Proofs.Ytpppnibhlkpgmaa.putL (l.take k))) ∧ k ≤ l.length) (fun t _ => l.length - ivN (t 6)) ?_ ?_
  · simp -dsimp
    exact ⟨Ext.refl h, 0, rfl, rfl, Nat.zero_le _⟩
  · rintro t h' ⟨he, k, h0, h1, h6, h5, hk⟩
    refine vcF_sound mixed (tb := tb0) _ (by kernel_rfl) ?_
    simp -dsimp (disch := omega) [h0, h1, h6, h5]
    refine CondF_dec (fun hc => ?_) (fun hc => ?_)
    · have hkl : k < l.length := by omega
      obtain ⟨f, hf⟩ : ∃ f, l[k]? = some f := ⟨l[k], by simp [hkl]⟩
      have hfr := hr f (List.mem_of_getElem? hf)
      obtain ⟨_, ⟨_, c, e, h0⟩ | ⟨a, c, b, e, hb, hbs, hbc⟩⟩ := hv
      · omega
      cases e
      have hab := hvb _ rfl
      obtain ⟨c1, c2⟩ := fldCells_at l k f hf
      have hb' : h'.blks a.block = some b := by rw [he.same _ hab]; exact hb
      have e1 := hbc (2 * k) (by omega)
      have e2 := hbc (2 * k + 1) (by omega)
      rw [c1, Nat.mul_comm 2 k] at e1
      rw [c2, Nat.mul_comm 2 k, ← Nat.add_assoc] at e2
      have r1 := putL_take_length l k
      have r2 := wideF_range f.2
      have r3 := digs_length f.1 (wideF f.2).toNat
      clear hbs hbc
      simp -dsimp (disch := omega) [h0, h1, h6, h5, hb', e1, e2]
      refine refBytes_call hfr ?_
      simp -dsimp (disch := first | omega | (simp; omega)) [h0, h1, h6, h5, hb', e1, e2]
      exact ⟨⟨he, k + 1, by simp, by rw [take_snoc hf, putL_snoc], by omega⟩, by simp [ivN]; omega⟩
    · have : k = l.length := by omega
      subst this
      rw [List.take_length] at h5
      simp -dsimp (disch := omega) [h0, h1, h6, h5]
      refine put_call (hv.mono fun b hb => he.same _ (hvb b hb)) (by omega) hr ?_
      simp -dsimp (disch := omega) [h0, h1, h6, h5]
      refine sum_call (by omega) ?_
      simp -dsimp (disch := omega) [h0, h1, h6, h5]
      refine refSum_call (by omega) ?_
      simp -dsimp (disch := omega) [h0, h1, h6, h5]
      refine awake_call fun h' he' => ?_
      simp -dsimp (disch := omega) [h0, h1, h6, h5]
      exact RetF.all (by simp) (hK _ (he.trans he'))

end Go.Proofs.Ytpppnibhlkpgmaa
