/-
  Put.
-/
import Derived.Test.YtcfgagpjdhhddaaC2
set_option linter.unusedSimpArgs false
set_option linter.unusedVariables false
set_option linter.unusedSectionVars false
namespace Go.Proofs.Ytcfgagpjdhhddaa
open Go Go.Mini Go.Proofs.Try

theorem take_snoc {α : Type} {l : List α} {k : Nat} {f : α} (hf : l[k]? = some f) : l.take (k + 1) = l.take k ++ [f] := by
  rw [List.take_add_one, hf]; rfl
theorem putL_snoc (l : List (Int × Int)) (f : Int × Int) : Go.Proofs.Ytcfgagpjdhhddaa.putL (l ++ [f]) = Go.Proofs.Ytcfgagpjdhhddaa.putL l ++ digs f.1 (wideF f.2).toNat := by
  simp [Go.Proofs.Ytcfgagpjdhhddaa.putL]

theorem put_call {l : List (Int × Int)} {v : Value} {h : Hp} {K : Value → Hp → Prop} (hv : Sl h 2 l.length (fldCells l) v) (hl : l.length ≤ 1000000) (hr : ∀ f ∈ l, 0 ≤ f.1 ∧ f.1 ≤ 18446744073709551615)
    (hK : K (.string (txt (Go.Proofs.Ytcfgagpjdhhddaa.putL l))) h) : ACall prog 31 [v] h K := by
  refine acallF_of tb0 func31 rfl rfl mixed (by kernel_rfl) fun hwf => ?_
  have hlen := hv.slice
  have hvb := sblk_lt (hwf.args v (by simp))
  obtain ⟨va, vc, rfl⟩ := hlen
  simp -dsimp (disch := omega)
  refine awp_loop (fun t h' => h.next ≤ h'.next ∧ (∀ i, i < h.next → h'.blks i = h.blks i) ∧ ∃ k : Nat, t 7 = .slice va l.length vc ∧ t 8 = .int .i64 l.length ∧ t 9 = .int .i64 k ∧ k ≤ l.length ∧
    Row h.next h' 1 (Go.Proofs.Ytcfgagpjdhhddaa.putL (l.take k)).length ((Go.Proofs.Ytcfgagpjdhhddaa.putL (l.take k)).map byteV) (t 3)) (fun t _ => l.length - ivN (t 9)) ?_ ?_
  · simp -dsimp
    exact ⟨0, rfl, Nat.zero_le _, Row.nil _ _ _⟩
  · rintro t h' ⟨hn, hs, k, h7, h8, h9, hk, hrow⟩
    refine vcF_sound mixed (tb := tb0) _ (by kernel_rfl) ?_
    simp -dsimp (disch := omega) [h7, h8, h9]
    refine CondF_dec (fun hc => ?_) (fun hc => ?_)
    · have hkl : k < l.length := by omega
      obtain ⟨f, hf⟩ : ∃ f, l[k]? = some f := ⟨l[k], by simp [hkl]⟩
      have hfr := hr f (List.mem_of_getElem? hf)
      obtain ⟨_, ⟨_, c, e, h0⟩ | ⟨a, c, b, e, hb, hbs, hbc⟩⟩ := hv
      · omega
      cases e
      have hab := hvb _ rfl
      obtain ⟨c1, c2⟩ := fldCells_at l k f hf
      have hx : b.cells.extract (a.off + k * 2) (a.off + k * 2 + 2) = #[.int .u64 f.1, .int .i64 f.2] := by
        have e1 := hbc (k * 2) (by omega)
        have e2 := hbc (k * 2 + 1) (by omega)
        rw [Nat.mul_comm k 2] at e1 e2
        rw [Nat.mul_comm k 2]
        exact extract2 (e1.trans c1) (e2.trans c2)
      have hb' : h'.blks a.block = some b := by rw [hs _ hab]; exact hb
      have hw := wideF_range f.2
      have hsz : a.off + k * 2 + 2 ≤ b.cells.size := by omega
      simp -dsimp (disch := omega) [h7, h8, h9, hb', hx, hsz]
      refine wide_call ?_
      simp -dsimp (disch := omega) [h7, h8, h9]
      refine awp_loop (fun t h2 => h'.next < h2.next ∧ (∀ i, i < h.next → h2.blks i = h.blks i) ∧ h2.blks h'.next = some ⟨#[.int .u64 f.1, .int .i64 f.2], 1, true⟩ ∧ sblk (t 3) ≠ some h'.next ∧ ∃ i : Nat, t 7 = .slice (some a) l.length vc ∧ t 8 = .int .i64 l.length ∧ t 9 = .int .i64 k ∧ t 5 = .pointer (some ⟨h'.next, 0, none⟩) ∧ t 15 = .int .i64 (wideF f.2) ∧ t 16 = .int .i64 i ∧ i ≤ (wideF f.2).toNat ∧
        Row h.next h2 1 (Go.Proofs.Ytcfgagpjdhhddaa.putL (l.take k) ++ digs f.1 i).length ((Go.Proofs.Ytcfgagpjdhhddaa.putL (l.take k) ++ digs f.1 i).map byteV) (t 3)) (fun t _ => 8 - ivN (t 16)) ?_ ?_
      · simp -dsimp
        exact ⟨fun i hi => by rw [if_neg (by omega)]; exact hs i hi, fun e => by have := (hrow.blk _ e).2; omega, h7, h8, h9, 0, rfl, Nat.zero_le _, by simpa [digs_zero] using hrow.alloc _⟩
      · rintro t2 h2 ⟨hn2, hs2, hf2, hd2, i, g7, g8, g9, g5, g15, g16, hi, hrow2⟩
        refine vcF_sound mixed (tb := tb0) _ (by kernel_rfl) ?_
        simp -dsimp (disch := omega) [g7, g8, g9, g5, g15, g16]
        refine CondF_dec (fun hc2 => ?_) (fun hc2 => ?_)
        · have e1 : IntKind.u8.wrap (f.1.fdiv (2 ^ (min (8 * (i : Int)).toNat IntKind.u64.bits))) = f.1 / 256 ^ i % 256 := shr_dig f.1 i hfr.1 (by omega)
          simp -dsimp (disch := omega) [g7, g8, g9, g5, g15, g16, hf2, e1]
          have r1 : (Go.Proofs.Ytcfgagpjdhhddaa.putL (l.take k) ++ digs f.1 i).length ≤ 8000008 := by
            have := putL_length (l.take k)
            have := List.length_take_le k l
            rw [List.length_append, digs_length]; omega
          refine app_row (hrow2.alloc _) (by simp; omega) (src_slice _ _ _ _ _ #[.int .u8 (f.1 / 256 ^ i % 256)] (by simp)) (by omega) (by simp) (by unfold ROOM; omega) ?_
          intro v' h3 hr3 hn3 hb3 hs3
          simp at hn3 hb3 hs3
          simp -dsimp (disch := omega) [g7, g8, g9, g5, g15, g16]
          have hs4 : ∀ j, j < h2.next → sblk (t2 3) ≠ some j → h3.blks j = h2.blks j := fun j hj hd => by
            rw [hs3 j (by omega) hd, if_neg (by omega)]
          refine ⟨⟨by omega, fun j hj => ?_, ?_, ?_, i + 1, by simp, by omega, ?_⟩, ?_⟩
          · rw [hs4 j (by omega) fun e => by have := (hrow2.blk _ e).1; omega]; exact hs2 j hj
          · rw [hs4 _ hn2 hd2]; exact hf2
          · rw [hb3]; simp; omega
          · rw [digs_succ]
            simpa [byteV_dig, Nat.add_assoc] using hr3
          · simp [ivN]; omega
        · have : i = (wideF f.2).toNat := by omega
          subst this
          simp -dsimp (disch := omega) [g7, g8, g9, g5, g15, g16]
          refine ⟨⟨by omega, hs2, k + 1, by simp, by omega, ?_⟩, ?_⟩
          · rw [take_snoc hf, putL_snoc]; exact hrow2
          · simp [h9, ivN]; omega
    · have : k = l.length := by omega
      subst this
      rw [List.take_length] at hrow
      simp -dsimp (disch := omega) [h7, h8, h9]
      refine conv_row hrow ?_
      simp -dsimp (disch := omega) [h7, h8, h9]
      exact RetF.same hwf (by simp) (Nat.zero_le _) hs hK

end Go.Proofs.Ytcfgagpjdhhddaa
