/-
  What was put is taken back: the law's body.
-/
import Derived.Test.YtpppnibhlkpgmaaA11
namespace Go.Proofs.Ytpppnibhlkpgmaa
open Go Go.Mini Go.Proofs.Try

@[simp] theorem bcmp_undef (b : Bool) : bcmp undef b = false := _root_.id rfl
theorem Srce.off {h : Hp} {s p q r : Nat} {S : ByteArray} {at_ left : Int} {torn : Bool} {b : Blk} (hs : Srce h s p q S at_ left torn) (h1 : s ≠ r) (h2 : p ≠ r) (h3 : q ≠ r) : Srce (h.set r b) s p q S at_ left torn :=
  ⟨by rw [blks_set_ne _ _ _ _ h1]; exact hs.bs, by rw [blks_set_ne _ _ _ _ h2]; exact hs.bp, by rw [blks_set_ne _ _ _ _ h3]; exact hs.bq, hs.ls, hs.lp, hs.lq, hs.ps, hs.qs, hs.at0, hs.left0, hs.sum, hs.len⟩

theorem got_fine (l : List (Int × Int)) (k c : Nat) (f : Int × Int) (left : Int) (hf : l[k]? = some f) (hc : pos l (k + 1) ≤ c) (hl : (pos l k : Int) + left = ((Go.Proofs.Ytpppnibhlkpgmaa.putL l).take c).length) (hp : pos l (k + 1) ≤ ((Go.Proofs.Ytpppnibhlkpgmaa.putL l).take c).length) :
    got (txt ((Go.Proofs.Ytpppnibhlkpgmaa.putL l).take c)) (pos l k) left false (wideF f.2) = txt (digs f.1 (wideF f.2).toNat) := by
  have h1 := pos_succ l k f hf
  have h2 := wideF_range f.2
  unfold got
  rw [if_neg (by simp; omega), show ((pos l k : Nat) : Int).toNat = pos l k from by omega, show ((pos l k : Nat) + wideF f.2 : Int).toNat = pos l (k + 1) from by omega]
  exact piece l k c f hf hc
theorem num_fine (N w : Int) : numTo (txt (digs N (wideF w).toNat)) (txt (digs N (wideF w).toNat)).size = lowF N w := by
  rw [txt_size, digs_length, numTo_digs N _ _ (Nat.le_refl _)]; rfl

def Late (h : Hp) (y yp yq : Nat) (l : List (Int × Int)) (c k : Nat) : Prop :=
  ∃ at_ left torn, Srce h y yp yq (txt ((Go.Proofs.Ytpppnibhlkpgmaa.putL l).take c)) at_ left torn ∧ (pos l k ≤ c → torn = false ∧ at_ = pos l k) ∧ (c < pos l k → torn = true)

theorem codecBack_call {l : List (Int × Int)} {v : Value} {C : Int} {h : Hp} {K : Value → Hp → Prop} (hv : Sl h 2 l.length (fldCells l) v) (hr : ∀ f ∈ l, 0 ≤ f.1 ∧ f.1 ≤ 18446744073709551615) (hC : 0 ≤ C ∧ C ≤ 65535)
    (hK : ∀ h', Ext h h' → K (.bool true) h') : ACall prog 6 [v, .int .u16 C] h K := by
  refine acallF_of tb0 func6 rfl rfl mixed (by kernel_rfl) fun hwf => ?_
  have hlen := hv.slice
  have hvb := sblk_lt (hwf.args v (by simp))
  obtain ⟨va, vc, rfl⟩ := hlen
  by_cases hc1 : (100 : Int) < l.length
  · simp -dsimp (disch := omega) [hc1]
    refine awake_call fun h' he => ?_
    simp -dsimp (disch := omega)
    exact RetF.all (by simp) (hK _ he)
  simp -dsimp (disch := omega) [hc1]
  refine put_call hv (by omega) hr ?_
  have hL := putL_length l
  have hpl := pos_all l
  have hpk : ∀ k f, l[k]? = some f → pos l (k + 1) ≤ (Go.Proofs.Ytpppnibhlkpgmaa.putL l).length := pos_le l
  obtain ⟨c, hc, hc2⟩ : ∃ c : Nat, C % (((Go.Proofs.Ytpppnibhlkpgmaa.putL l).length : Int) + 1) = c ∧ c ≤ (Go.Proofs.Ytpppnibhlkpgmaa.putL l).length := ⟨(C % (((Go.Proofs.Ytpppnibhlkpgmaa.putL l).length : Int) + 1)).toNat, by have := Int.emod_nonneg C (show ((Go.Proofs.Ytpppnibhlkpgmaa.putL l).length : Int) + 1 ≠ 0 by omega); omega, by have := Int.emod_lt_of_pos C (show 0 < ((Go.Proofs.Ytpppnibhlkpgmaa.putL l).length : Int) + 1 by omega); omega⟩
  have hex : (txt (Go.Proofs.Ytpppnibhlkpgmaa.putL l)).extract 0 c = txt ((Go.Proofs.Ytpppnibhlkpgmaa.putL l).take c) := by
    apply ByteArray.ext
    apply Array.ext'
    simp [txt_data_]
  have hLc : ((Go.Proofs.Ytpppnibhlkpgmaa.putL l).take c).length = c := by rw [List.length_take]; omega
  simp -dsimp (disch := first | omega | (simp; omega)) [hc]
  refine of_call (by rw [txt_size]; omega) ?_
  intro h1 s p q hs hs1 hs2 hs3 he1
  simp -dsimp (disch := first | omega | (simp; omega)) [hc, hex]
  refine of_call (by rw [txt_size]; omega) ?_
  intro h2 y yp yq hy hy1 hy2 hy3 he2
  simp -dsimp (disch := first | omega | (simp; omega)) [hc, hex]
  have q1 := hs.ls
  have q2 := hs.lp
  have q3 := hs.lq
  have q4 := hy.ls
  have q5 := hy.lp
  have q6 := hy.lq
  refine awp_loop (fun t h' => Ext h h' ∧ ∃ (k : Nat), Srce h' s p q (txt (Go.Proofs.Ytpppnibhlkpgmaa.putL l)) (pos l k) ((Go.Proofs.Ytpppnibhlkpgmaa.putL l).length - pos l k) false ∧ Late h' y yp yq l c k ∧ t 0 = .slice va l.length vc ∧ t 5 = .string (txt (Go.Proofs.Ytpppnibhlkpgmaa.putL l)) ∧ t 6 = .int .i64 c ∧ t 7 = .pointer (some ⟨s, 0, none⟩) ∧ t 8 = .pointer (some ⟨y, 0, none⟩) ∧ t 9 = .int .i64 (pos l k) ∧ t 10 = .int .i64 k ∧ k ≤ l.length) (fun t _ => l.length - ivN (t 10)) ?_ ?_
  · simp -dsimp
    refine ⟨he1.trans he2, 0, ?_, ⟨_, _, _, hy, fun _ => ⟨rfl, rfl⟩, fun hlt => ?_⟩, ?_, rfl, Nat.zero_le _⟩
    · have := hs.ext he2
      simpa [pos_zero, txt_size] using this
    · rw [pos_zero] at hlt; omega
    · simp [pos_zero]
  · rintro t h' ⟨he, k, hsr, ⟨at_, left, torn, hyr, hf1, hf2⟩, h0, h5, h6, h7, h8, h9, h10, hk⟩
    refine vcF_sound mixed (tb := tb0) _ (by kernel_rfl) ?_
    simp -dsimp (disch := omega) [h0, h5, h6, h7, h8, h9, h10]
    refine CondF_dec (fun hcc => ?_) (fun hcc => ?_)
    · have hkl : k < l.length := by omega
      obtain ⟨f, hf⟩ : ∃ f, l[k]? = some f := ⟨l[k], by simp [hkl]⟩
      have hfr := hr f (List.mem_of_getElem? hf)
      have hps := pos_succ l k f hf
      have hpl := hpk k f hf
      have hw := wideF_range f.2
      obtain ⟨_, ⟨_, c', e, h0⟩ | ⟨a, c', b, e, hb, hbs, hbc⟩⟩ := hv
      · omega
      cases e
      have hab := hvb _ rfl
      obtain ⟨c1, c2⟩ := fldCells_at l k f hf
      have hb' : h'.blks a.block = some b := by rw [he.same _ hab]; exact hb
      have e1 := hbc (2 * k) (by omega)
      have e2 := hbc (2 * k + 1) (by omega)
      rw [c1, Nat.mul_comm 2 k] at e1
      rw [c2, Nat.mul_comm 2 k, ← Nat.add_assoc] at e2
      clear hbs hbc
      simp -dsimp (disch := omega) [h0, h5, h6, h7, h8, h9, h10, hb', e1, e2]
      refine low_call hfr ?_
      simp -dsimp (disch := omega) [h0, h5, h6, h7, h8, h9, h10, hb', e1, e2]
      have hmx : (if 8 < (if f.2 < 1 then 1 else f.2) then 8 else (if f.2 < 1 then 1 else f.2)) = wideF f.2 := rfl
      have hpi : (pos l k : Int) + wideF f.2 = (pos l (k + 1) : Nat) := by omega
      have gx : numTo (got (txt (Go.Proofs.Ytpppnibhlkpgmaa.putL l)) (pos l k) ((Go.Proofs.Ytpppnibhlkpgmaa.putL l).length - pos l k) false (wideF f.2)) (got (txt (Go.Proofs.Ytpppnibhlkpgmaa.putL l)) (pos l k) ((Go.Proofs.Ytpppnibhlkpgmaa.putL l).length - pos l k) false (wideF f.2)).size = lowF f.1 f.2 := by
        have := got_fine l k (Go.Proofs.Ytpppnibhlkpgmaa.putL l).length f ((Go.Proofs.Ytpppnibhlkpgmaa.putL l).length - pos l k) hf hpl (by rw [List.take_length]; omega) (by rw [List.take_length]; omega)
        rw [List.take_length] at this
        rw [this]; exact num_fine _ _
      have na : nxtA (pos l k) ((Go.Proofs.Ytpppnibhlkpgmaa.putL l).length - pos l k) false (wideF f.2) = pos l (k + 1) := by unfold nxtA; rw [if_neg (by simp; omega)]; omega
      have nl : nxtL ((Go.Proofs.Ytpppnibhlkpgmaa.putL l).length - pos l k) false (wideF f.2) = (Go.Proofs.Ytpppnibhlkpgmaa.putL l).length - pos l (k + 1) := by unfold nxtL; rw [if_neg (by simp; omega)]; omega
      have nt : nxtT ((Go.Proofs.Ytpppnibhlkpgmaa.putL l).length - pos l k) false (wideF f.2) = false := by unfold nxtT; rw [if_neg (by simp; omega)]
      have n1 := he1.le
      have n2 := he2.le
      refine taken_call hsr fun h3 he3 => ?_
      rw [gx]
      have hsa := (hsr.after (n := wideF f.2) (by omega)).ext he3
      rw [na, nl, nt] at hsa
      have hya := (hyr.off (b := afterB p q (pos l k) ((Go.Proofs.Ytpppnibhlkpgmaa.putL l).length - pos l k) false (wideF f.2)) (r := s) (by omega) (by omega) (by omega)).ext he3
      have hea : Ext h h3 := (he.then_set _ hs1).trans he3
      have hba : h3.blks a.block = some b := by rw [hea.same _ hab]; exact hb
      simp -dsimp (disch := omega) [h0, h5, h6, h7, h8, h9, h10, hba, e1, e2, hmx, hpi]
      refine at_call hsa ?_
      simp -dsimp (disch := omega) [h0, h5, h6, h7, h8, h9, h10, hba, e1, e2, hmx, hpi]
      refine at_call hsa ?_
      simp -dsimp (disch := omega) [h0, h5, h6, h7, h8, h9, h10, hba, e1, e2, hmx, hpi]
      refine left_call hsa ?_
      have hsum : (pos l (k + 1) : Int) + ((Go.Proofs.Ytpppnibhlkpgmaa.putL l).length - pos l (k + 1)) = (Go.Proofs.Ytpppnibhlkpgmaa.putL l).length := by omega
      simp -dsimp (disch := omega) [h0, h5, h6, h7, h8, h9, h10, hba, e1, e2, hmx, hpi, hsum]
      have ysum := hya.sum
      rw [txt_size, hLc] at ysum
      refine taken_call hya fun h4 he4 => ?_
      have hsb := (hsa.off (b := afterB yp yq at_ left torn (wideF f.2)) (r := y) (by omega) (by omega) (by omega)).ext he4
      have hyb := (hya.after (n := wideF f.2) (by omega)).ext he4
      have heb : Ext h h4 := (hea.then_set _ (by have := hea.le; omega)).trans he4
      by_cases hk1 : pos l (k + 1) ≤ c
      · obtain ⟨rfl, rfl⟩ := hf1 (by omega)
        have gy : numTo (got (txt ((Go.Proofs.Ytpppnibhlkpgmaa.putL l).take c)) (pos l k) left false (wideF f.2)) (got (txt ((Go.Proofs.Ytpppnibhlkpgmaa.putL l).take c)) (pos l k) left false (wideF f.2)).size = lowF f.1 f.2 := by
          rw [got_fine l k c f left hf hk1 (by omega) (by omega)]; exact num_fine _ _
        have ma : nxtA (pos l k) left false (wideF f.2) = pos l (k + 1) := by unfold nxtA; rw [if_neg (by simp; omega)]; omega
        have mt : nxtT left false (wideF f.2) = false := by unfold nxtT; rw [if_neg (by simp; omega)]
        rw [ma, mt] at hyb
        rw [gy]
        have hle : (pos l (k + 1) : Int) ≤ c := by omega
        have hngt : ¬ (c : Int) < pos l (k + 1) := by omega
        simp -dsimp (disch := omega) [h0, h5, h6, h7, h8, h9, h10, hle, hngt, hmx, hpi]
        refine fail_call hyb ?_
        simp -dsimp (disch := omega) [h0, h5, h6, h7, h8, h9, h10, hle, hngt, hmx, hpi]
        exact ⟨⟨heb, k + 1, hsb, ⟨_, _, _, hyb, fun _ => ⟨rfl, rfl⟩, fun hlt => by omega⟩, rfl, by simp, by omega⟩, by simp [ivN]; omega⟩
      · have mt : nxtT left torn (wideF f.2) = true := by
          unfold nxtT
          rw [if_pos]
          by_cases hcl : c < pos l k
          · exact .inl (hf2 hcl)
          · obtain ⟨_, rfl⟩ := hf1 (by omega)
            right; omega
        have gy : got (txt ((Go.Proofs.Ytpppnibhlkpgmaa.putL l).take c)) at_ left torn (wideF f.2) = txt [] := by
          unfold nxtT at mt
          unfold got
          split at mt
          · rw [if_pos (by assumption)]
          · cases mt
        rw [mt] at hyb
        rw [gy]
        have hle : ¬ (pos l (k + 1) : Int) ≤ c := by omega
        have hngt : (c : Int) < pos l (k + 1) := by omega
        have hz : numTo (txt []) (txt []).size = 0 := rfl
        rw [hz]
        simp -dsimp (disch := omega) [h0, h5, h6, h7, h8, h9, h10, hle, hngt, hmx, hpi]
        refine fail_call hyb ?_
        simp -dsimp (disch := omega) [h0, h5, h6, h7, h8, h9, h10, hle, hngt, hmx, hpi]
        exact ⟨⟨heb, k + 1, hsb, ⟨_, _, _, hyb, fun _ => by omega, fun _ => rfl⟩, rfl, by simp, by omega⟩, by simp [ivN]; omega⟩
    · have : k = l.length := by omega
      subst this
      simp -dsimp (disch := omega) [h0, h5, h6, h7, h8, h9, h10]
      refine end_call hsr ?_
      simp -dsimp (disch := omega) [h0, h5, h6, h7, h8, h9, h10, hpl]
      refine awake_call fun h3 he3 => ?_
      simp -dsimp (disch := omega)
      exact RetF.all (by simp) (hK _ (he.trans he3))

end Go.Proofs.Ytpppnibhlkpgmaa
