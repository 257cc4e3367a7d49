/-
  A record that is dropped makes no difference to others: the law's body.
-/
import Derived.Test.YtcfgagpjdhhddaaS3
import Derived.Test.YtcfgagpjdhhddaaD9
set_option linter.unusedSimpArgs false
set_option linter.unusedVariables false
set_option linter.unusedSectionVars false
namespace Go.Proofs.Ytcfgagpjdhhddaa
open Go Go.Mini Go.Proofs.Try

theorem sl_dr2 {h : Hp} {l : List (Nat × Nat)} {v : Value} {k : Nat} {d : Nat × Nat} (hv : Sl h 2 l.length (drC l) v) (hk : l[k]? = some d) :
    ∃ a c b, v = .slice (some a) l.length c ∧ h.blks a.block = some b ∧ a.off + k * 2 + 2 ≤ b.cells.size ∧ b.cells.extract (a.off + k * 2) (a.off + k * 2 + 2) = #[.int .i64 d.1, .int .u8 d.2] ∧ b.cells[a.off + k * 2]? = some (.int .i64 d.1) := by
  have hlt : k < l.length := (List.getElem?_eq_some_iff.1 hk).1
  obtain ⟨h0, ⟨_, _, _, h1⟩ | ⟨a, c, b, rfl, h2, h3, h4⟩⟩ := hv
  · omega
  · obtain ⟨c1, c2⟩ := drC_at l k d hk
    have e1 := (h4 (k * 2) (by omega)).trans c1
    exact ⟨a, c, b, rfl, h2, by omega, extract2 e1 ((by have := h4 (k * 2 + 1) (by omega); rw [← Nat.add_assoc] at this; exact this.trans c2)), e1⟩
theorem txt_add (a b : List UInt8) : txt a ++ txt b = txt (a ++ b) := by
  apply ByteArray.ext
  apply Array.ext'
  simp [txt_data_]
/-- The first elements of a row. -/
theorem row_pre {m n k : Nat} {h : Hp} {cs : List Value} {v : Value} (hr : Row m h 4 n cs v) (hk : k ≤ n) :
    ∃ a c, aslice prog 23 v none (some (.int .i64 k)) none = some (.slice a k c) ∧ Sl h 4 k (cs.take (k * 4)) (.slice a k c) := by
  obtain ⟨h0, ⟨rfl, rfl⟩ | ⟨b, _, _, rfl, hb⟩⟩ := hr
  · have : k = 0 := by omega
    subst this
    exact ⟨none, 0, by kernel_rfl, by simp, .inl ⟨_, _, rfl, rfl⟩⟩
  · refine ⟨some ⟨b, 0, none⟩, 2 * n + 1, ?_, by rw [List.length_take]; omega, .inr ⟨_, _, _, rfl, hb, by simp; omega, ?_⟩⟩
    · rw [aslice_slice, ixInfo_23, sliceR_some]
      unfold asliceRow
      simp only
      rw [bndD_some, bnd_int _ _ _ (by omega)]
      simp only [bndD_none]
      rw [if_pos (by omega), if_neg (by omega)]
      simp
      omega
    · intro j hj
      simp only [Nat.zero_add, List.getElem?_toArray]
      rw [List.getElem?_take_of_lt hj]

theorem eventApart_call {S T : ByteArray} {guests : Int} {h : Hp} {K : Value → Hp → Prop} (hK : ∀ h', Ext h h' → K (.bool true) h') : ACall prog 5 [.string S, .string T, .int .i64 guests] h K := by
  refine acallF_of tb0 func5 rfl rfl mixed (by kernel_rfl) fun hwf => ?_
  by_cases hc1 : (600 : Int) < S.size
  · simp -dsimp (disch := omega) [hc1]
    refine awake_call ?_
    simp -dsimp (disch := omega)
    exact RetF.all (by simp) (hK _ (Ext.refl h))
  by_cases hc2 : (600 : Int) < T.size
  · simp -dsimp (disch := omega) [hc1, hc2]
    refine awake_call ?_
    simp -dsimp (disch := omega)
    exact RetF.all (by simp) (hK _ (Ext.refl h))
  have hS : S = txt S.data.toList := rfl
  have hSl : S.size = S.data.toList.length := rfl
  have hT : T = txt T.data.toList := rfl
  have hTl : T.size = T.data.toList.length := rfl
  rw [hSl] at hc1
  rw [hTl] at hc2
  rw [hS, hT]
  generalize S.data.toList = L0 at *
  generalize T.data.toList = L1 at *
  have hsz : (txt L0).size = L0.length := rfl
  have hsz1 : (txt L1).size = L1.length := rfl
  simp -dsimp (disch := omega) [hc1, hc2]
  obtain ⟨m, hm⟩ : ∃ m, m = L0.length / 10 := ⟨_, rfl⟩
  have hcut : (txt L0).extract 0 ((L0.length : Int) / 10 * 10).toNat = txt (L0.take (10 * m)) := by
    rw [ext_txt]
    congr 1
    rw [List.drop_zero]
    congr 1
    omega
  have hL : (L0.take (10 * m)).length = 10 * m := by rw [List.length_take]; omega
  have hm6 : m ≤ 60 := by omega
  rw [hcut]
  clear hcut hS hSl hT hTl hsz
  generalize L0.take (10 * m) = L at *
  clear hm hc1
  have hsz : (txt L).size = L.length := rfl
  have hpl := parse_len guests L
  refine parse_call (by omega) fun h1 vk vd e1 l1 => ?_
  simp -dsimp (disch := omega)
  have s1 := row_sl l1.d
  have k1 := row_sl l1.k
  obtain ⟨ad, cd, rfl⟩ := s1.slice
  obtain ⟨ak, ck, rfl⟩ := k1.slice
  have bd1 : ∀ b, sblk (.slice ad (parse guests L).2.length cd) = some b → b < h1.next := fun b hb => (l1.d.blk b hb).2
  have bk1 : ∀ b, sblk (.slice ak (parse guests L).1.length ck) = some b → b < h1.next := fun b hb => (l1.k.blk b hb).2
  have hdi : ∀ d ∈ (parse guests L).2, d.1 < m ∧ (parse guests (L.take (10 * d.1) ++ L.drop (10 * d.1 + 10))).1 = (parse guests L).1 := fun d hd => parse_less hL hd
  obtain ⟨⟨r1, hr1⟩, ⟨r2, hr2⟩⟩ := parse_more (guests := guests) (T := L1) hL
  refine awp_loop (fun t h' => Ext h1 h' ∧ ∃ k : Nat, k ≤ (parse guests L).2.length ∧ t 0 = .string (txt L) ∧ t 1 = .string (txt L1) ∧ t 2 = .int .i64 guests ∧ t 7 = .slice ak (parse guests L).1.length ck ∧ t 8 = .slice ad (parse guests L).2.length cd ∧ t 9 = .int .i64 k) (fun t _ => (parse guests L).2.length - ivN (t 9)) ?_ ?_
  · simp -dsimp (disch := omega)
    exact ⟨Ext.refl _, 0, by omega, rfl⟩
  · rintro t h' ⟨he, k, hk, g0, g1, g2, g7, g8, g9⟩
    refine vcF_sound mixed (tb := tb0) _ (by kernel_rfl) ?_
    simp -dsimp (disch := omega) [g0, g1, g2, g7, g8, g9]
    refine CondF_dec (fun hcc => ?_) (fun hcc => ?_)
    · obtain ⟨⟨k0, w0⟩, hx⟩ : ∃ x, (parse guests L).2[k]? = some x := ⟨(parse guests L).2[k]'(by omega), List.getElem?_eq_getElem _⟩
      obtain ⟨a1, c1, b1, q1, f1, z1, x1, y1⟩ := sl_dr2 s1 hx
      cases q1
      obtain ⟨d1, d2⟩ := hdi _ (List.mem_of_getElem? hx)
      simp only at d1 d2 z1 x1 y1
      have hf : h'.blks a1.block = some b1 := by rw [he.same _ (bd1 _ rfl)]; exact f1
      have d3 : (k0 : Int) < m := by omega
      have d4 : ¬ (L.length : Int) / 10 ≤ k0 := by omega
      have d5 : ¬ (k0 : Int) < 0 := by omega
      have hx1 : (txt L).extract 0 (10 * (k0 : Int)).toNat = txt (L.take (10 * k0)) := by
        rw [ext_txt, List.drop_zero]; congr 2
      have hx2 : (txt L).extract (10 * (k0 : Int) + 10).toNat L.length = txt (L.drop (10 * k0 + 10)) := by
        rw [ext_txt, List.take_of_length_le (by rw [List.length_drop]; omega)]; congr 2
      have hs1 : (txt (L.take (10 * k0))).size = 10 * k0 := by rw [txt_size, List.length_take]; omega
      have hs2 : (txt (L.drop (10 * k0 + 10))).size = L.length - (10 * k0 + 10) := by rw [txt_size, List.length_drop]
      simp -dsimp (disch := omega) [g0, g1, g2, g7, g8, g9, hf, z1, x1, y1, d4, d5, hx1, hx2, txt_add, -getElem?_pos]
      refine parse_call (by rw [List.length_append, List.length_take, List.length_drop]; omega) fun h2 vk2 vd2 e2 l2 => ?_
      have k2 := l2.k
      rw [d2] at k2
      simp -dsimp (disch := omega) [g0, g1, g2, g7, g8, g9]
      have hk1 : Sl h2 4 (parse guests L).1.length (evsC (parse guests L).1) (.slice ak (parse guests L).1.length ck) := k1.mono fun b hb => by
        have := bk1 b hb
        have := he.le
        rw [e2.same b (by omega), he.same b (by omega)]
      refine same_call (by omega) (row_sl k2) hk1 ?_
      rw [decide_eq_true rfl]
      simp -dsimp (disch := omega) [g0, g1, g2, g7, g8, g9]
      exact ⟨⟨he.trans e2, k + 1, by omega, by simp⟩, by simp [ivN]; omega⟩
    · simp -dsimp (disch := omega) [g0, g1, g2, g7, g8, g9, txt_add]
      have hla : (L ++ L1).length = L.length + L1.length := List.length_append
      have hpm := parse_len guests (L ++ L1)
      refine parse_call (by omega) fun h2 vk2 vd2 e2 l2 => ?_
      have k2 := l2.k
      have s2 := row_sl l2.d
      rw [hr1] at k2
      rw [hr2] at s2
      rw [hr1, hr2] at hpm
      obtain ⟨A, hA⟩ : ∃ A, A = (parse guests L).1 ++ r1 := ⟨_, rfl⟩
      obtain ⟨B, hB⟩ : ∃ B, B = (parse guests L).2 ++ r2 := ⟨_, rfl⟩
      rw [← hA] at k2 hpm
      rw [← hB] at s2 hpm
      have n1 : A.length = (parse guests L).1.length + r1.length := by rw [hA]; exact List.length_append
      have n2 : B.length = (parse guests L).2.length + r2.length := by rw [hB]; exact List.length_append
      have hk1 : Sl h2 4 (parse guests L).1.length (evsC (parse guests L).1) (.slice ak (parse guests L).1.length ck) := k1.mono fun b hb => by
        have := bk1 b hb
        have := he.le
        rw [e2.same b (by omega), he.same b (by omega)]
      have hd1 : Sl h2 2 (parse guests L).2.length (drC (parse guests L).2) (.slice ad (parse guests L).2.length cd) := s1.mono fun b hb => by
        have := bd1 b hb
        have := he.le
        rw [e2.same b (by omega), he.same b (by omega)]
      obtain ⟨a5, c5, hsl, hp5⟩ := row_pre k2 (k := (parse guests L).1.length) (by omega)
      have htk : (evsC A).take ((parse guests L).1.length * 4) = evsC (parse guests L).1 := by
        have : evsC ((parse guests L).1 ++ r1) = evsC (parse guests L).1 ++ evsC r1 := by simp [evsC]
        rw [hA, this]
        exact List.take_left' (evsC_length _)
      rw [htk] at hp5
      obtain ⟨ad2, cd2, rfl⟩ := s2.slice
      obtain ⟨ak2, ck2, rfl⟩ := k2.slice
      have c1 : ¬ (A.length : Int) < (parse guests L).1.length := by omega
      have c2 : ¬ (B.length : Int) < (parse guests L).2.length := by omega
      simp -dsimp (disch := omega) [g0, g1, g2, g7, g8, g9, c1, c2, hsl]
      refine same_call (by omega) hp5 hk1 ?_
      rw [decide_eq_true rfl]
      simp -dsimp (disch := omega) [g0, g1, g2, g7, g8, g9]
      refine awp_loop (fun t h' => h' = h2 ∧ ∃ k : Nat, k ≤ (parse guests L).2.length ∧ t 8 = .slice ad (parse guests L).2.length cd ∧ t 14 = .slice ad2 B.length cd2 ∧ t 15 = .int .i64 k) (fun t _ => (parse guests L).2.length - ivN (t 15)) ?_ ?_
      · simp -dsimp (disch := omega) [g8]
        exact ⟨0, by omega, rfl⟩
      · rintro t _ ⟨rfl, k, hk, g8, g14, g15⟩
        refine vcF_sound mixed (tb := tb0) _ (by kernel_rfl) ?_
        simp -dsimp (disch := omega) [g8, g14, g15]
        refine CondF_dec (fun hcc => ?_) (fun hcc => ?_)
        · obtain ⟨x, hx⟩ : ∃ x, (parse guests L).2[k]? = some x := ⟨(parse guests L).2[k]'(by omega), List.getElem?_eq_getElem _⟩
          have hxB : B[k]? = some x := by rw [hB, List.getElem?_append_left (by omega)]; exact hx
          obtain ⟨a1, c1, b1, q1, f1, z1, x1⟩ := sl_dr hd1 hx
          obtain ⟨a2, c2, b2, q2, f2, z2, x2⟩ := sl_dr s2 hxB
          cases q1
          cases q2
          simp -dsimp (disch := omega) [g8, g14, g15, f1, f2, z1, z2, x1, x2]
          exact ⟨⟨k + 1, by omega, by simp⟩, by simp [ivN]; omega⟩
        · simp -dsimp (disch := omega) [g8, g14, g15]
          refine awake_call ?_
          simp -dsimp (disch := omega)
          exact RetF.all (by simp) (hK _ (e1.trans (he.trans e2)))

end Go.Proofs.Ytcfgagpjdhhddaa
