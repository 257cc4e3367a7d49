/-
  The document's Parse.
-/
import Derived.Test.YtcfgagpjdhhddaaD6
set_option linter.unusedSimpArgs false
set_option linter.unusedVariables false
set_option linter.unusedSectionVars false
namespace Go.Proofs.Ytcfgagpjdhhddaa
open Go Go.Mini Go.Proofs.Try

def tb30 : Nat → Marks := fun k => if k = 5 then ⟨[1, 5], fun _ => True⟩ else ⟨[], fun _ => True⟩
@[simp] theorem tb30_l5 : (tb30 5).l = [1, 5] := rfl
@[simp] theorem tb30_l0 : (tb30 0).l = [] := rfl
@[simp] theorem tb30_l1 : (tb30 1).l = [] := rfl
@[simp] theorem tb30_l3 : (tb30 3).l = [] := rfl
@[simp] theorem tb30_R (k x : Nat) : (tb30 k).R x := by unfold tb30; split <;> trivial

theorem refWhy_call {e : Ev} {guests : Int} {l : List Ev} {v : Value} {h : Hp} {K : Value → Hp → Prop} (he : e.ok) (hn : l.length ≤ 2000000) (hok : ∀ e ∈ l, e.ok) (hv : Sl h 4 l.length (evsC l) v) (hK : K (.int .u8 (whyE guests l e)) h) : ACall prog 30 [.agg (evA e), .int .i64 guests, v] h K := by
  have hm : ∀ {h : Hp} {K : Value → Hp → Prop}, K (.bool (mayE e)) h → ACall prog 39 [.agg #[.int .u32 e.t, .int .u8 e.g, .int .u8 e.k, .int .u32 e.v]] h K := fun hK => refMay_call he hK
  obtain ⟨o1, o2, o3, o4⟩ := he
  unfold evA
  refine acallF_of tb30 func30 rfl rfl mixed (by kernel_rfl) fun hwf => ?_
  have hvb := sblk_lt (hwf.args v (by simp))
  obtain ⟨va, vc, rfl⟩ := hv.slice
  have hv' : ∀ b, Sl (h.alloc b) 4 l.length (evsC l) (.slice va l.length vc) := fun b => hv.mono fun c hc => blks_alloc_ne _ _ _ (Nat.ne_of_lt (hvb c hc))
  have hgl := great_le l e.g hok
  simp -dsimp (disch := omega)
  refine hm ?_
  unfold whyE at hK
  by_cases w1 : mayE e = false
  · rw [if_pos w1] at hK
    rw [w1]
    simp -dsimp (disch := omega)
    exact RetF.same hwf (by simp) (Nat.zero_le _) (fun i hi => by simp (disch := omega)) hK
  · rw [if_neg w1] at hK
    have w1' : mayE e = true := by simpa using w1
    rw [w1']
    by_cases w2 : guests ≤ e.g
    · rw [if_pos w2] at hK
      simp -dsimp (disch := omega) [w2]
      exact RetF.same hwf (by simp) (Nat.zero_le _) (fun i hi => by simp (disch := omega)) hK
    · rw [if_neg w2] at hK
      simp -dsimp (disch := omega) [w2]
      refine greatest_call hn hok (hv' _) ?_
      by_cases w3 : e.t < great l e.g
      · rw [if_pos w3] at hK
        have w3' : ((e.t : Nat) : Int) < great l e.g := by omega
        simp -dsimp (disch := omega) [w3, w3']
        exact RetF.same hwf (by simp) (Nat.zero_le _) (fun i hi => by simp (disch := omega)) hK
      · rw [if_neg w3] at hK
        have w3' : ¬ ((e.t : Nat) : Int) < great l e.g := by omega
        simp -dsimp (disch := omega) [w3, w3']
        exact RetF.same hwf (by simp) (Nat.zero_le _) (fun i hi => by simp (disch := omega)) hK

theorem recA_cut (L : List UInt8) (o : Nat) : recA ((L.drop o).take 10) 0 = recA L o := by
  have hb : ∀ j, j < 10 → byteAt ((L.drop o).take 10) (0 + j) = byteAt L (o + j) := fun j hj => by
    unfold byteAt
    rw [Nat.zero_add, List.getElem?_take, if_pos hj, List.getElem?_drop]
  unfold recA
  congr 1
  · rw [List.drop_zero, List.take_take]; rfl
  · exact hb 4 (by omega)
  · exact hb 5 (by omega)
  · rw [List.drop_take, List.take_take, List.drop_drop]; rfl

theorem refOne_call {L : List UInt8} {h : Hp} {K : Value → Hp → Prop} (hl : L.length = 10) (hK : K (.agg (evA (recA L 0))) h) : ACall prog 29 [.string (txt L)] h K := by
  refine acallF_of tb0 func29 rfl rfl mixed (by kernel_rfl) fun hwf => ?_
  have e1 : (txt L).extract 0 4 = txt (L.take 4) := ext_txt L 0 4
  have e2 : (txt L).extract 6 10 = txt ((L.drop 6).take 4) := ext_txt L 6 10
  have m1 : num (L.take 4) < 4294967296 := num4_lt L 0
  have m4 : num ((L.drop 6).take 4) < 4294967296 := num4_lt L 6
  have b1 : bAt (txt L) 4 = (byteAt L 4 : Nat) := rfl
  have b2 : bAt (txt L) 5 = (byteAt L 5 : Nat) := rfl
  have he : evA (recA L 0) = #[.int .u32 (num (L.take 4)), .int .u8 (byteAt L 4), .int .u8 (byteAt L 5), .int .u32 (num ((L.drop 6).take 4))] := rfl
  rw [he] at hK
  have c1 : IntKind.u32.wrap ((num (L.take 4) : Nat) : Int) = (num (L.take 4) : Nat) := by rw [wrap32]; omega
  have c4 : IntKind.u32.wrap ((num ((L.drop 6).take 4) : Nat) : Int) = (num ((L.drop 6).take 4) : Nat) := by rw [wrap32]; omega
  simp -dsimp (disch := first | omega | (simp; omega)) [e1]
  refine refNumber_call (by simp [txt_size]; omega) ?_
  rw [numTo_num]
  simp -dsimp (disch := first | omega | (simp; omega)) [e2, c1, b1, b2]
  refine refNumber_call (by simp [txt_size]; omega) ?_
  rw [numTo_num]
  simp -dsimp (disch := first | omega | (simp; omega)) [c4]
  exact RetF.same hwf (by simp) (Nat.zero_le _) (fun i hi => by simp (disch := omega)) hK

theorem refParse_call {guests : Int} {L : List UInt8} {h : Hp} {K : Value → Hp → Prop} (hl : L.length ≤ 2000000)
    (hK : ∀ h' vk vd, Ext h h' → Lists h.next h' (parse guests L).1 (parse guests L).2 vk vd → K (.tuple #[vk, vd]) h') : ACall prog 12 [.string (txt L), .int .i64 guests] h K := by
  refine acallF_of tb0 func12 rfl rfl mixed (by kernel_rfl) fun hwf => ?_
  simp -dsimp (disch := omega)
  refine awp_loop (fun t h' => Ext h h' ∧ ∃ n : Nat, 10 * n ≤ L.length ∧ Lists h.next h' (pst guests (recs L) n).1 (pst guests (recs L) n).2 (t 6) (t 7) ∧ t 0 = .string (txt L) ∧ t 1 = .int .i64 guests ∧ t 8 = .int .i64 n) (fun t _ => L.length - ivN (t 8)) ?_ ?_
  · simp -dsimp (disch := omega)
    exact ⟨Ext.refl h, 0, by omega, ⟨Row.nil _ _ _, Row.nil _ _ _, fun b hb => by simp [sblk] at hb⟩, rfl⟩
  · rintro t h' ⟨he, n, hn, hli, g0, g1, g8⟩
    refine vcF_sound mixed (tb := tb0) _ (by kernel_rfl) ?_
    have hsz : (txt L).size = L.length := rfl
    have hok : (recA L (10 * n)).ok := recA_ok L _
    have hpok := pst_ok (guests := guests) (R := recs L) (fun i => recA_ok L _) n
    have hp1 : pst guests (recs L) (n + 1) = if whyE guests (pst guests (recs L) n).1 (recA L (10 * n)) = 0 then ((pst guests (recs L) n).1 ++ [recA L (10 * n)], (pst guests (recs L) n).2) else ((pst guests (recs L) n).1, (pst guests (recs L) n).2 ++ [(n, whyE guests (pst guests (recs L) n).1 (recA L (10 * n)))]) := rfl
    have hpl := pst_len guests (recs L) n
    have hn0 := he.le
    simp -dsimp (disch := omega) [g0, g1, g8]
    refine CondF_dec (fun hcc => ?_) (fun hcc => ?_)
    · by_cases hten : 10 * n + 10 ≤ L.length
      · have hx : (txt L).extract (10 * n) (10 * n + 10) = txt ((L.drop (10 * n)).take 10) := by rw [ext_txt]; congr 3; omega
        have hcut := recA_cut L (10 * n)
        have hlen : ((L.drop (10 * n)).take 10).length = 10 := by simp; omega
        have z1 : ¬ (L.length : Int) < 10 * n + 10 := by omega
        have z2 : ((10 : Int) * n).toNat = 10 * n := by omega
        have z3 : ((10 : Int) * n + 10).toNat = 10 * n + 10 := by omega
        simp -dsimp (disch := first | omega | (simp; omega)) [g0, g1, g8, z1, z2, z3, hx]
        refine refOne_call hlen ?_
        rw [hcut]
        generalize recA L (10 * n) = E at *
        generalize pst guests (recs L) n = S at *
        have hwhy : ∀ {h : Hp} {K : Value → Hp → Prop} {v : Value}, Sl h 4 S.1.length (evsC S.1) v → K (.int .u8 (whyE guests S.1 E)) h → ACall prog 30 [.agg #[.int .u32 E.t, .int .u8 E.g, .int .u8 E.k, .int .u32 E.v], .int .i64 guests, v] h K := fun hv hK => refWhy_call hok (by omega) hpok hv hK
        unfold evA
        simp -dsimp (disch := omega) [g0, g1, g8]
        refine hwhy (row_sl (hli.k.alloc _)) ?_
        have hwl := whyE_le guests S.1 E
        generalize hW : whyE guests S.1 E = W at *
        by_cases hw : W = 0
        · have hw' : ((W : Nat) : Int) = 0 := by omega
          rw [if_pos hw] at hp1
          simp -dsimp (disch := omega) [g0, g1, g8, hw, hw']
          refine app_row ((hli.k.alloc _).alloc _) (by simp; omega) (src_slice _ _ _ _ _ (evA E) (by simp [evA])) (by omega) (by simp [evA]) (by unfold ROOM; omega) ?_
          intro v' h3 r3 n3 b3 s3
          simp at n3 b3
          have hs4 : ∀ j, j < h'.next → sblk (t 6) ≠ some j → h3.blks j = h'.blks j := fun j hj hd => by
            rw [s3 j (by simp; omega) hd]; simp (disch := omega)
          have hnk : ∀ i, i < h.next → sblk (t 6) ≠ some i := fun i hi e => by have := (hli.k.blk i e).1; omega
          simp -dsimp (disch := omega) [g0, g1, g8]
          refine ⟨⟨⟨by omega, fun i hi => by rw [hs4 i (by omega) (hnk i hi)]; exact he.same i hi⟩, n + 1, by omega, ?_, by simp⟩, by simp [ivN]; omega⟩
          rw [hp1]
          exact hli.keep (e := E) (by simpa [evA, evC] using r3) b3 (by omega) hs4 (by omega)
        · have hw' : ¬ ((W : Nat) : Int) = 0 := by omega
          rw [if_neg hw] at hp1
          simp -dsimp (disch := omega) [g0, g1, g8, hw, hw']
          refine app_row ((hli.d.alloc _).alloc _) (by simp; omega) (src_slice _ _ _ _ _ #[.int .i64 n, .int .u8 W] (by simp)) (by omega) (by simp) (by unfold ROOM; omega) ?_
          intro v' h3 r3 n3 b3 s3
          simp at n3 b3
          have hs4 : ∀ j, j < h'.next → sblk (t 7) ≠ some j → h3.blks j = h'.blks j := fun j hj hd => by
            rw [s3 j (by simp; omega) hd]; simp (disch := omega)
          have hnd : ∀ i, i < h.next → sblk (t 7) ≠ some i := fun i hi e => by have := (hli.d.blk i e).1; omega
          simp -dsimp (disch := omega) [g0, g1, g8]
          refine ⟨⟨⟨by omega, fun i hi => by rw [hs4 i (by omega) (hnd i hi)]; exact he.same i hi⟩, n + 1, by omega, ?_, by simp⟩, by simp [ivN]; omega⟩
          rw [hp1]
          exact hli.drop (W := W) r3 b3 (by omega) hs4 (by omega)
      · have hn10 : L.length / 10 = n := by omega
        have hmod : L.length % 10 ≠ 0 := by omega
        have hpe : parse guests L = ((pst guests (recs L) n).1, (pst guests (recs L) n).2 ++ [(n, 1)]) := by unfold parse; rw [if_neg hmod, hn10]
        rw [hpe] at hK
        generalize pst guests (recs L) n = S at *
        have z1 : (L.length : Int) < 10 * n + 10 := by omega
        simp -dsimp (disch := omega) [g0, g1, g8, z1]
        refine app_row (hli.d.alloc _) (by simp; omega) (src_slice _ _ _ _ _ #[.int .i64 n, .int .u8 1] (by simp)) (by omega) (by simp) (by unfold ROOM; omega) ?_
        intro v' h3 r3 n3 b3 s3
        simp at n3 b3
        have hs4 : ∀ j, j < h'.next → sblk (t 7) ≠ some j → h3.blks j = h'.blks j := fun j hj hd => by
          rw [s3 j (by simp; omega) hd]; simp (disch := omega)
        have hnd : ∀ i, i < h.next → sblk (t 7) ≠ some i := fun i hi e => by have := (hli.d.blk i e).1; omega
        simp -dsimp (disch := omega) [g0, g1, g8]
        exact RetF.all (by simp) (hK _ _ _ ⟨by omega, fun i hi => by rw [hs4 i (by omega) (hnd i hi)]; exact he.same i hi⟩ (hli.drop (W := 1) r3 b3 (by omega) hs4 (by omega)))
    · have hn10 : L.length / 10 = n := by omega
      have hmod : L.length % 10 = 0 := by omega
      have hpe : parse guests L = pst guests (recs L) n := by unfold parse; rw [if_pos hmod, hn10]
      rw [hpe] at hK
      simp -dsimp (disch := omega) [g0, g1, g8]
      exact RetF.all (by simp) (hK _ _ _ he hli)

end Go.Proofs.Ytcfgagpjdhhddaa
