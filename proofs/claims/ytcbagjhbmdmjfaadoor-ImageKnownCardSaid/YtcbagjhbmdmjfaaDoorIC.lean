/-
  The reader of an image: the segments. The reader of an image: what stands behind the segments. The reader of an image: the whole. Parse.
-/
import Derived.Test.YtcbagjhbmdmjfaaDoorIB
import Derived.Test.YtcbagjhbmdmjfaaDoorM22
import Derived.Test.YtcbagjhbmdmjfaaDoorM29
import Derived.Test.YtcbagjhbmdmjfaaDoorCA
set_option linter.unusedSimpArgs false
set_option linter.unusedVariables false
set_option linter.unusedSectionVars false

namespace Go.Proofs.YtcbagjhbmdmjfaaDoor
set_option maxRecDepth 100000
open Go Go.Mini Go.Proofs.Tryd

theorem sgC_append (l m : List Sg) : sgC (l ++ m) = sgC l ++ sgC m := by simp [sgC]
theorem sgC_one (g : Sg) : sgC [g] = [.int .u64 g.a, .string (txt g.b)] := rfl
def tb16 (x : Nat) (v : Value) : Nat → Marks := fun k => if k = 16 then ⟨[4, 6, 8, 13], fun j => j ≠ x ∧ sblk v ≠ some j⟩ else ⟨[], fun _ => True⟩
theorem segG_ok (S : List UInt8) (f e : Nat) (st : St) (en : Nat) : (segG S f e st en).a < 18446744073709551616 ∧ (segG S f e st en).b.length ≤ 65535 := by
  constructor
  · exact numN_lt S st 8 (by omega)
  · have h1 := got_len S (seg4 S f e st en) (segL S st)
    have h2 := numN_lt2 ((seg1 S st).got S 2) (got_len _ _ _)
    show ((seg4 S f e st en).got S (segL S st)).length ≤ 65535
    exact Nat.le_trans h1 h2
theorem rdL_next {S : List UInt8} {f e k : Nat} {st : St} {en : Nat} (h : st.flt = none) : rdL S f e (k + 1) st en = (segG S f e st en :: (rdL S f e k (seg5 S f e st en) ((segG S f e st en).a + (segG S f e st en).b.length)).1, (rdL S f e k (seg5 S f e st en) ((segG S f e st en).a + (segG S f e st en).b.length)).2) := by
  conv => lhs; unfold rdL
  rw [if_pos h]
theorem seg_fits {S : List UInt8} {f e en : Nat} {st : St} (h : st.flt = none) (h5 : (seg5 S f e st en).flt = none) : (segG S f e st en).a + (segG S f e st en).b.length ≤ e := by
  have h4 : (seg4 S f e st en).flt = none := by
    cases hh : (seg4 S f e st en).flt with
    | none => rfl
    | some z => rw [show (seg5 S f e st en).flt = some z from rd_keep hh _ _] at h5; cases h5
  have h3 : (seg3 S st).flt = none := by
    cases hh : (seg3 S st).flt with
    | none => rfl
    | some z => rw [show (seg4 S f e st en).flt = some z from note_keep hh _ _ _] at h4; cases h4
  have hs : segN f e (segA S st) (segL S st) en = 0 := by
    refine Classical.byContradiction fun hn => ?_
    rw [show (seg4 S f e st en).flt = _ from note_flt sAddr hn h3] at h4
    cases h4
  have h1 := seg_lt hs
  have h2 := got_len S (seg4 S f e st en) (segL S st)
  show segA S st + ((seg4 S f e st en).got S (segL S st)).length ≤ e
  omega
theorem Rd.keep {h h' : Hp} {r s p q : Nat} {S : List UInt8} {f e : Nat} {st : St} (R : Rd h r s p q S f e st) (hn : h.next ≤ h'.next) (hs : ∀ i b, i < h.next → h.blks i = some b → b.esz = 1 → h'.blks i = some b) : Rd h' r s p q S f e st := by
  obtain ⟨v, hv, hf⟩ := R.blk
  have Q := R.src
  refine ⟨⟨hs _ _ Q.ls Q.bs rfl, hs _ _ Q.lp Q.bp rfl, hs _ _ Q.lq Q.bq rfl, Nat.lt_of_lt_of_le Q.ls hn, Nat.lt_of_lt_of_le Q.lp hn, Nat.lt_of_lt_of_le Q.lq hn, Q.ps, Q.qs, Q.at0, Q.left0, Q.sum, Q.len⟩, ⟨v, hs _ _ R.lr hv rfl, ?_⟩, Nat.lt_of_lt_of_le R.lr hn, R.rs, R.rp, R.rq, R.le⟩
  cases ho : st.flt with
  | none => rw [ho] at hf; exact hf
  | some z =>
    rw [ho] at hf
    obtain ⟨d, rfl, hd, hl⟩ := hf
    exact ⟨d, rfl, hs _ _ hl hd rfl, Nat.lt_of_lt_of_le hl hn⟩
theorem Row.esz {m : Nat} {h : Hp} {esz n i : Nat} {cs : List Value} {v : Value} (r : Row m h esz n cs v) (hi : sblk v = some i) : ∃ b, h.blks i = some b ∧ b.esz = esz := by
  obtain ⟨_, ⟨rfl, _⟩ | ⟨b, _, _, rfl, hb⟩⟩ := r
  · simp [sblk] at hi
  · simp only [sblk, Option.some.injEq] at hi
    subst hi
    exact ⟨_, hb, rfl⟩
theorem wrap_range64 (z : Int) : 0 ≤ IntKind.u64.wrap z ∧ IntKind.u64.wrap z < 18446744073709551616 := by rw [IntKind.wrap_u64]; omega
theorem wrap_id64 {z : Int} (h0 : 0 ≤ z) (h1 : z < 18446744073709551616) : IntKind.u64.wrap z = z := by rw [IntKind.wrap_u64]; omega
theorem img_loop {Q : APost} {r s p q : Nat} {S : List UInt8} {f e N : Nat} {x0 x1 m X : Nat} {T : List Sg × St} {t : Tm} {h : Hp} {V : Value} {st : St} (he : e < 9223372036854775808) (hN : N < 256)
    (R : Rd h r s p q S f e st) (hT : T = rdL S f e N st 0) (hr : r < m) (hs : s < m) (hp : p < m) (hq : q < m) (hx1 : x1 < m) (hx1r : x1 ≠ r) (hx1s : x1 ≠ s) (hx1p : x1 ≠ p) (hx1q : x1 ≠ q) (hm : m ≤ h.next) (hb1 : h.blks x1 = some ⟨#[.int .u64 X, .slice none 0 0], 1, true⟩)
    (t0 : t 0 = .pointer (some ⟨r, 0, none⟩)) (t1 : t 1 = V) (t4 : t 4 = .pointer (some ⟨x0, 0, none⟩)) (t5 : t 5 = .pointer (some ⟨x1, 0, none⟩)) (t10 : t 10 = .int .u64 N) (t11 : t 11 = .int .u64 0) (t12 : t 12 = .int .u64 0)
    (hQ : ∀ t' h' v, Rd h' r s p q S f e T.2 → (∀ i, i < m → i ≠ r → i ≠ s → i ≠ x1 → h'.blks i = h.blks i) → h.next ≤ h'.next → Row m h' 2 T.1.length (sgC T.1) v → h'.blks x1 = some ⟨#[.int .u64 X, v], 1, true⟩ → t' 0 = .pointer (some ⟨r, 0, none⟩) → t' 1 = V → t' 4 = .pointer (some ⟨x0, 0, none⟩) → t' 5 = .pointer (some ⟨x1, 0, none⟩) → apQ Q (.exit 0) t' h' (.mk _)) :
    Awp prog f44.ntmps (.loop (loopC (blkC (sndC (fstC (sndC (sndC (sndC (sndC (sndC (sndC (sndC (sndC (sndC (bodyC f44))))))))))))))) Q t h := by
  have e0 : (loopC (blkC (sndC (fstC (sndC (sndC (sndC (sndC (sndC (sndC (sndC (sndC (sndC (bodyC f44)))))))))))))) = (loopC (blkC (sndC (fstC (sndC (sndC (sndC (sndC (sndC (sndC (sndC (sndC (sndC (bodyC f44)))))))))))))) := rfl
  conv at e0 => rhs; whnf
  rw [e0]
  clear e0
  refine awp_loop (fun t h' => ∃ k st en en' L v, k ≤ N ∧ t 12 = .int .u64 (k : Nat) ∧ t 10 = .int .u64 N ∧ t 11 = .int .u64 (en' : Nat) ∧ t 0 = .pointer (some ⟨r, 0, none⟩) ∧ t 1 = V ∧ t 4 = .pointer (some ⟨x0, 0, none⟩) ∧ t 5 = .pointer (some ⟨x1, 0, none⟩) ∧ en' < 18446744073709551616 ∧ (st.flt = none → en' = en) ∧ L.length ≤ k ∧ T = (L ++ (rdL S f e (N - k) st en).1, (rdL S f e (N - k) st en).2) ∧ Rd h' r s p q S f e st ∧ (∀ i, i < m → i ≠ r → i ≠ s → i ≠ x1 → h'.blks i = h.blks i) ∧ h.next ≤ h'.next ∧ Row m h' 2 L.length (sgC L) v ∧ h'.blks x1 = some ⟨#[.int .u64 X, v], 1, true⟩) (fun t _ => N - ivN (t 12)) ?_ ?_
  · exact ⟨0, st, 0, 0, [], _, Nat.zero_le _, t12, t10, t11, t0, t1, t4, t5, by omega, fun _ => rfl, Nat.le_refl _, by rw [hT]; rfl, R, fun _ _ _ _ _ => rfl, Nat.le_refl _, Row.nil _ _ _, hb1⟩
  · rintro t h' ⟨k, st, en, en', L, v, hk, t12, t10, t11, t0, t1, t4, t5, hen, hene, hLk, hTe, R, hsm, hnx, hrow, hb1⟩
    refine vcF_sound mixed (tb := tb16 x1 v) _ (by kernel_rfl) ?_
    obtain ⟨v3, hv3, hf3⟩ := R.blk
    have hv3' : h'.blks r = some ⟨#[.pointer (some ⟨s, 0, none⟩), .int .u64 f, .int .u64 e, v3], 1, true⟩ := hv3
    by_cases hc : k < N
    · have hc' : (k : Int) < N := by omega
      cases hfl : st.flt with
      | some z =>
        rw [hfl] at hf3
        obtain ⟨z1, z2, z3⟩ := z
        obtain ⟨d, rfl, hd, hl⟩ := hf3
        simp -dsimp (disch := omega) [t0, t10, t12, hc, hc', hv3']
        rw [rdL_flt hfl, List.append_nil] at hTe
        subst hTe
        exact hQ _ _ v R hsm hnx hrow hb1 t0 t1 t4 t5
      | none =>
        rw [hfl] at hf3
        obtain rfl : v3 = .pointer none := hf3
        obtain rfl := hene hfl
        simp -dsimp (disch := omega) [t0, t10, t11, t12, hc, hc', hv3']
        refine segmentR_call (en := en') R (by omega) fun h1 R1 F1 => ?_
        have hok := segG_ok S f e st en'
        have hfit := seg_fits (f := f) (e := e) (en := en') (S := S) hfl
        rw [show N - k = (N - (k + 1)) + 1 by omega, rdL_next hfl] at hTe
        obtain ⟨g, hg⟩ : ∃ g, g = segG S f e st en' := ⟨_, rfl⟩
        obtain ⟨st', hst'⟩ : ∃ st', st' = seg5 S f e st en' := ⟨_, rfl⟩
        rw [← hg] at hok hfit hTe ⊢
        rw [← hst'] at R1 hfit hTe
        have hn1 := F1.le
        have hb2 : h1.blks x1 = some ⟨#[.int .u64 X, v], 1, true⟩ := by rw [F1.same _ (by omega) hx1r hx1s]; exact hb1
        have hrow1 : Row m h1 2 L.length (sgC L) v := hrow.mono hn1 fun b hb => F1.same _ (hrow.blk b hb).2 (by have := (hrow.blk b hb).1; omega) (by have := (hrow.blk b hb).1; omega)
        obtain ⟨va, vc, rfl⟩ := hrow1.slice
        obtain ⟨w, hw⟩ : ∃ w, w = g.b.length := ⟨_, rfl⟩
        have hlen : (txt g.b).size = w := by rw [hw]; rfl
        simp -dsimp (disch := omega) [t0, t5, t10, t11, t12, hb2, hlen, tb16, Marks.at_R]
        refine app_rowJ ((hrow1.alloc _).alloc _) (by simp; omega) (src_slice _ _ _ _ _ #[.int .u64 g.a, .string (txt g.b)] (by simp (disch := omega))) (by omega) (by simp) (by unfold ROOM; omega) ?_
        intro v2 h2 r1 r2 r2j r3 r4
        obtain ⟨va2, vc2, rfl⟩ := r1.slice
        have r2' : h2.next = h1.next + 3 := by rw [r2]; simp
        have hvb : ∀ b, sblk (.slice va L.length vc) = some b → m ≤ b ∧ b < h1.next := hrow1.blk
        have hne : ∀ i, i < m → sblk (.slice va L.length vc) ≠ some i := fun i hi e => by have := (hvb i e).1; omega
        have hne2 : sblk (.slice va L.length vc) ≠ some h1.next := fun e => by have := (hvb _ e).2; omega
        have hgb : h2.blks h1.next = some ⟨#[.int .u64 g.a, .string (txt g.b)], 1, true⟩ := by rw [r4 _ (by simp; omega) hne2]; simp (disch := omega)
        have hb3 : h2.blks x1 = some ⟨#[.int .u64 X, .slice va L.length vc], 1, true⟩ := by rw [r4 _ (by simp; omega) (hne _ hx1)]; simp (disch := omega) [hb2]
        simp -dsimp (disch := omega) [t0, t5, t10, t11, t12, hlen, hgb, hb3, tb16, Marks.at_R]
        have hwr := wrap_range64 ((g.a : Int) + w)
        obtain ⟨W, hW⟩ := Int.eq_ofNat_of_zero_le hwr.1
        have hWe : st'.flt = none → W = g.a + w := fun hn => by
          have := hfit hn
          have := wrap_id64 (z := (g.a : Int) + w) (by omega) (by omega)
          omega
        have RR : Rd h2 r s p q S f e st' := by
          refine ((R1.ext (Ext.alloc _ ⟨#[.int .u64 g.a, .string (txt g.b)], 1, true⟩)).ext (Ext.alloc _ ⟨#[.int .u64 g.a, .string (txt g.b)], 2, true⟩)).keep (by simp; omega) fun i b hi hb h1 => ?_
          rw [r4 i hi fun e => ?_]
          · exact hb
          · obtain ⟨b', hb', he'⟩ := Row.esz ((hrow1.alloc _).alloc _) e
            rw [hb] at hb'
            cases hb'
            omega
        refine ⟨fun j _ hR => r4 j (by simp; omega) ?_, ⟨by omega, hne2⟩, ⟨k + 1, by omega, by simp, st', g.a + w, W, hW, t1, t4, by omega, hWe, L ++ [g], by simp; omega, ?_, ?_, ?_, by omega, ?_⟩, by simp [ivN]; omega⟩
        · have hR' : ¬j = x1 ∧ ¬sblk (Value.slice va L.length vc) = some j := by simpa using hR
          exact hR'.2
        · rw [hTe, List.append_assoc, hw]; rfl
        · exact RR.set hb3 (by simp) hx1r hx1s hx1p hx1q
        · intro i hi i1 i2 i3
          rw [if_neg i3, r4 i (by simp; omega) (hne i hi)]
          simp (disch := omega)
          rw [F1.same i (by omega) i1 i2]
          exact hsm i hi i1 i2 i3
        · rw [sgC_append, sgC_one, List.length_append]
          exact r1.set _ _ (by rw [r3]; simp; omega)
    · have : k = N := by omega
      subst this
      simp -dsimp (disch := omega) [t0, t10, t12]
      rw [Nat.sub_self, show rdL S f e 0 st en = ([], st) from rfl, List.append_nil] at hTe
      subst hTe
      exact hQ _ _ v R hsm hnx hrow hb1 t0 t1 t4 t5
end Go.Proofs.YtcbagjhbmdmjfaaDoor
namespace Go.Proofs.YtcbagjhbmdmjfaaDoor
set_option maxRecDepth 100000
open Go Go.Mini Go.Proofs.Tryd

theorem sumTo_txt (l : List UInt8) : sumTo (txt l) (txt l).size = sumL l := by rw [sumTo_all, txt_data]
def tb44 : Nat → Marks := fun k => if k = 16 then ⟨[4, 6, 8, 13], fun _ => True⟩ else ⟨[], fun _ => True⟩
theorem img_tail {Q : APost} {r s p q : Nat} {S : List UInt8} {f e x0 x1 X : Nat} {t : Tm} {h : Hp} {v : Value} (hv : ∃ a n c, v = .slice a n c) (R : Rd h r s p q S f e (im7 S f e))
    (h0 : x0 < h.next) (h1 : x1 < h.next) (h0r : x0 ≠ r) (h0s : x0 ≠ s) (h0p : x0 ≠ p) (h0q : x0 ≠ q) (h1r : x1 ≠ r) (h1s : x1 ≠ s) (h10 : x1 ≠ x0) (hb0 : h.blks x0 = some ⟨#[.int .u64 0, .slice none 0 0], 1, true⟩) (hb1 : h.blks x1 = some ⟨#[.int .u64 X, v], 1, true⟩)
    (t0 : t 0 = .pointer (some ⟨r, 0, none⟩)) (t1 : t 1 = .string (txt S)) (t4 : t 4 = .pointer (some ⟨x0, 0, none⟩)) (t5 : t 5 = .pointer (some ⟨x1, 0, none⟩))
    (hQ : ∀ t' h', Rd h' r s p q S f e (im10 S f e) → (∀ i, i < h.next → i ≠ r → i ≠ s → i ≠ x0 → h'.blks i = h.blks i) → h.next ≤ h'.next → t' 4 = .pointer (some ⟨x0, 0, none⟩) → h'.blks x0 = some ⟨#[.int .u64 X, v], 1, true⟩ → apQ Q .ret t' h' (.mk _)) :
    vcF prog f44.ntmps tb44 (sndC (sndC (sndC (sndC (sndC (sndC (sndC (sndC (sndC (sndC (bodyC f44))))))))))) Q t h (.mk _) := by
  have e0 : (sndC (sndC (sndC (sndC (sndC (sndC (sndC (sndC (sndC (sndC (bodyC f44))))))))))) = (sndC (sndC (sndC (sndC (sndC (sndC (sndC (sndC (sndC (sndC (bodyC f44))))))))))) := rfl
  conv at e0 => rhs; whnf
  rw [e0]
  clear e0
  obtain ⟨va, vn, vc, rfl⟩ := hv
  obtain ⟨w, hw, _⟩ := R.blk
  have hw' : h.blks r = some ⟨#[.pointer (some ⟨s, 0, none⟩), .int .u64 f, .int .u64 e, w], 1, true⟩ := hw
  have hle := R.le
  obtain ⟨st, hst⟩ : ∃ st, st = im7 S f e := ⟨_, rfl⟩
  have e8 : im8 S f e = st.rd S sSum 4 := by rw [hst]; rfl
  have e9 : im9 S f e = if numL (st.got S 4) = sumL (S.take st.a) then im8 S f e else (im8 S f e).note sSum st.a 7 := by rw [hst]; rfl
  rw [← hst] at R hle
  simp -dsimp (disch := omega) [t0, t1, t4, t5, hw']
  refine at_call R.src ?_
  simp -dsimp (disch := omega) [t0, t1, t4, t5]
  refine number_call (w := 4) R (by decide) fun h2 R2 F2 => ?_
  have R2 : Rd h2 r s p q S f e (im8 S f e) := by rw [e8]; exact R2
  have hn2 := F2.le
  have hsl : (txt S).extract 0 st.a = txt (S.take st.a) := by rw [ext_txt]; rfl
  have hsz : (txt S).size = S.length := rfl
  have hlen := R.src.len
  have b1 : 0 ≤ sumL (S.take st.a) ∧ sumL (S.take st.a) < 4294967296 := sumL_range _ 1 (by omega)
  obtain ⟨U, hU⟩ := Int.eq_ofNat_of_zero_le b1.1
  have b2 := numL_nat (st.got S 4)
  obtain ⟨N, hN⟩ : ∃ N, N = numN (st.got S 4) := ⟨_, rfl⟩
  rw [← hN] at b2
  rw [b2, hU] at e9
  rw [b2]
  simp -dsimp (disch := omega) [t0, t1, t4, t5, hsl, hsz]
  refine sum_call (by rw [txt_size, List.length_take]; rw [hsz] at hlen; omega) ?_
  rw [sumTo_txt, hU]
  simp -dsimp (disch := omega) [t0, t1, t4, t5]
  by_cases c : N = U
  · have R3 : Rd h2 r s p q S f e (im9 S f e) := by rw [e9, if_pos (by rw [c])]; exact R2
    have F3 := F2
    obtain ⟨h3, hh3⟩ : ∃ h3, h3 = h2 := ⟨_, rfl⟩
    rw [← hh3] at R3 F3 ⊢
    obtain ⟨v3, hv3, _⟩ := R3.blk
    have hv3' : h3.blks r = some ⟨#[.pointer (some ⟨s, 0, none⟩), .int .u64 f, .int .u64 e, v3], 1, true⟩ := hv3
    have c' : (N : Int) = U := by omega
    simp -dsimp (disch := omega) [t0, t1, t4, t5, c', hv3']
    refine left_call R3.src ?_
    have hb0' : h3.blks x0 = some ⟨#[.int .u64 0, .slice none 0 0], 1, true⟩ := by rw [F3.same _ h0 h0r h0s]; exact hb0
    have hb1' : h3.blks x1 = some ⟨#[.int .u64 X, .slice va vn vc], 1, true⟩ := by rw [F3.same _ h1 h1r h1s]; exact hb1
    have hn3 := F3.le
    by_cases c2 : (im9 S f e).a < S.length
    · have e10 : im10 S f e = (im9 S f e).note sEnd (im9 S f e).a 5 := by unfold im10; rw [if_pos c2]
      have c2' : 0 < (S.length : Int) - (im9 S f e).a := by omega
      simp -dsimp (disch := omega) [t0, t1, t4, t5, c2, c2', hv3']
      refine at_call R3.src ?_
      simp -dsimp (disch := omega) [t0, t1, t4, t5]
      refine note_call R3 fun h4 R4 F4 => ?_
      have R4 : Rd h4 r s p q S f e (im10 S f e) := by rw [e10]; exact R4
      have F04 := F3.trans F4
      have hb0'' : h4.blks x0 = some ⟨#[.int .u64 0, .slice none 0 0], 1, true⟩ := by rw [F04.same _ h0 h0r h0s]; exact hb0
      have hb1'' : h4.blks x1 = some ⟨#[.int .u64 X, .slice va vn vc], 1, true⟩ := by rw [F04.same _ h1 h1r h1s]; exact hb1
      have hn4 := F04.le
      simp -dsimp (disch := omega) [t0, t1, t4, t5, hb0'', hb1'', h10]
      exact hQ _ _ (R4.set hb0'' (by simp) h0r h0s h0p h0q) (fun i a b c d => by rw [blks_set_ne _ _ _ _ d]; exact F04.same i a b c) hn4 t4 (blks_set_eq _ _ _)
    · have e10 : im10 S f e = im9 S f e := by unfold im10; rw [if_neg c2]
      have c2' : ¬ 0 < (S.length : Int) - (im9 S f e).a := by omega
      rw [← e10] at R3
      simp -dsimp (disch := omega) [t0, t1, t4, t5, c2, c2', hb0', hb1', h10]
      exact hQ _ _ (R3.set hb0' (by simp) h0r h0s h0p h0q) (fun i a b c d => by rw [blks_set_ne _ _ _ _ d]; exact F3.same i a b c) hn3 t4 (blks_set_eq _ _ _)
  · have c' : ¬ (N : Int) = U := by omega
    simp -dsimp (disch := omega) [t0, t1, t4, t5, c']
    refine note_call R2 fun h3 R3 F23 => ?_
    have R3 : Rd h3 r s p q S f e (im9 S f e) := by rw [e9, if_neg c']; exact R3
    have F3 := F2.trans F23
    obtain ⟨v3, hv3, _⟩ := R3.blk
    have hv3' : h3.blks r = some ⟨#[.pointer (some ⟨s, 0, none⟩), .int .u64 f, .int .u64 e, v3], 1, true⟩ := hv3
    simp -dsimp (disch := omega) [t0, t1, t4, t5, hv3']
    refine left_call R3.src ?_
    have hb0' : h3.blks x0 = some ⟨#[.int .u64 0, .slice none 0 0], 1, true⟩ := by rw [F3.same _ h0 h0r h0s]; exact hb0
    have hb1' : h3.blks x1 = some ⟨#[.int .u64 X, .slice va vn vc], 1, true⟩ := by rw [F3.same _ h1 h1r h1s]; exact hb1
    have hn3 := F3.le
    by_cases c2 : (im9 S f e).a < S.length
    · have e10 : im10 S f e = (im9 S f e).note sEnd (im9 S f e).a 5 := by unfold im10; rw [if_pos c2]
      have c2' : 0 < (S.length : Int) - (im9 S f e).a := by omega
      simp -dsimp (disch := omega) [t0, t1, t4, t5, c2, c2', hv3']
      refine at_call R3.src ?_
      simp -dsimp (disch := omega) [t0, t1, t4, t5]
      refine note_call R3 fun h4 R4 F4 => ?_
      have R4 : Rd h4 r s p q S f e (im10 S f e) := by rw [e10]; exact R4
      have F04 := F3.trans F4
      have hb0'' : h4.blks x0 = some ⟨#[.int .u64 0, .slice none 0 0], 1, true⟩ := by rw [F04.same _ h0 h0r h0s]; exact hb0
      have hb1'' : h4.blks x1 = some ⟨#[.int .u64 X, .slice va vn vc], 1, true⟩ := by rw [F04.same _ h1 h1r h1s]; exact hb1
      have hn4 := F04.le
      simp -dsimp (disch := omega) [t0, t1, t4, t5, hb0'', hb1'', h10]
      exact hQ _ _ (R4.set hb0'' (by simp) h0r h0s h0p h0q) (fun i a b c d => by rw [blks_set_ne _ _ _ _ d]; exact F04.same i a b c) hn4 t4 (blks_set_eq _ _ _)
    · have e10 : im10 S f e = im9 S f e := by unfold im10; rw [if_neg c2]
      have c2' : ¬ 0 < (S.length : Int) - (im9 S f e).a := by omega
      rw [← e10] at R3
      simp -dsimp (disch := omega) [t0, t1, t4, t5, c2, c2', hb0', hb1', h10]
      exact hQ _ _ (R3.set hb0' (by simp) h0r h0s h0p h0q) (fun i a b c d => by rw [blks_set_ne _ _ _ _ d]; exact F3.same i a b c) hn3 t4 (blks_set_eq _ _ _)
end Go.Proofs.YtcbagjhbmdmjfaaDoor
namespace Go.Proofs.YtcbagjhbmdmjfaaDoor
set_option maxRecDepth 100000
open Go Go.Mini Go.Proofs.Tryd

theorem txt_eq_iff {l m : List UInt8} : txt l = txt m ↔ l = m := ⟨fun e => by have := congrArg (fun b : ByteArray => b.data.toList) e; simpa [txt_data] using this, fun e => by rw [e]⟩
theorem numN_lt1 (l : List UInt8) (h : l.length ≤ 1) : numN l ≤ 255 := by
  have h1 := numL_range l
  have h2 : ((256 ^ l.length : Nat) : Int) ≤ ((256 ^ 1 : Nat) : Int) := Int.ofNat_le.2 (Nat.pow_le_pow_right (by omega) h)
  rw [show ((256 ^ 1 : Nat) : Int) = 256 from rfl, Int.natCast_pow 256 l.length, show ((256 : Nat) : Int) = 256 from rfl] at h2
  unfold numN; omega
theorem image_call {r s p q : Nat} {S : List UInt8} {f e : Nat} {h : Hp} {K : Value → Hp → Prop} (R : Rd h r s p q S f e ⟨0, false, none⟩) (he : e < 9223372036854775808)
    (hK : ∀ h' v, Rd h' r s p q S f e (im10 S f e) → (∀ i, i < h.next → i ≠ r → i ≠ s → h'.blks i = h.blks i) → h.next ≤ h'.next → Row (h.next + 2) h' 2 (imL S f e).length (sgC (imL S f e)) v → K (imV (imX S) v) h') : ACall prog 44 [.pointer (some ⟨r, 0, none⟩), .string (txt S)] h K := by
  refine acallF_of tb44 func44 rfl rfl mixed (by kernel_rfl) fun hwf => ?_
  have hlr := R.lr
  have hls := R.src.ls
  have hlp := R.src.lp
  have hlq := R.src.lq
  simp -dsimp (disch := omega)
  have R0 := (R.ext (Ext.alloc h ⟨#[.int .u64 0, .slice none 0 0], 1, true⟩)).ext (Ext.alloc _ ⟨#[.int .u64 0, .slice none 0 0], 1, true⟩)
  have F0 : Fr h ((h.alloc ⟨#[.int .u64 0, .slice none 0 0], 1, true⟩).alloc ⟨#[.int .u64 0, .slice none 0 0], 1, true⟩) r s := (Fr.of_ext (Ext.alloc h ⟨#[.int .u64 0, .slice none 0 0], 1, true⟩) r s).trans (Fr.of_ext (Ext.alloc _ _) r s)
  refine textR_call (n := 4) R0 fun h1 R1 F1 => ?_
  have R1 : Rd h1 r s p q S f e (im1 S) := R1
  have hn1 : h.next + 2 ≤ h1.next := by have := F1.le; simpa using this
  have e1 : (txt (St.got S ⟨0, false, none⟩ 4) = ⟨#[65, 76, 77, 49]⟩) ↔ St.got S ⟨0, false, none⟩ 4 = magicL := txt_eq_iff (m := magicL)
  simp -dsimp (disch := omega)
  by_cases c : St.got S ⟨0, false, none⟩ 4 = magicL
  · have F1x := F1
    have F1t := F0.trans F1
    have c' : St.got S ⟨0, false, none⟩ 4 = [65, 76, 77, 49] := c
    simp -dsimp (disch := omega) [c']
    have R2 : Rd h1 r s p q S f e (im2 S) := by unfold im2; rw [if_pos c]; exact R1
    have n2 : h.next + 2 ≤ h1.next := hn1
    refine number_call (w := 8) R2 (by decide) fun h3 R3 F3 => ?_
    have R3 : Rd h3 r s p q S f e (im3 S) := R3
    have hX := numN_lt S (im2 S) 8 (by omega)
    rw [numL_nat, show numN ((im2 S).got S 8) = imX S from rfl]
    rw [show numN ((im2 S).got S 8) = imX S from rfl] at hX
    obtain ⟨X, eX⟩ : ∃ X, X = imX S := ⟨_, rfl⟩
    have e4 : im4 S f e = (im3 S).note sEntry (im2 S).a (entN f e X) := by rw [eX]; rfl
    rw [← eX] at hX hK ⊢
    obtain ⟨v3, hv3, _⟩ := R3.blk
    have hv3' : h3.blks r = some ⟨#[.pointer (some ⟨s, 0, none⟩), .int .u64 f, .int .u64 e, v3], 1, true⟩ := hv3
    have n3 := F3.le
    simp -dsimp (disch := omega) [hv3']
    refine entry_call (by omega) hX ?_
    simp -dsimp (disch := omega)
    refine note_call R3 fun h4 R4 F4 => ?_
    have R4 : Rd h4 r s p q S f e (im4 S f e) := by rw [e4]; exact R4
    have n4 := F4.le
    have F04 := (F1t.trans F3).trans F4
    have hx4 : h4.blks (h.next + 1) = some ⟨#[.int .u64 0, .slice none 0 0], 1, true⟩ := (((F1x.trans F3).trans F4).same _ (by simp) (by omega) (by omega)).trans (blks_alloc_at _ _ _ (by simp))
    simp -dsimp (disch := omega) [hx4]
    have hx5 : (h4.set (h.next + 1) ⟨#[.int .u64 X, .slice none 0 0], 1, true⟩).blks (h.next + 1) = some ⟨#[.int .u64 X, .slice none 0 0], 1, true⟩ := blks_set_eq _ _ _
    have R5 := R4.set (b := ⟨#[.int .u64 X, .slice none 0 0], 1, true⟩) hx4 (by simp) (by omega) (by omega) (by omega) (by omega)
    refine number_call (w := 1) R5 (by decide) fun h6 R6 F6 => ?_
    have R6 : Rd h6 r s p q S f e (im5 S f e) := R6
    have hN1 := numN_lt1 ((im4 S f e).got S 1) (got_len _ _ _)
    rw [numL_nat, show numN ((im4 S f e).got S 1) = imN S f e from rfl]
    rw [show numN ((im4 S f e).got S 1) = imN S f e from rfl] at hN1
    obtain ⟨N, eN⟩ : ∃ N, N = imN S f e := ⟨_, rfl⟩
    rw [← eN] at hN1 ⊢
    have n6 : h4.next ≤ h6.next := by have := F6.le; simpa using this
    have hx6 : h6.blks (h.next + 1) = some ⟨#[.int .u64 X, .slice none 0 0], 1, true⟩ := (F6.same _ (by simp; omega) (by omega) (by omega)).trans hx5
    have hy6 : h6.blks h.next = some ⟨#[.int .u64 0, .slice none 0 0], 1, true⟩ := by
      rw [F6.same _ (by simp; omega) (by omega) (by omega), blks_set_ne _ _ _ _ (by omega), ((F1x.trans F3).trans F4).same _ (by simp; omega) (by omega) (by omega), blks_alloc_ne _ _ _ (by simp)]
      exact blks_alloc_eq _ _
    have F56 : Fr h h6 r s := ⟨by omega, fun i i1 i2 i3 => by rw [F6.same i (by simp; omega) i2 i3, blks_set_ne _ _ _ _ (by omega), F04.same i i1 i2 i3]⟩
    simp -dsimp (disch := omega)
    by_cases d : 8 < N
    · have d' : 8 < (N : Int) := by omega
      simp -dsimp (disch := omega) [d, d']
      refine note_call R6 fun h7 R7 F7 => ?_
      have R7 : Rd h7 r s p q S f e (im6 S f e) := by unfold im6; rw [← eN, if_pos d]; exact R7
      have n7 := F7.le
      have hx7 : h7.blks (h.next + 1) = some ⟨#[.int .u64 X, .slice none 0 0], 1, true⟩ := (F7.same _ (by omega) (by omega) (by omega)).trans hx6
      have hy7 : h7.blks h.next = some ⟨#[.int .u64 0, .slice none 0 0], 1, true⟩ := (F7.same _ (by omega) (by omega) (by omega)).trans hy6
      have F57 := F56.trans F7
      simp -dsimp (disch := omega)
      refine awpF_of (img_loop (N := N) (x0 := h.next) (x1 := h.next + 1) (m := h.next + 2) (X := X) (V := .string (txt S)) (T := rdL S f e N (im6 S f e) 0) (by omega) (by omega) R7 rfl (by omega) (by omega) (by omega) (by omega) (by omega) (by omega) (by omega) (by omega) (by omega) (by omega) hx7 rfl rfl rfl rfl rfl rfl rfl ?_)
      intro t' h8 v R8 s8 n8 w8 b8 u0 u1 u4 u5
      have eT : rdL S f e N (im6 S f e) 0 = (imL S f e, im7 S f e) := by rw [eN]; rfl
      rw [eT] at R8 w8
      have hx8 : h8.blks h.next = some ⟨#[.int .u64 0, .slice none 0 0], 1, true⟩ := (s8 _ (by omega) (by omega) (by omega) (by omega)).trans hy7
      refine img_tail (X := X) (by obtain ⟨a, c, hv⟩ := w8.slice; exact ⟨a, _, c, hv⟩) R8 (by omega) (by omega) (by omega) (by omega) (by omega) (by omega) (by omega) (by omega) (by omega) hx8 b8 u0 u1 u4 u5 ?_
      intro t9 h9 R9 s9 n9 u9 b9
      simp -dsimp (disch := omega)
      exact RetF.all (by simp [u9, b9, imV]) (hK h9 v R9 (fun i i1 i2 i3 => by rw [s9 i (by omega) i2 i3 (by omega), s8 i (by omega) i2 i3 (by omega)]; exact F57.same i i1 i2 i3) (by omega) (w8.mono n9 fun b hb => s9 b (w8.blk b hb).2 (by have := (w8.blk b hb).1; omega) (by have := (w8.blk b hb).1; omega) (by have := (w8.blk b hb).1; omega)))
    · have d' : ¬ 8 < (N : Int) := by omega
      have e6 : im6 S f e = im5 S f e := by unfold im6; rw [← eN, if_neg d]
      rw [← e6] at R6
      have R7 := R6
      have hx7 := hx6
      have hy7 := hy6
      have F57 := F56
      simp -dsimp (disch := omega) [d, d']
      refine awpF_of (img_loop (N := N) (x0 := h.next) (x1 := h.next + 1) (m := h.next + 2) (X := X) (V := .string (txt S)) (T := rdL S f e N (im6 S f e) 0) (by omega) (by omega) R7 rfl (by omega) (by omega) (by omega) (by omega) (by omega) (by omega) (by omega) (by omega) (by omega) (by omega) hx7 rfl rfl rfl rfl rfl rfl rfl ?_)
      intro t' h8 v R8 s8 n8 w8 b8 u0 u1 u4 u5
      have eT : rdL S f e N (im6 S f e) 0 = (imL S f e, im7 S f e) := by rw [eN]; rfl
      rw [eT] at R8 w8
      have hx8 : h8.blks h.next = some ⟨#[.int .u64 0, .slice none 0 0], 1, true⟩ := (s8 _ (by omega) (by omega) (by omega) (by omega)).trans hy7
      refine img_tail (X := X) (by obtain ⟨a, c, hv⟩ := w8.slice; exact ⟨a, _, c, hv⟩) R8 (by omega) (by omega) (by omega) (by omega) (by omega) (by omega) (by omega) (by omega) (by omega) hx8 b8 u0 u1 u4 u5 ?_
      intro t9 h9 R9 s9 n9 u9 b9
      simp -dsimp (disch := omega)
      exact RetF.all (by simp [u9, b9, imV]) (hK h9 v R9 (fun i i1 i2 i3 => by rw [s9 i (by omega) i2 i3 (by omega), s8 i (by omega) i2 i3 (by omega)]; exact F57.same i i1 i2 i3) (by omega) (w8.mono n9 fun b hb => s9 b (w8.blk b hb).2 (by have := (w8.blk b hb).1; omega) (by have := (w8.blk b hb).1; omega) (by have := (w8.blk b hb).1; omega)))
  · have c' : ¬ St.got S ⟨0, false, none⟩ 4 = [65, 76, 77, 49] := c
    simp -dsimp (disch := omega) [c']
    refine note_call R1 fun h2 R2 F2 => ?_
    have F1x := F1.trans F2
    have F1t := F0.trans F1x
    have hn2 : h1.next ≤ h2.next := F2.le
    simp -dsimp (disch := omega)
    have R2 : Rd h2 r s p q S f e (im2 S) := by unfold im2; rw [if_neg c]; exact R2
    have n2 : h.next + 2 ≤ h2.next := by omega
    refine number_call (w := 8) R2 (by decide) fun h3 R3 F3 => ?_
    have R3 : Rd h3 r s p q S f e (im3 S) := R3
    have hX := numN_lt S (im2 S) 8 (by omega)
    rw [numL_nat, show numN ((im2 S).got S 8) = imX S from rfl]
    rw [show numN ((im2 S).got S 8) = imX S from rfl] at hX
    obtain ⟨X, eX⟩ : ∃ X, X = imX S := ⟨_, rfl⟩
    have e4 : im4 S f e = (im3 S).note sEntry (im2 S).a (entN f e X) := by rw [eX]; rfl
    rw [← eX] at hX hK ⊢
    obtain ⟨v3, hv3, _⟩ := R3.blk
    have hv3' : h3.blks r = some ⟨#[.pointer (some ⟨s, 0, none⟩), .int .u64 f, .int .u64 e, v3], 1, true⟩ := hv3
    have n3 := F3.le
    simp -dsimp (disch := omega) [hv3']
    refine entry_call (by omega) hX ?_
    simp -dsimp (disch := omega)
    refine note_call R3 fun h4 R4 F4 => ?_
    have R4 : Rd h4 r s p q S f e (im4 S f e) := by rw [e4]; exact R4
    have n4 := F4.le
    have F04 := (F1t.trans F3).trans F4
    have hx4 : h4.blks (h.next + 1) = some ⟨#[.int .u64 0, .slice none 0 0], 1, true⟩ := (((F1x.trans F3).trans F4).same _ (by simp) (by omega) (by omega)).trans (blks_alloc_at _ _ _ (by simp))
    simp -dsimp (disch := omega) [hx4]
    have hx5 : (h4.set (h.next + 1) ⟨#[.int .u64 X, .slice none 0 0], 1, true⟩).blks (h.next + 1) = some ⟨#[.int .u64 X, .slice none 0 0], 1, true⟩ := blks_set_eq _ _ _
    have R5 := R4.set (b := ⟨#[.int .u64 X, .slice none 0 0], 1, true⟩) hx4 (by simp) (by omega) (by omega) (by omega) (by omega)
    refine number_call (w := 1) R5 (by decide) fun h6 R6 F6 => ?_
    have R6 : Rd h6 r s p q S f e (im5 S f e) := R6
    have hN1 := numN_lt1 ((im4 S f e).got S 1) (got_len _ _ _)
    rw [numL_nat, show numN ((im4 S f e).got S 1) = imN S f e from rfl]
    rw [show numN ((im4 S f e).got S 1) = imN S f e from rfl] at hN1
    obtain ⟨N, eN⟩ : ∃ N, N = imN S f e := ⟨_, rfl⟩
    rw [← eN] at hN1 ⊢
    have n6 : h4.next ≤ h6.next := by have := F6.le; simpa using this
    have hx6 : h6.blks (h.next + 1) = some ⟨#[.int .u64 X, .slice none 0 0], 1, true⟩ := (F6.same _ (by simp; omega) (by omega) (by omega)).trans hx5
    have hy6 : h6.blks h.next = some ⟨#[.int .u64 0, .slice none 0 0], 1, true⟩ := by
      rw [F6.same _ (by simp; omega) (by omega) (by omega), blks_set_ne _ _ _ _ (by omega), ((F1x.trans F3).trans F4).same _ (by simp; omega) (by omega) (by omega), blks_alloc_ne _ _ _ (by simp)]
      exact blks_alloc_eq _ _
    have F56 : Fr h h6 r s := ⟨by omega, fun i i1 i2 i3 => by rw [F6.same i (by simp; omega) i2 i3, blks_set_ne _ _ _ _ (by omega), F04.same i i1 i2 i3]⟩
    simp -dsimp (disch := omega)
    by_cases d : 8 < N
    · have d' : 8 < (N : Int) := by omega
      simp -dsimp (disch := omega) [d, d']
      refine note_call R6 fun h7 R7 F7 => ?_
      have R7 : Rd h7 r s p q S f e (im6 S f e) := by unfold im6; rw [← eN, if_pos d]; exact R7
      have n7 := F7.le
      have hx7 : h7.blks (h.next + 1) = some ⟨#[.int .u64 X, .slice none 0 0], 1, true⟩ := (F7.same _ (by omega) (by omega) (by omega)).trans hx6
      have hy7 : h7.blks h.next = some ⟨#[.int .u64 0, .slice none 0 0], 1, true⟩ := (F7.same _ (by omega) (by omega) (by omega)).trans hy6
      have F57 := F56.trans F7
      simp -dsimp (disch := omega)
      refine awpF_of (img_loop (N := N) (x0 := h.next) (x1 := h.next + 1) (m := h.next + 2) (X := X) (V := .string (txt S)) (T := rdL S f e N (im6 S f e) 0) (by omega) (by omega) R7 rfl (by omega) (by omega) (by omega) (by omega) (by omega) (by omega) (by omega) (by omega) (by omega) (by omega) hx7 rfl rfl rfl rfl rfl rfl rfl ?_)
      intro t' h8 v R8 s8 n8 w8 b8 u0 u1 u4 u5
      have eT : rdL S f e N (im6 S f e) 0 = (imL S f e, im7 S f e) := by rw [eN]; rfl
      rw [eT] at R8 w8
      have hx8 : h8.blks h.next = some ⟨#[.int .u64 0, .slice none 0 0], 1, true⟩ := (s8 _ (by omega) (by omega) (by omega) (by omega)).trans hy7
      refine img_tail (X := X) (by obtain ⟨a, c, hv⟩ := w8.slice; exact ⟨a, _, c, hv⟩) R8 (by omega) (by omega) (by omega) (by omega) (by omega) (by omega) (by omega) (by omega) (by omega) hx8 b8 u0 u1 u4 u5 ?_
      intro t9 h9 R9 s9 n9 u9 b9
      simp -dsimp (disch := omega)
      exact RetF.all (by simp [u9, b9, imV]) (hK h9 v R9 (fun i i1 i2 i3 => by rw [s9 i (by omega) i2 i3 (by omega), s8 i (by omega) i2 i3 (by omega)]; exact F57.same i i1 i2 i3) (by omega) (w8.mono n9 fun b hb => s9 b (w8.blk b hb).2 (by have := (w8.blk b hb).1; omega) (by have := (w8.blk b hb).1; omega) (by have := (w8.blk b hb).1; omega)))
    · have d' : ¬ 8 < (N : Int) := by omega
      have e6 : im6 S f e = im5 S f e := by unfold im6; rw [← eN, if_neg d]
      rw [← e6] at R6
      have R7 := R6
      have hx7 := hx6
      have hy7 := hy6
      have F57 := F56
      simp -dsimp (disch := omega) [d, d']
      refine awpF_of (img_loop (N := N) (x0 := h.next) (x1 := h.next + 1) (m := h.next + 2) (X := X) (V := .string (txt S)) (T := rdL S f e N (im6 S f e) 0) (by omega) (by omega) R7 rfl (by omega) (by omega) (by omega) (by omega) (by omega) (by omega) (by omega) (by omega) (by omega) (by omega) hx7 rfl rfl rfl rfl rfl rfl rfl ?_)
      intro t' h8 v R8 s8 n8 w8 b8 u0 u1 u4 u5
      have eT : rdL S f e N (im6 S f e) 0 = (imL S f e, im7 S f e) := by rw [eN]; rfl
      rw [eT] at R8 w8
      have hx8 : h8.blks h.next = some ⟨#[.int .u64 0, .slice none 0 0], 1, true⟩ := (s8 _ (by omega) (by omega) (by omega) (by omega)).trans hy7
      refine img_tail (X := X) (by obtain ⟨a, c, hv⟩ := w8.slice; exact ⟨a, _, c, hv⟩) R8 (by omega) (by omega) (by omega) (by omega) (by omega) (by omega) (by omega) (by omega) (by omega) hx8 b8 u0 u1 u4 u5 ?_
      intro t9 h9 R9 s9 n9 u9 b9
      simp -dsimp (disch := omega)
      exact RetF.all (by simp [u9, b9, imV]) (hK h9 v R9 (fun i i1 i2 i3 => by rw [s9 i (by omega) i2 i3 (by omega), s8 i (by omega) i2 i3 (by omega)]; exact F57.same i i1 i2 i3) (by omega) (w8.mono n9 fun b hb => s9 b (w8.blk b hb).2 (by have := (w8.blk b hb).1; omega) (by have := (w8.blk b hb).1; omega) (by have := (w8.blk b hb).1; omega)))
end Go.Proofs.YtcbagjhbmdmjfaaDoor
namespace Go.Proofs.YtcbagjhbmdmjfaaDoor
set_option maxRecDepth 100000
open Go Go.Mini Go.Proofs.Tryd

/-- What Parse gives: an error; an entry; segments. -/
def Tld.er : Tld → Er
  | .bad z => .flt z.1 z.2.1 z.2.2
  | .good _ _ => .nil
def Tld.x : Tld → Nat
  | .bad _ => 0
  | .good x _ => x
def Tld.l : Tld → List Sg
  | .bad _ => []
  | .good _ l => l
def prE (S : List UInt8) (n : Int) : Er := if n < 1 ∨ 16 < n then .num 2 else (docP S 2147483648 (endP n.toNat)).er
def prX (S : List UInt8) (n : Int) : Nat := if n < 1 ∨ 16 < n then 0 else (docP S 2147483648 (endP n.toNat)).x
def prL (S : List UInt8) (n : Int) : List Sg := if n < 1 ∨ 16 < n then [] else (docP S 2147483648 (endP n.toNat)).l
def tbP (x : Nat) : Nat → Marks := fun k => if k = 4 then ⟨[1, 2], fun _ => True⟩ else if k = 7 then ⟨[4, 6], fun j => j ≠ x⟩ else ⟨[], fun _ => True⟩
theorem Row.low {m m' : Nat} {h : Hp} {esz n : Nat} {cs : List Value} {v : Value} (r : Row m h esz n cs v) (hm : m' ≤ m) : Row m' h esz n cs v :=
  ⟨r.1, r.2.imp id fun ⟨b, b1, b2⟩ => ⟨b, Nat.le_trans hm b1, b2⟩⟩
theorem parse_call {S : List UInt8} {n : Int} {h : Hp} {K : Value → Hp → Prop} (hS : S.length ≤ 4611686018427387904)
    (hK : ∀ h' w er, Ext h h' → IsEr h' (prE S n) er → Row h.next h' 2 (prL S n).length (sgC (prL S n)) w → K (.tuple #[imV (prX S n) w, er]) h') : ACall prog 16 [.string (txt S), .int .i64 n] h K := by
  refine acallF_of (tbP h.next) func16 rfl rfl mixed (by kernel_rfl) fun hwf => ?_
  by_cases c : n < 1 ∨ 16 < n
  · unfold prE prX prL at hK
    simp only [if_pos c] at hK
    simp -dsimp (disch := omega)
    refine of_none c ?_
    simp -dsimp (disch := omega) [spV]
    refine RetF.all (by simp [imV]) (hK _ _ _ ?_ rfl (Row.nil _ _ _))
    exact ⟨by simp; omega, fun i hi => by simp [Hp.blks_alloc, Nat.ne_of_lt hi, Nat.ne_of_lt (Nat.lt_succ_of_lt hi)]⟩
  · obtain ⟨m, rfl⟩ := Int.eq_ofNat_of_zero_le (show 0 ≤ n by omega)
    have hm : 1 ≤ m ∧ m ≤ 16 := by omega
    have hE : endP m < 9223372036854775808 := by unfold endP; omega
    unfold prE prX prL at hK
    simp only [if_neg c, Int.toNat_natCast] at hK
    simp -dsimp (disch := omega)
    refine of_some hm.1 hm.2 ?_
    have hd := img_doc S 2147483648 (endP m)
    obtain ⟨e, he⟩ : ∃ e, e = endP m := ⟨_, rfl⟩
    rw [← he] at hK hE hd ⊢
    simp -dsimp (disch := omega) [spV, tbP]
    refine of_call (by rw [txt_size]; omega) fun h1 s p q Q qs qp qq x1 => ?_
    have q1 : h.next + 2 ≤ h1.next := by have := x1.le; simpa using this
    have hy1 : h1.blks h.next = some ⟨#[.int .u64 0, .slice none 0 0], 1, true⟩ := (x1.same _ (by simp; omega)).trans (by simp (disch := omega))
    have hz1 : h1.blks (h.next + 1) = some ⟨#[.int .u64 2147483648, .int .u64 e], 1, true⟩ := (x1.same _ (by simp)).trans (by simp (disch := omega))
    simp only [Hp.next_alloc] at qs qp qq
    simp -dsimp (disch := omega) [tbP, hz1]
    refine ⟨fun j hj _ => x1.same j (by simpa using hj), ?_⟩
    have R1 : Rd (h1.alloc (rdB s 2147483648 e (.pointer none))) h1.next s p q S 2147483648 e ⟨0, false, none⟩ := by
      have l1 := Q.ls
      have l2 := Q.lp
      have l3 := Q.lq
      refine ⟨by have := Q.ext (Ext.alloc h1 (rdB s 2147483648 e (.pointer none))); simpa [txt_size] using this, ⟨_, blks_alloc_eq _ _, rfl⟩, by simp, by omega, by omega, by omega, Nat.zero_le _⟩
    refine image_call R1 hE fun h2 w R2 s2 n2 w2 => ?_
    have n2' : h1.next < h2.next := by simpa [Nat.succ_le_iff] using n2
    obtain ⟨v2, hv2, hf2⟩ := R2.blk
    have hv2' : h2.blks h1.next = some ⟨#[.pointer (some ⟨s, 0, none⟩), .int .u64 (2147483648 : Nat), .int .u64 e, v2], 1, true⟩ := hv2
    have hs1 := Q.ls
    have hy2 : h2.blks h.next = some ⟨#[.int .u64 0, .slice none 0 0], 1, true⟩ := by
      rw [s2 _ (by simp; omega) (by omega) (by omega), blks_alloc_ne _ _ _ (by omega)]
      exact hy1
    have hold : ∀ i, i < h.next → h2.blks i = h.blks i := fun i hi => by
      rw [s2 _ (by simp; omega) (by omega) (by omega), blks_alloc_ne _ _ _ (by omega), x1.same _ (by simp; omega), blks_alloc_ne _ _ _ (by simp; omega), blks_alloc_ne _ _ _ (by omega)]
    have w2b := w2.blk
    obtain ⟨wa, wc, rfl⟩ := w2.slice
    cases hdoc : docP S 2147483648 e with
    | bad z =>
      rw [hdoc] at hd hK
      obtain ⟨z1, z2, z3⟩ := z
      rw [show (im10 S 2147483648 e).flt = some (z1, z2, z3) from hd] at hf2
      obtain ⟨d, rfl, hd1, hd2⟩ := hf2
      have hdn : d ≠ h.next := fun e => by rw [e, hy2] at hd1; simp [faultB] at hd1
      simp -dsimp (disch := omega) [tbP, hv2', hy2, imV]
      refine ⟨by omega, fun j _ hR => ?_, ?_⟩
      · have hR' : ¬ j = h.next := by simpa using hR
        simp [Hp.blks_alloc, Hp.blks_set, hR']
      · refine RetF.all (by simp [show ¬ h.next = h2.next by omega, imV, Tld.x]) (hK _ (.slice none 0 0) (.iface 70 (.pointer (some ⟨d, 0, none⟩))) ⟨by simp; omega, fun i hi => ?_⟩ ⟨d, rfl, ?_, by simp; omega⟩ (Row.nil _ _ _))
        · rw [blks_alloc_ne _ _ _ (by simp; omega), blks_set_ne _ _ _ _ (by omega)]; exact hold i hi
        · rw [blks_alloc_ne _ _ _ (by simp; omega), blks_set_ne _ _ _ _ hdn]; exact hd1
    | good x l =>
      rw [hdoc] at hd hK
      obtain ⟨hd0, hd1, hd2⟩ := hd
      rw [hd0] at hf2
      obtain rfl : v2 = .pointer none := hf2
      rw [hd1]
      simp -dsimp (disch := omega) [tbP, hv2', hy2, imV]
      refine RetF.all (by simp [imV, Tld.x, hd2]) (hK _ (.slice wa l.length wc) .nilIface ⟨by simp; omega, fun i hi => ?_⟩ rfl ?_)
      · rw [blks_alloc_ne _ _ _ (by simp; omega), blks_set_ne _ _ _ _ (by omega)]; exact hold i hi
      · have w3 : Row h.next h2 2 l.length (sgC l) (.slice wa l.length wc) := by rw [hd2] at w2; exact Row.low w2 (by simp; omega)
        exact (w3.set _ _ fun e => by rw [hd2] at w2b; have := (w2b _ e).1; simp at this; omega).alloc _
end Go.Proofs.YtcbagjhbmdmjfaaDoor
