/-
  The law PlicServes: its loop and its body.
-/
import Derived.Test.YtfdhahnnhaeibaaH2
set_option linter.unusedSimpArgs false
set_option linter.unusedVariables false
set_option linter.unusedSectionVars false
namespace Go.Proofs.Ytfdhahnnhaeibaa
open Go Go.Mini Go.Proofs.Try

theorem act_at {h : Hp} {l : List Act} {v : Value} {k : Nat} {e : Act} (hv : Sl h 6 l.length (actsC l) v) (hk : l[k]? = some e) :
    ∃ a c b, v = .slice (some a) l.length c ∧ h.blks a.block = some b ∧ a.off + k * 6 + 6 ≤ b.cells.size ∧ b.cells.extract (a.off + k * 6) (a.off + k * 6 + 6) = (actC e).toArray := by
  have hlt : k < l.length := (List.getElem?_eq_some_iff.1 hk).1
  obtain ⟨h0, ⟨_, _, _, h1⟩ | ⟨a, c, b, rfl, h2, h3, h4⟩⟩ := hv
  · omega
  · have hm : k * 6 + 6 ≤ l.length * 6 := by omega
    refine ⟨a, c, b, rfl, h2, by omega, ?_⟩
    apply Array.ext_getElem?
    intro i
    rw [Array.getElem?_extract]
    by_cases hi : i < 6
    · rw [if_pos (by omega)]
      have := h4 (k * 6 + i) (by omega)
      rw [← Nat.add_assoc] at this
      rw [this, actsC_at hk hi]; simp
    · rw [if_neg (by omega)]
      symm
      simp [actC]
      omega
theorem off_not (off : Nat) (ho : off < 18446744073709551616) : ∃ r : Nat, (∀ (ty : TypeId) (xo yo : Operand), abin prog .andNot ty xo yo (.int .u64 (off : Nat)) (.int .u64 4096) = some (.int .u64 (r : Nat))) ∧ (r ≠ 2097156 → off ≠ 2097156 ∧ off ≠ 2101252) := by
  have h0 : 0 ≤ IntKind.u64.wrap ((BitVec.ofInt IntKind.u64.bits (off : Int) &&& ~~~BitVec.ofInt IntKind.u64.bits 4096).toNat : Int) := by
    have hb : (BitVec.ofInt IntKind.u64.bits (off : Int) &&& ~~~BitVec.ofInt IntKind.u64.bits 4096).toNat < 18446744073709551616 := BitVec.isLt _
    rw [IntWalk.u64_in _ (by omega)]
    omega
  obtain ⟨r, hr⟩ := Int.eq_ofNat_of_zero_le h0
  refine ⟨r, fun ty xo yo => by rw [abin_andNot, hr], fun hne => ⟨fun e => ?_, fun e => ?_⟩⟩
  · subst e
    have : IntKind.u64.wrap ((BitVec.ofInt IntKind.u64.bits ((2097156 : Nat) : Int) &&& ~~~BitVec.ofInt IntKind.u64.bits 4096).toNat : Int) = 2097156 := by decide
    rw [this] at hr; omega
  · subst e
    have : IntKind.u64.wrap ((BitVec.ofInt IntKind.u64.bits ((2101252 : Nat) : Int) &&& ~~~BitVec.ofInt IntKind.u64.bits 4096).toNat : Int) = 2097156 := by decide
    rw [this] at hr; omega

set_option maxRecDepth 100000 in
set_option maxHeartbeats 2000000 in
theorem plicServes_call {h : Hp} {K : Value → Hp → Prop} {l : List Act} {v : Value} (hok : ∀ e ∈ l, e.ok) (hl : l.length < 9223372036854775808) (hv : Sl h 6 l.length (actsC l) v) (hK : K (.bool true) h) : ACall prog 3 [v] h K := by
  refine acallF_of tb0 func3 rfl rfl mixed (by kernel_rfl) fun hwf => ?_
  have hvb := sblk_lt (hwf.args v (by simp))
  obtain ⟨va, vc, rfl⟩ := hv.slice
  by_cases hc : 60 < l.length
  · have hc' : (60 : Int) < l.length := by omega
    simp -dsimp (disch := omega) [hc, hc']
    refine works_call ?_
    simp -dsimp (disch := omega)
    exact RetF.same hwf (by simp) (Nat.zero_le _) (fun _ _ => rfl) hK
  · have hc' : ¬ (60 : Int) < l.length := by omega
    simp -dsimp (disch := omega) [hc, hc']
    refine new_call ?_
    simp -dsimp (disch := omega)
    rw [boolC_zero]
    refine awp_loop (fun t h' => ∃ (k : Nat) (s : St) (sv fr hg : Nat → Bool), k ≤ l.length ∧ Inv s sv fr hg ∧ Stand h h' s sv fr hg ∧ t 0 = .slice va l.length vc ∧ t 3 = ptr h.next ∧ t 4 = ptr (h.next + 1) ∧ t 5 = ptr (h.next + 2) ∧ t 6 = ptr (h.next + 3) ∧ t 7 = .int .i64 k) (fun t _ => l.length - ivN (t 7)) ?_ ?_
    · simp -dsimp (disch := omega)
      refine ⟨0, by omega, st0, _, _, _, inv0, ⟨?_, ?_, ?_, ?_, ?_, ?_⟩, rfl⟩
      all_goals simp -dsimp (disch := omega)
      intro i hi
      simp (disch := omega)
    · rintro t h' ⟨k, s, sv, fr, hg, hk, hi, q, t0, t3, t4, t5, t6, t7⟩
      refine vcF_sound mixed (tb := tb0) _ (by kernel_rfl) ?_
      obtain ⟨R, hR⟩ : ∃ R, R = (sndC (sndC (blkC (fstC (sndC (loopC (blkC (sndC (fstC (sndC (sndC (sndC (sndC (bodyC f3)))))))))))))) := ⟨_, rfl⟩
      have hR2 := hR
      conv at hR => rhs; whnf
      rw [← hR]
      have le := q.le
      by_cases hc1 : k < l.length
      · have hc1' : (k : Int) < l.length := by omega
        obtain ⟨a, hx⟩ : ∃ e, l[k]? = some e := ⟨l[k], List.getElem?_eq_getElem hc1⟩
        obtain ⟨a', c', b', q1, f1, g1, x1⟩ := act_at (hv.mono fun b hb => q.old b (hvb b hb)) hx
        cases q1
        have ha := hok a (List.mem_of_getElem? hx)
        obtain ⟨w, n0, x, off, v, wd⟩ := a
        have x1' : b'.cells.extract (a'.off + k * 6) (a'.off + k * 6 + 6) = #[.int .u8 w, .int .i64 n0, .bool x, .int .u64 off, .int .u64 v, .int .i64 wd] := x1
        clear x1
        obtain ⟨o1, o2, o3, o4, o5⟩ := ha
        simp only at o1 o2 o3 o4 o5
        have ha : Act.ok ⟨w, n0, x, off, v, wd⟩ := ⟨o1, o2, o3, o4, o5⟩
        obtain ⟨c, hcd⟩ : ∃ c, c = w % 13 := ⟨_, rfl⟩
        have hci : (w : Int) % 13 = c := by omega
        obtain ⟨r, hand, hr⟩ := off_not off o3
        obtain ⟨H, hH⟩ : ∃ H, H = h'.alloc ⟨#[.int .u8 w, .int .i64 n0, .bool x, .int .u64 off, .int .u64 v, .int .i64 wd], 1, true⟩ := ⟨_, rfl⟩
        have q2 : Stand h H s sv fr hg := by rw [hH]; exact q.alloc _
        have hB : H.blks h'.next = some ⟨#[.int .u8 w, .int .i64 n0, .bool x, .int .u64 off, .int .u64 v, .int .i64 wd], 1, true⟩ := by rw [hH]; exact blks_alloc_eq _ _
        have hHn : H.next = h'.next + 1 := by rw [hH]; rfl
        have tail : ∀ (Q : APost) (h2 : Hp) (t2 : Tm) (s2 : St) (fr2 hg2 : Nat → Bool), Inv s2 sv fr2 hg2 → Stand h h2 s2 sv fr2 hg2 → h'.next < h2.next → h2.blks h'.next = some ⟨#[.int .u8 w, .int .i64 n0, .bool x, .int .u64 off, .int .u64 v, .int .i64 wd], 1, true⟩ → t2 0 = .slice (some a') l.length vc → t2 3 = ptr h.next → t2 4 = ptr (h.next + 1) → t2 5 = ptr (h.next + 2) → t2 6 = ptr (h.next + 3) → t2 7 = .int .i64 k → t2 8 = ptr h'.next →
            (∀ t' h' s' sv' fr' hg', Inv s' sv' fr' hg' → Stand h h' s' sv' fr' hg' → t' 0 = .slice (some a') l.length vc → t' 3 = ptr h.next → t' 4 = ptr (h.next + 1) → t' 5 = ptr (h.next + 2) → t' 6 = ptr (h.next + 3) → t' 7 = .int .i64 k → apQ Q .normal t' h' (.mk _) ∧ apQ Q (.exit 1) t' h' (.mk _)) → vcF prog 259 tb0 R Q t2 h2 (.mk _) := by
          intro Q h2 t2 s2 fr2 hg2 i1 i2 i3 i4 i5 i6 i7 i8 i9 i10 i11 i12
          rw [hR2]
          exact serves_tail i1 ha i2 le i3 i4 i5 i6 i7 i8 i9 i10 i11 i12
        clear hR hR2
        by_cases hc3 : c < 3
        · have hc3' : (c : Int) < 3 := by omega
          simp -dsimp (disch := omega) [t0, t3, t7, hc1, hc1', f1, g1, x1', ← hH, hB, hci, hc3, hc3']
          refine raise_call q2.bp (fun hn => ?_) (fun m hm m1 m8 => ?_)
          · simp -dsimp (disch := omega)
            refine tail _ _ _ s fr hg hi q2 (by omega) hB (by simp [t0]) (by simp [t3]) (by simp [t4]) (by simp [t5]) (by simp [t6]) (by simp [t7]) (by simp) (fun t2 h2 s2 sv2 fr2 hg2 j1 j2 j3 j4 j5 j6 j7 j8 => ?_)
            constructor
            all_goals
              simp -dsimp (disch := omega) [j3, j4, j5, j6, j7, j8, t7]
              exact ⟨⟨k + 1, by omega, s2, sv2, fr2, hg2, j1, j2, by simp⟩, by simp [ivN]; omega⟩
          · subst hm
            have m8' : (m : Int) < 8 := by omega
            have q3 := q2.call (h'' := H.set h.next ⟨stC (raiseS s m x), 1, true⟩) (fun i _ hne => blks_set_ne _ _ _ _ hne) (Nat.le_refl _) (blks_set_eq _ _ _)
            have i3 := hi.raise m x
            have q4 := (q3.set3 (hg' := upd1 hg m x)).set2 (fr' := upd1 fr m (fr m || x))
            have q3b := q2.b2
            have q3c := q2.b3
            have b2 := boolC_at fr m8
            have s2 := boolC_set fr m8 (fr m || x)
            have s3 := boolC_set hg m8 x
            cases hfm : fr m with
            | true =>
              rw [hfm] at b2 s2 q4 i3
              rw [Bool.true_or] at s2 q4 i3
              simp -dsimp (disch := omega) [t0, t3, t5, t6, t7, hB, m8, m8', q3b, q3c, b2, s2, s3]
              refine tail _ _ _ _ _ _ i3 q4 (by simp; omega) (by simp (disch := omega) [hB]) (by simp [t0]) (by simp [t3]) (by simp [t4]) (by simp [t5]) (by simp [t6]) (by simp [t7]) (by simp) (fun t2 h2 s2 sv2 fr2 hg2 j1 j2 j3 j4 j5 j6 j7 j8 => ?_)
              constructor
              all_goals
                simp -dsimp (disch := omega) [j3, j4, j5, j6, j7, j8, t7]
                exact ⟨⟨k + 1, by omega, s2, sv2, fr2, hg2, j1, j2, by simp⟩, by simp [ivN]; omega⟩
            | false =>
              rw [hfm] at b2 s2 q4 i3
              rw [Bool.false_or] at s2 q4 i3
              simp -dsimp (disch := omega) [t0, t3, t5, t6, t7, hB, m8, m8', q3b, q3c, b2, s2, s3]
              refine tail _ _ _ _ _ _ i3 q4 (by simp; omega) (by simp (disch := omega) [hB]) (by simp [t0]) (by simp [t3]) (by simp [t4]) (by simp [t5]) (by simp [t6]) (by simp [t7]) (by simp) (fun t2 h2 s2 sv2 fr2 hg2 j1 j2 j3 j4 j5 j6 j7 j8 => ?_)
              constructor
              all_goals
                simp -dsimp (disch := omega) [j3, j4, j5, j6, j7, j8, t7]
                exact ⟨⟨k + 1, by omega, s2, sv2, fr2, hg2, j1, j2, by simp⟩, by simp [ivN]; omega⟩
        · have hc3' : ¬ (c : Int) < 3 := by omega
          by_cases hc12 : c < 12
          · have hc12' : (c : Int) < 12 := by omega
            by_cases hc6 : 6 < c
            · have hc6' : (6 : Int) < c := by omega
              by_cases hr0 : r = 2097156
              · have hr0' : (r : Int) = 2097156 := by omega
                simp -dsimp (disch := omega) [t0, t3, t7, hc1, hc1', f1, g1, x1', ← hH, hB, hci, hc3, hc3', hc12, hc12', hc6, hc6', hr0, hr0', hand, -abin_andNot]
                refine tail _ _ _ s fr hg hi q2 (by omega) hB (by simp [t0]) (by simp [t3]) (by simp [t4]) (by simp [t5]) (by simp [t6]) (by simp [t7]) (by simp) (fun t2 h2 s2 sv2 fr2 hg2 j1 j2 j3 j4 j5 j6 j7 j8 => ?_)
                constructor
                all_goals
                  simp -dsimp (disch := omega) [j3, j4, j5, j6, j7, j8, t7]
                  exact ⟨⟨k + 1, by omega, s2, sv2, fr2, hg2, j1, j2, by simp⟩, by simp [ivN]; omega⟩
              · have hr0' : ¬ (r : Int) = 2097156 := by omega
                simp -dsimp (disch := omega) [t0, t3, t7, hc1, hc1', f1, g1, x1', ← hH, hB, hci, hc3, hc3', hc12, hc12', hc6, hc6', hr0, hr0', hand, -abin_andNot]
                obtain ⟨y1, y2⟩ := hr hr0
                refine write_call (off := off) (v := v) q2.bp hi.ok (by omega) o3 o4 (fun _ => ?_) (fun hm h10 u1 u10 u3 => ?_)
                · simp -dsimp (disch := omega)
                  refine tail _ _ _ s fr hg hi q2 (by omega) hB (by simp [t0]) (by simp [t3]) (by simp [t4]) (by simp [t5]) (by simp [t6]) (by simp [t7]) (by simp) (fun t2 h2 s2 sv2 fr2 hg2 j1 j2 j3 j4 j5 j6 j7 j8 => ?_)
                  constructor
                  all_goals
                    simp -dsimp (disch := omega) [j3, j4, j5, j6, j7, j8, t7]
                    exact ⟨⟨k + 1, by omega, s2, sv2, fr2, hg2, j1, j2, by simp⟩, by simp [ivN]; omega⟩
                · have q3 := q2.call u1 u10 u3
                  have hB3 := (u1 h'.next (by omega) (by omega)).trans hB
                  simp -dsimp (disch := omega)
                  refine tail _ _ _ _ _ _ (hi.write v hm y1 y2) q3 (by omega) hB3 (by simp [t0]) (by simp [t3]) (by simp [t4]) (by simp [t5]) (by simp [t6]) (by simp [t7]) (by simp) (fun t2 h2 s2 sv2 fr2 hg2 j1 j2 j3 j4 j5 j6 j7 j8 => ?_)
                  constructor
                  all_goals
                    simp -dsimp (disch := omega) [j3, j4, j5, j6, j7, j8, t7]
                    exact ⟨⟨k + 1, by omega, s2, sv2, fr2, hg2, j1, j2, by simp⟩, by simp [ivN]; omega⟩
            · have hc6' : ¬ (6 : Int) < c := by omega
              simp -dsimp (disch := omega) [t0, t3, t7, hc1, hc1', f1, g1, x1', ← hH, hB, hci, hc3, hc3', hc12, hc12', hc6, hc6']
              refine tail _ _ _ s fr hg hi q2 (by omega) hB (by simp [t0]) (by simp [t3]) (by simp [t4]) (by simp [t5]) (by simp [t6]) (by simp [t7]) (by simp) (fun t2 h2 s2 sv2 fr2 hg2 j1 j2 j3 j4 j5 j6 j7 j8 => ?_)
              constructor
              all_goals
                simp -dsimp (disch := omega) [j3, j4, j5, j6, j7, j8, t7]
                exact ⟨⟨k + 1, by omega, s2, sv2, fr2, hg2, j1, j2, by simp⟩, by simp [ivN]; omega⟩
          · have hc12' : ¬ (c : Int) < 12 := by omega
            simp -dsimp (disch := omega) [t0, t3, t7, hc1, hc1', f1, g1, x1', ← hH, hB, hci, hc3, hc3', hc12, hc12']
            refine tail _ _ _ s fr hg hi q2 (by omega) hB (by simp [t0]) (by simp [t3]) (by simp [t4]) (by simp [t5]) (by simp [t6]) (by simp [t7]) (by simp) (fun t2 h2 s2 sv2 fr2 hg2 j1 j2 j3 j4 j5 j6 j7 j8 => ?_)
            constructor
            all_goals
              simp -dsimp (disch := omega) [j3, j4, j5, j6, j7, j8, t7]
              exact ⟨⟨k + 1, by omega, s2, sv2, fr2, hg2, j1, j2, by simp⟩, by simp [ivN]; omega⟩
      · have hc1' : ¬ (k : Int) < l.length := by omega
        simp -dsimp (disch := omega) [t0, t7, hc1, hc1']
        refine works_call ?_
        simp -dsimp (disch := omega)
        exact RetF.same hwf (by simp) (Nat.zero_le _) q.old hK
end Go.Proofs.Ytfdhahnnhaeibaa
