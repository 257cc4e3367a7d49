/-
  Messages are received in the order in which they were sent: the law's body.
-/
import Derived.Test.YtggohjlfhomafaaQ6
set_option linter.unusedSimpArgs false
set_option linter.unusedVariables false
set_option linter.unusedSectionVars false
namespace Go.Proofs.Ytggohjlfhomafaa
open Go Go.Mini Go.Proofs.Try

def strsC (l : List ByteArray) : List Value := l.map .string
theorem strsC_append (l l' : List ByteArray) : strsC (l ++ l') = strsC l ++ strsC l' := by simp [strsC]
section
variable {h : Hp} {K : Value → Hp → Prop}
set_option maxHeartbeats 2000000 in
theorem queueOrder_call {a b : Nat} (ha : a < 256) (hb : b < 256) {l : List Act} {v : Value} (hok : ∀ e ∈ l, e.ok) (hl : l.length < 9223372036854775808) (hv : Sl h 2 l.length (actsC l) v) (hK : K (.bool true) h) : ACall prog 3 [.int .u8 a, .int .u8 b, v] h K := by
  refine acallF_of tb0 func3 rfl rfl mixed (by kernel_rfl) fun hwf => ?_
  have hvb := sblk_lt (hwf.args v (by simp))
  have hv' := hv
  obtain ⟨va, vc, rfl⟩ := hv.slice
  simp -dsimp (disch := omega)
  refine newQ (a := a) (b := b) ha hb (fun hn b1 q1 => ?_) (fun hn => ?_)
  · simp -dsimp (disch := omega)
    refine few_call hok hl (hv'.mono fun x hx => blks_alloc_ne _ _ _ (by have := hvb x hx; omega)) ?_
    cases hfew : fewL l with
    | false =>
      simp -dsimp (disch := omega)
      refine awake_call ?_
      simp -dsimp (disch := omega)
      exact RetF.same hwf (by simp) (Nat.zero_le _) (fun i hi => by simp (disch := omega)) hK
    | true =>
      obtain ⟨f1, f2⟩ := few_of hfew
      simp -dsimp (disch := omega)
      obtain ⟨d1, d2, d3⟩ := q1.dep
      obtain ⟨n, hn⟩ : ∃ n, n = l.length := ⟨_, rfl⟩
      refine awp_loop (fun t h' => h.next + 1 ≤ h'.next ∧ (∀ i, i < h.next → h'.blks i = h.blks i) ∧ ∃ (k got : Nat) (sent : List ByteArray) (vs : Value), k ≤ n ∧ t 0 = .int .u8 a ∧ t 1 = .int .u8 b ∧ t 2 = .slice va l.length vc ∧ t 7 = ptr h.next ∧ t 9 = vs ∧ t 10 = .int .i64 got ∧ t 11 = .int .i64 k ∧
        Row (h.next + 1) h' 1 sent.length (strsC sent) vs ∧ got ≤ sent.length ∧ sent.length ≤ k ∧ Que h' h.next (sent.drop got) a b) (fun t _ => n - ivN (t 11)) ?_ ?_
      · simp -dsimp (disch := omega)
        refine ⟨fun i hi he => absurd he (by omega), ?_⟩
        exact ⟨0, by omega, 0, rfl, rfl, [], Row.nil _ _ _, by simp, by simp, q1⟩
      · rintro t h' ⟨hn1, hs, k, got, sent, vs, hk, g0, g1, g2, g7, g9, g10, g11, hrow, hg, hsk, hq⟩
        refine vcF_sound mixed (tb := tb0) _ (by kernel_rfl) ?_
        simp -dsimp (disch := omega) [g2, g11]
        refine CondF_dec (fun hc => ?_) (fun hc => ?_)
        · have hkl : k < l.length := by omega
          obtain ⟨e, hx⟩ : ∃ e, l[k]? = some e := ⟨l[k], List.getElem?_eq_getElem hkl⟩
          obtain ⟨a', c, b', q2, fa, s1, x1, y1⟩ := sl_el (f := actC) (n := 2) actC_len hv hx
          cases q2
          have hab : a'.block < h.next := hvb _ rfl
          rw [← hs _ hab] at fa
          have eo := hok e (List.mem_of_getElem? hx)
          have es := f2 e (List.mem_of_getElem? hx)
          have x1' : b'.cells.extract (a'.off + k * 2) (a'.off + k * 2 + 2) = #[.int .u8 e.what, .string (txt e.s)] := x1
          clear x1 y1
          obtain ⟨w, s⟩ := e
          simp only at x1' es
          have wlt : w < 256 := eo.1
          obtain ⟨r, hr⟩ : ∃ r, r = w % 8 := ⟨_, rfl⟩
          have e1 : (w : Int) % 8 = r := by omega
          have e2 : Int.tmod (w : Int) 8 = r := by rw [Int.tmod_eq_emod_of_nonneg (by omega)]; exact e1
          obtain ⟨S, hS⟩ : ∃ S, S = txt s := ⟨_, rfl⟩
          have hSs : S.size ≤ 100 := by rw [hS]; exact es
          rw [← hS] at x1'
          obtain ⟨vsa, vsc, rfl⟩ := hrow.slice
          simp -dsimp (disch := omega) [g2, g11, fa, x1', s1, e1, e2]
          obtain ⟨y, hy⟩ : ∃ y, y = sent.length - got := ⟨_, rfl⟩
          have hdl : (sent.drop got).length = y := by rw [List.length_drop]; omega
          have hlen := hq.len
          rw [hdl] at hlen
          have e3 : (sent.length : Int) - got = y := by omega
          have e4 : (y : Int) + (a - y : Nat) = a := by omega
          have hsl : sent.length ≤ 100 := by omega
          have vne : sblk (.slice vsa sent.length vsc) ≠ some h.next := fun e => by have := (hrow.blk _ e).1; omega
          rcases Nat.lt_or_ge r 4 with hr4 | hr4
          · have hr4' : (r : Int) < 4 := by omega
            simp -dsimp (disch := omega) [hr4, hr4', g7]
            refine roomQ (hq.mono (by simp (disch := omega))) ?_
            rw [hdl]
            obtain ⟨z, hz⟩ : ∃ z, z = a - y := ⟨_, rfl⟩
            rw [← hz]
            simp -dsimp (disch := omega) [hr4, hr4', g7, g1]
            refine sendQ (hq.mono (by simp (disch := omega))) (by omega) (fun c1 => ?_) (fun c1 c2 => ?_) (fun c1 c2 b2 q2 => ?_)
            · have c1i : (b : Int) < S.size := by omega
              simp -dsimp (disch := omega) [hr4, hr4', g7, g1, c1, c1i]
              refine waitingQ (hq.mono (by simp (disch := omega))) ?_
              rw [hdl]
              simp -dsimp (disch := omega) [hr4, hr4', g7, g1, g0, g10, g9, g2, g11, c1, c1i, e3, e4]
              refine waitingQ (hq.mono (by simp (disch := omega))) ?_
              rw [hdl]
              simp -dsimp (disch := omega) [hr4, hr4', g7, g1, g0, g10, g9, g2, g11, c1, c1i, e3, e4]
              refine roomQ (hq.mono (by simp (disch := omega))) ?_
              rw [hdl]
              simp -dsimp (disch := omega) [hr4, hr4', g7, g1, g0, g10, g9, g2, g11, c1, c1i, e3, e4]
              refine ⟨⟨by omega, fun i hi => ?_, k + 1, by omega, got, rfl, by simp, sent, hrow.alloc _, hg, by omega, hq.mono (by simp (disch := omega))⟩, by simp [ivN]; omega⟩
              rw [if_neg (by omega)]
              exact hs i hi
            · have c1n : ¬ b < S.size := by omega
              have c1i : ¬ (b : Int) < S.size := by omega
              rw [hdl] at c2
              have hz0 : z = 0 := by omega
              have e7 : (y : Int) = a := by omega
              simp -dsimp (disch := omega) [hr4, hr4', g7, g1, c1n, c1i, hz0]
              refine waitingQ (hq.mono (by simp (disch := omega))) ?_
              rw [hdl]
              simp -dsimp (disch := omega) [hr4, hr4', g7, g1, g0, g10, g9, g2, g11, c1n, c1i, e3, e4, e7]
              refine waitingQ (hq.mono (by simp (disch := omega))) ?_
              rw [hdl]
              simp -dsimp (disch := omega) [hr4, hr4', g7, g1, g0, g10, g9, g2, g11, c1n, c1i, e3, e4, e7]
              refine roomQ (hq.mono (by simp (disch := omega))) ?_
              rw [hdl]
              simp -dsimp (disch := omega) [hr4, hr4', g7, g1, g0, g10, g9, g2, g11, c1n, c1i, e3, e4, e7]
              refine ⟨⟨by omega, fun i hi => ?_, k + 1, by omega, got, rfl, by simp, sent, hrow.alloc _, hg, by omega, hq.mono (by simp (disch := omega))⟩, by simp [ivN]; omega⟩
              rw [if_neg (by omega)]
              exact hs i hi
            · have c1n : ¬ b < S.size := by omega
              have c1i : ¬ (b : Int) < S.size := by omega
              rw [hdl] at c2
              have hz0 : ¬ z = 0 := by omega
              have hz1 : 0 < z := by omega
              have hdl2 : (sent.drop got ++ [S]).length = y + 1 := by rw [List.length_append, hdl]; rfl
              simp -dsimp (disch := omega) [hr4, hr4', g7, g1, g9, c1n, c1i, hz0, hz1]
              refine app_row (((hrow.set _ _ vne).alloc _).alloc _) (by simp; omega) (src_slice _ _ _ _ _ #[.string S] (by simp (disch := omega))) (by omega) (by simp) (by unfold ROOM; omega) ?_
              intro v2 h2 r1 r2 r3 r4
              obtain ⟨va2, vc2, rfl⟩ := r1.slice
              have r2' : h2.next = h'.next + 3 := by rw [r2]; simp
              have hqb : h2.blks h.next = some b2 := by rw [r4 _ (by simp; omega) vne]; simp (disch := omega)
              have e5 : (sent.length : Int) + 1 - got = (y : Int) + 1 := by omega
              have e6 : (y : Int) + 1 + (a - (y + 1) : Nat) = a := by omega
              simp -dsimp (disch := omega) [hr4, hr4', g7, g1]
              refine waitingQ (q2.mono (by rw [hqb]; simp (disch := omega))) ?_
              rw [hdl2]
              simp -dsimp (disch := omega) [hr4, hr4', g7, g1, g0, g10, g9, g2, g11, c1n, c1i, e5, e6]
              refine waitingQ (q2.mono (by rw [hqb]; simp (disch := omega))) ?_
              rw [hdl2]
              simp -dsimp (disch := omega) [hr4, hr4', g7, g1, g0, g10, g9, g2, g11, c1n, c1i, e5, e6]
              refine roomQ (q2.mono (by rw [hqb]; simp (disch := omega))) ?_
              rw [hdl2]
              simp -dsimp (disch := omega) [hr4, hr4', g7, g1, g0, g10, g9, g2, g11, c1n, c1i, e5, e6]
              refine ⟨⟨by omega, fun i hi => ?_, k + 1, by omega, got, rfl, by simp, sent ++ [S], ?_, by simp; omega, by simp; omega, ?_⟩, by simp [ivN]; omega⟩
              · rw [r4 i (by simp; omega) fun e => by have := (hrow.blk _ e).1; omega]
                simp (disch := omega) [hs i hi]
              · rw [strsC_append]; simpa [strsC] using r1
              · rw [List.drop_append_of_le_length hg]
                exact q2.mono (by rw [hqb]; simp (disch := omega))
          · have hr4' : ¬ (r : Int) < 4 := by omega
            have hr4n : ¬ r < 4 := by omega
            rcases Nat.lt_or_ge r 7 with hr7 | hr7
            · have hr7' : (r : Int) < 7 := by omega
              rcases Nat.lt_or_ge got sent.length with hgs | hgs
              · obtain ⟨s0, hs0⟩ : ∃ s0, sent[got]? = some s0 := ⟨sent[got], List.getElem?_eq_getElem hgs⟩
                have hdr : sent.drop got = s0 :: sent.drop (got + 1) := by
                  rw [List.drop_eq_getElem_cons hgs]
                  congr 1
                  rw [List.getElem?_eq_getElem hgs] at hs0
                  exact Option.some.inj hs0
                have hq1 := hq
                rw [hdr] at hq1
                simp -dsimp (disch := omega) [hr4n, hr4', hr7, hr7', g7, e1, e2]
                refine recvQ (hq1.mono (by simp (disch := omega))) fun b2 q2 => ?_
                have hrow' := hrow
                obtain ⟨_, ⟨_, h00⟩ | ⟨vb, v1, v2, ve, v3⟩⟩ := hrow
                · omega
                cases ve
                have y4 : (strsC sent).toArray[got]? = some (.string s0) := by simp [strsC, hs0]
                have hgi : (got : Int) < sent.length := by omega
                have vz : (strsC sent).toArray.size = sent.length := by simp [strsC]
                have hdl2 : (sent.drop (got + 1)).length = y - 1 := by rw [List.length_drop]; omega
                have y5 : got + 1 ≤ (strsC sent).toArray.size := by omega
                generalize (strsC sent).toArray = SC at *
                simp -dsimp (disch := omega) [hr4n, hr4', hr7, hr7', g7, g10, g9, g1, v3, hgi, hgs, y4, y5, -getElem?_pos]
                have e8 : (sent.length : Int) - ((got : Int) + 1) = (y - 1 : Nat) := by omega
                have e9 : ((y - 1 : Nat) : Int) + (a - (y - 1) : Nat) = a := by omega
                refine waitingQ (q2.mono (by simp (disch := omega))) ?_
                rw [hdl2]
                simp -dsimp (disch := omega) [g7, g1, g0, g10, g9, g2, g11, e8, e9]
                refine waitingQ (q2.mono (by simp (disch := omega))) ?_
                rw [hdl2]
                simp -dsimp (disch := omega) [g7, g1, g0, g10, g9, g2, g11, e8, e9]
                refine roomQ (q2.mono (by simp (disch := omega))) ?_
                rw [hdl2]
                simp -dsimp (disch := omega) [g7, g1, g0, g10, g9, g2, g11, e8, e9]
                refine ⟨⟨by omega, fun i hi => ?_, k + 1, by omega, got + 1, by simp, by simp, sent, ?_, by omega, by omega, q2.mono (by simp (disch := omega))⟩, by simp [ivN]; omega⟩
                · simp (disch := omega) [hs i hi]
                · exact (hrow'.set _ _ vne).alloc _
              · obtain rfl : got = sent.length := by omega
                have hq0 : Que h' h.next [] a b := by rw [List.drop_length] at hq; exact hq
                simp -dsimp (disch := omega) [hr4n, hr4', hr7, hr7', g7, e1, e2]
                refine recv0Q (hq0.mono (by simp (disch := omega))) ?_
                simp -dsimp (disch := omega) [hr4n, hr4', hr7, hr7', g7, g10, g9, g1]
                refine waitingQ (hq.mono (by simp (disch := omega))) ?_
                rw [hdl]
                simp -dsimp (disch := omega) [g7, g1, g0, g10, g9, g2, g11, e3, e4]
                refine waitingQ (hq.mono (by simp (disch := omega))) ?_
                rw [hdl]
                simp -dsimp (disch := omega) [g7, g1, g0, g10, g9, g2, g11, e3, e4]
                refine roomQ (hq.mono (by simp (disch := omega))) ?_
                rw [hdl]
                simp -dsimp (disch := omega) [g7, g1, g0, g10, g9, g2, g11, e3, e4]
                refine ⟨⟨by omega, fun i hi => ?_, k + 1, by omega, sent.length, rfl, by simp, sent, hrow.alloc _, hg, by omega, hq.mono (by simp (disch := omega))⟩, by simp [ivN]; omega⟩
                rw [if_neg (by omega)]
                exact hs i hi
            · have hr7' : ¬ (r : Int) < 7 := by omega
              have hr7n : ¬ r < 7 := by omega
              simp -dsimp (disch := omega) [hr4n, hr4', hr7n, hr7', g7, e1, e2]
              refine waitingQ (hq.mono (by simp (disch := omega))) ?_
              rw [hdl]
              simp -dsimp (disch := omega) [g7, g1, g0, g10, g9, e3, e4]
              refine waitingQ (hq.mono (by simp (disch := omega))) ?_
              rw [hdl]
              simp -dsimp (disch := omega) [g7, g1, g0, g10, g9, e3, e4]
              refine roomQ (hq.mono (by simp (disch := omega))) ?_
              rw [hdl]
              simp -dsimp (disch := omega) [g7, g1, g0, g10, g9, g2, g11, e3, e4]
              refine ⟨⟨by omega, fun i hi => ?_, k + 1, by omega, got, rfl, by simp, sent, hrow.alloc _, hg, by omega, hq.mono (by simp (disch := omega))⟩, by simp [ivN]; omega⟩
              rw [if_neg (by omega)]
              exact hs i hi
        · have hkn : k = l.length := by omega
          subst hkn
          simp -dsimp (disch := omega) [g2, g11]
          refine awake_call ?_
          simp -dsimp (disch := omega)
          exact RetF.same hwf (by simp) (Nat.zero_le _) hs hK
  · simp -dsimp (disch := omega)
    refine few_call hok hl hv ?_
    cases hfew : fewL l <;> simp -dsimp (disch := omega)
    · refine awake_call ?_
      simp -dsimp (disch := omega)
      exact RetF.same hwf (by simp) (Nat.zero_le _) (fun _ _ => rfl) hK
    · refine awake_call ?_
      simp -dsimp (disch := omega)
      exact RetF.same hwf (by simp) (Nat.zero_le _) (fun _ _ => rfl) hK
end
end Go.Proofs.Ytggohjlfhomafaa
