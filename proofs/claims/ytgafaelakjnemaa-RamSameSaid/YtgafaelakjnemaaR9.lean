/-
  RamSame.
-/
import Derived.Test.YtgafaelakjnemaaR7
set_option linter.unusedSimpArgs false
set_option linter.unusedVariables false
namespace Go.Proofs.Ytgafaelakjnemaa
open Go Go.Mini Go.Proofs.Try

section
variable {h0 h : Hp} {p b N C : Nat} {M : Nat → Nat} {a : Nat} {w : Int} {r : Nat} {v : Value} {L : By} {a' : Nat} {w' : Int} {p2 b2 N2 C2 : Nat} {M2 : Nat → Nat} {a2 : Nat} {w2 : Int} {r2 : Nat} {v2 : Value} {L2 : By} {a2' : Nat} {w2' : Int}
def Dis (p b r : Nat) (v : Value) (p2 b2 r2 : Nat) (v2 : Value) : Prop := ∀ i, nm p b r v i → ¬ nm p2 b2 r2 v2 i
theorem Dis.symm (d : Dis p b r v p2 b2 r2 v2) : Dis p2 b2 r2 v2 p b r v := fun i h1 h2 => d i h2 h1
theorem Bt.nm_ge (t : Bt h0 h p b N C M a w r v L a' w') : ∀ i, nm p b r v i → h0.next ≤ i ∧ i < h.next := fun i hi => by
  rcases hi with rfl | rfl | rfl | hi
  · exact ⟨t.own.pn, t.own.ram.plt⟩
  · exact ⟨t.own.bn, t.own.ram.blt⟩
  · exact ⟨t.rf.mr, t.rf.rlt⟩
  · exact t.rf.row.blk i hi
theorem Bt.other {h' : Hp} (t2 : Bt h0 h p2 b2 N2 C2 M2 a2 w2 r2 v2 L2 a2' w2') (t : Bt h0 h p b N C M a w r v L a' w') (d : Dis p b r v p2 b2 r2 v2) (f : Fr h h' (nm p b r v)) : Bt h0 h' p2 b2 N2 C2 M2 a2 w2 r2 v2 L2 a2' w2' :=
  t2.mono ⟨f.le, fun i hi hn => f.same i hi fun h1 => hn ⟨d i h1, (t.nm_ge i h1).1⟩⟩
theorem Dis.step {v' : Value} (d : Dis p b r v p2 b2 r2 v2) (t2 : Bt h0 h p2 b2 N2 C2 M2 a2 w2 r2 v2 L2 a2' w2') (vc : VCh h v v') : Dis p b r v' p2 b2 r2 v2 := fun i h1 h2 => by
  rcases h1 with h1 | h1 | h1 | h1
  · exact d i (.inl h1) h2
  · exact d i (.inr (.inl h1)) h2
  · exact d i (.inr (.inr (.inl h1))) h2
  · rcases vc i h1 with h3 | h3
    · exact d i (.inr (.inr (.inr h3))) h2
    · have := (t2.nm_ge i h2).2; omega
end

theorem lt63 {a b : Nat} (h : a = b) (h2 : b ≤ maxLen) : a < 9223372036854775808 := by
  have : maxLen < 9223372036854775808 := by decide
  omega
set_option maxRecDepth 100000 in
set_option maxHeartbeats 4000000 in
theorem ramSame_call {h : Hp} {K : Value → Hp → Prop} {c1 c2 : Nat} {l1 l2 : List Act} {v1 v2 : Value} (hc1 : c1 < 256) (hc2 : c2 < 256) (hok1 : ∀ e ∈ l1, e.ok) (hl1 : l1.length < 9223372036854775808) (hv1 : Sl h 5 l1.length (actsC l1) v1) (hok2 : ∀ e ∈ l2, e.ok) (hl2 : l2.length < 9223372036854775808) (hv2 : Sl h 5 l2.length (actsC l2) v2) (hK : ∀ h', (∀ i, i < h.next → h'.blks i = h.blks i) → K (.bool true) h') : ACall prog 5 [v1, v2, .agg #[.int .u8 c1, .int .u8 c2]] h K := by
  refine acallF_of tb0 func5 rfl rfl mixed (by kernel_rfl) fun hwf => ?_
  have hvb1 := sblk_lt (hwf.args v1 (by simp))
  have hvb2 := sblk_lt (hwf.args v2 (by simp))
  obtain ⟨va1, vc1, rfl⟩ := hv1.slice
  obtain ⟨va2, vc2, rfl⟩ := hv2.slice
  obtain ⟨n1, hn1⟩ : ∃ n1 : Nat, n1 = 1 + c1 % 2 := ⟨_, rfl⟩
  obtain ⟨n2, hn2⟩ : ∃ n2 : Nat, n2 = 1 + c2 % 2 := ⟨_, rfl⟩
  have hn1' : (1 : Int) + c1 % 2 = n1 := by omega
  have hn2' : (1 : Int) + c2 % 2 = n2 := by omega
  obtain ⟨H, hH⟩ : ∃ H, H = h.alloc ⟨#[.int .u8 c1, .int .u8 c2], 1, true⟩ := ⟨_, rfl⟩
  have eH : Ext h H := by rw [hH]; exact Ext.alloc _ _
  have hB : H.blks h.next = some ⟨#[.int .u8 c1, .int .u8 c2], 1, true⟩ := by rw [hH]; exact blks_alloc_eq _ _
  simp -dsimp (disch := omega) [hn1', hn2', ← hH, hB]
  refine own_new (by omega) (by omega) fun h1 p1 b1 o1 => ?_
  have o1 := o1.low eH
  simp -dsimp (disch := omega)
  refine own_new (by omega) (by omega) fun h2 p2 b2 o2 => ?_
  have o1' := o1.ext' o2.ext
  simp -dsimp (disch := omega)
  refine rfNew_call (by omega) fun h3 r1 e3 rn1 q1 => ?_
  simp -dsimp (disch := omega)
  refine rfNew_call (by omega) fun h4 r2 e4 rn2 q2 => ?_
  obtain ⟨N1, hN1⟩ : ∃ N, N = n1 * 4096 := ⟨_, rfl⟩
  obtain ⟨N2, hN2⟩ : ∃ N, N = n2 * 4096 := ⟨_, rfl⟩
  rw [← hN1] at o1 o1' q1
  rw [← hN2] at o2 q2
  have T1 : Bt h h4 p1 b1 N1 N1 (fun _ => 0) 0 0 r1 (.slice none 0 0) [] 0 0 := by
    have := o1'.ram.plt
    have := o1'.ram.blt
    exact ⟨(o1'.ext' e3).ext' e4, (q1.low o1'.ext.le).mono e4.le (e4.same _ q1.rlt) (by simp [sblk]), by omega, by omega, by simp [sblk], by simp [sblk]⟩
  have T2 : Bt h h4 p2 b2 N2 N2 (fun _ => 0) 0 0 r2 (.slice none 0 0) [] 0 0 := by
    have := o2.ram.plt
    have := o2.ram.blt
    have := e3.le
    exact ⟨((o2.low o1.ext).ext' e3).ext' e4, q2.low ((o1'.ext.trans e3).le), by omega, by omega, by simp [sblk], by simp [sblk]⟩
  have D : Dis p1 b1 r1 (.slice none 0 0) p2 b2 r2 (.slice none 0 0) := by
    have x1 := o1.ram.plt
    have x2 := o1.ram.blt
    have x3 := o2.pn
    have x4 := o2.bn
    have x5 := o2.ram.plt
    have x6 := o2.ram.blt
    have x7 := q1.rlt
    have x8 := e3.le
    have x9 := o2.ext.le
    rintro i (rfl | rfl | rfl | h1) (h2 | h2 | h2 | h2)
    all_goals first | omega | (simp [sblk] at *; done)
  have G1 : Ag N1 (fun _ => 0) 0 0 [] 0 0 := ⟨fun _ _ => rfl, rfl, fun h => absurd rfl h, fun _ => rfl⟩
  have G2 : Ag N2 (fun _ => 0) 0 0 [] 0 0 := ⟨fun _ _ => rfl, rfl, fun h => absurd rfl h, fun _ => rfl⟩
  clear o1 o2 o1' q1 q2 hB
  simp -dsimp (disch := omega)
  refine few_call hok1 hl1 (hv1.mono fun b hb => T1.own.ext.same b (hvb1 b hb)) ?_
  by_cases hf1 : fewL l1 = true
  · rw [hf1]
    simp -dsimp (disch := omega)
    refine few_call hok2 hl2 (hv2.mono fun b hb => T1.own.ext.same b (hvb2 b hb)) ?_
    by_cases hf2 : fewL l2 = true
    · rw [hf2]
      simp -dsimp (disch := omega)
      obtain ⟨x1, y1⟩ := few_of hf1
      obtain ⟨x2, y2⟩ := few_of hf2
      obtain ⟨k1, hk1⟩ : ∃ k, k = l1.length := ⟨_, rfl⟩
      rw [← hk1] at x1
      refine awp_loop (fun t h' => ∃ (k : Nat) (M : Nat → Nat) (a : Nat) (w : Int) (v : Value) (L : By) (a' : Nat) (w' : Int), k ≤ k1 ∧ Bt h h' p1 b1 N1 N1 M a w r1 v L a' w' ∧ Bt h h' p2 b2 N2 N2 (fun _ => 0) 0 0 r2 (.slice none 0 0) [] 0 0 ∧ Dis p1 b1 r1 v p2 b2 r2 (.slice none 0 0) ∧ Ag N1 M a w L a' w' ∧ (w = 0 ∨ w = 4 ∨ w = 8) ∧ L.length ≤ 100 * k ∧ t 0 = .slice va1 l1.length vc1 ∧ t 1 = .slice va2 l2.length vc2 ∧ t 9 = ptr p1 ∧ t 10 = ptr p2 ∧ t 11 = ptr r1 ∧ t 12 = ptr r2 ∧ t 13 = .int .i64 k) (fun t _ => k1 - ivN (t 13)) ?_ ?_
      · simp -dsimp (disch := omega) []
        exact ⟨0, by omega, fun _ => 0, 0, 0, .slice none 0 0, [], 0, 0, T1, T2, D, G1, .inl rfl, by simp, rfl⟩
      · clear T1 T2 D
        rintro t h' ⟨k, M, a, w, v, L, a', w', hk, T1, T2, D, g, hw, hL, g0, g1, g9, g10, g11, g12, gt⟩
        refine vcF_sound mixed (tb := tb0) _ (by kernel_rfl) ?_
        by_cases hc1 : k < k1
        · have hkl : k < l1.length := hk1 ▸ hc1
          obtain ⟨e, hx⟩ : ∃ e, l1[k]? = some e := ⟨l1[k], List.getElem?_eq_getElem hkl⟩
          obtain ⟨a4, c4, b4, q1, f1, s1, x1', y1'⟩ := sl_el (f := actC) (n := 5) actC_len (hv1.mono fun b hb => T1.own.ext.same b (hvb1 b hb)) hx
          cases q1
          obtain ⟨o1, o2, o3, o4, o5⟩ := hok1 e (List.mem_of_getElem? hx)
          have o6 := y1 e (List.mem_of_getElem? hx)
          obtain ⟨ew, ex, ev, en, es⟩ := e
          simp only at o1 o2 o3 o4 o5 o6
          have z1 : b4.cells.extract (a4.off + k * 5) (a4.off + k * 5 + 5) = #[.int .u8 ew, .int .u64 ex, .int .u64 ev, .int .i64 en, .string (txt es)] := x1'
          clear x1' y1'
          simp -dsimp (disch := omega) [g0, g1, g9, g10, g11, g12, gt, hc1, hkl, f1, s1, z1, -getElem?_pos]
          refine one_call T1 g hw (by omega) o1 o2 o3 o6 fun h5 M2 a2 w2 v2 L2 a3 w3 T G hw2 fr vc2 hln => ?_
          simp -dsimp (disch := omega) [g0, g1, g9, g10, g11, g12, gt]
          refine ⟨⟨k + 1, by omega, M2, a2, w2, v2, L2, a3, w3, T, T2.other T1 D fr, D.step T2 vc2, G, hw2, by omega, by simp⟩, by simp [ivN]; omega⟩
        · have hkl : ¬ k < l1.length := hk1 ▸ hc1
          simp -dsimp (disch := omega) [g0, g1, g9, g10, g11, g12, gt, hc1, hkl]
          have ga := g
          have hwa := hw
          have hLa := hL
          generalize hMa : M = Ma at *
          generalize haa : a = aa at *
          generalize hwa' : w = wa at *
          generalize hva : v = va at *
          generalize hLa' : L = La at *
          generalize haa' : a' = aa' at *
          generalize hwa'' : w' = wa' at *
          clear hMa haa hwa' hva hLa' haa' hwa''
          obtain ⟨k2, hk2⟩ : ∃ k, k = l2.length := ⟨_, rfl⟩
          rw [← hk2] at x2
          refine awp_loop (fun t h' => ∃ (k : Nat) (M : Nat → Nat) (a : Nat) (w : Int) (v : Value) (L : By) (a' : Nat) (w' : Int), k ≤ k2 ∧ Bt h h' p2 b2 N2 N2 M a w r2 v L a' w' ∧ Bt h h' p1 b1 N1 N1 Ma aa wa r1 va La aa' wa' ∧ Dis p2 b2 r2 v p1 b1 r1 va ∧ Ag N2 M a w L a' w' ∧ (w = 0 ∨ w = 4 ∨ w = 8) ∧ L.length ≤ 100 * k ∧ t 0 = .slice va1 l1.length vc1 ∧ t 1 = .slice va2 l2.length vc2 ∧ t 9 = ptr p1 ∧ t 10 = ptr p2 ∧ t 11 = ptr r1 ∧ t 12 = ptr r2 ∧ t 14 = .int .i64 k) (fun t _ => k2 - ivN (t 14)) ?_ ?_
          · simp -dsimp (disch := omega) [g0, g1, g9, g10, g11, g12]
            exact ⟨0, by omega, fun _ => 0, 0, 0, .slice none 0 0, [], 0, 0, T2, T1, D.symm, G2, .inl rfl, by simp, rfl⟩
          · clear T1 T2 D g0 g1 g9 g10 g11 g12 gt
            rintro t h' ⟨k, M, a, w, v, L, a', w', hk, T1, T2, D, g, hw, hL, g0, g1, g9, g10, g11, g12, gt⟩
            refine vcF_sound mixed (tb := tb0) _ (by kernel_rfl) ?_
            by_cases hc1 : k < k2
            · have hkl : k < l2.length := hk2 ▸ hc1
              obtain ⟨e, hx⟩ : ∃ e, l2[k]? = some e := ⟨l2[k], List.getElem?_eq_getElem hkl⟩
              obtain ⟨a4, c4, b4, q1, f1, s1, x1', y1'⟩ := sl_el (f := actC) (n := 5) actC_len (hv2.mono fun b hb => T1.own.ext.same b (hvb2 b hb)) hx
              cases q1
              obtain ⟨o1, o2, o3, o4, o5⟩ := hok2 e (List.mem_of_getElem? hx)
              have o6 := y2 e (List.mem_of_getElem? hx)
              obtain ⟨ew, ex, ev, en, es⟩ := e
              simp only at o1 o2 o3 o4 o5 o6
              have z1 : b4.cells.extract (a4.off + k * 5) (a4.off + k * 5 + 5) = #[.int .u8 ew, .int .u64 ex, .int .u64 ev, .int .i64 en, .string (txt es)] := x1'
              clear x1' y1'
              simp -dsimp (disch := omega) [g0, g1, g9, g10, g11, g12, gt, hc1, hkl, f1, s1, z1, -getElem?_pos]
              refine one_call T1 g hw (by omega) o1 o2 o3 o6 fun h5 M2 a2 w2 v2 L2 a3 w3 T G hw2 fr vc2 hln => ?_
              simp -dsimp (disch := omega) [g0, g1, g9, g10, g11, g12, gt]
              refine ⟨⟨k + 1, by omega, M2, a2, w2, v2, L2, a3, w3, T, T2.other T1 D fr, D.step T2 vc2, G, hw2, by omega, by simp⟩, by simp [ivN]; omega⟩
            · have hkl : ¬ k < l2.length := hk2 ▸ hc1
              simp -dsimp (disch := omega) [g0, g1, g9, g10, g11, g12, gt, hc1, hkl]
              have u1 := T2.rf.uq
              have u2 := T1.rf.uq
              have hsame := Ag.same ga g T2.own.ram.M8 T1.own.ram.M8 T2.rf.uq T1.rf.uq (fun e he => (T2.rf.ok e he).1) (fun e he => (T1.rf.ok e he).1)
              refine same_call T2.own.ram T1.own.ram ?_
              simp -dsimp (disch := omega) [g0, g1, g9, g10, g11, g12]
              refine rfSame_call T2.rf T1.rf (by omega) (by omega) ?_
              rw [← hsame]
              simp -dsimp (disch := omega) [g0, g1, g9, g10, g11, g12]
              refine copy_call T2.own.ram fun h6 p6 b6 C6 o6 => ?_
              have R2 := (T2.own.ext' o6.ext).ram
              have R1 := (T1.own.ext' o6.ext).ram
              simp -dsimp (disch := omega) [g0, g1, g9, g10, g11, g12]
              refine same_call R2 o6.ram ?_
              rw [decide_eq_true (p := all Ma N1 = all Ma N1 ∧ aa = aa ∧ wa = wa) ⟨rfl, rfl, rfl⟩]
              simp -dsimp (disch := omega) [g0, g1, g9, g10, g11, g12]
              refine same_call R1 R2 ?_
              simp -dsimp (disch := omega) [g0, g1, g9, g10, g11, g12]
              refine same_call R2 R1 ?_
              have hsym : decide (all M N2 = all Ma N1 ∧ a = aa ∧ w = wa) = decide (all Ma N1 = all M N2 ∧ aa = a ∧ wa = w) := by
                rw [decide_eq_decide]
                exact ⟨fun ⟨q1, q2, q3⟩ => ⟨q1.symm, q2.symm, q3.symm⟩, fun ⟨q1, q2, q3⟩ => ⟨q1.symm, q2.symm, q3.symm⟩⟩
              rw [hsym]
              simp -dsimp (disch := omega) [g0, g1, g9, g10, g11, g12]
              refine works_call fun h7 e7 => ?_
              simp -dsimp (disch := omega)
              exact RetF.all (by simp) (hK _ ((T1.own.ext.trans o6.ext).trans e7).same)
    · rw [Bool.not_eq_true] at hf2
      rw [hf2]
      simp -dsimp (disch := omega)
      refine works_call fun h5 e5 => ?_
      simp -dsimp (disch := omega)
      exact RetF.all (by simp) (hK _ (T1.own.ext.trans e5).same)
  · rw [Bool.not_eq_true] at hf1
    rw [hf1]
    simp -dsimp (disch := omega)
    refine works_call fun h5 e5 => ?_
    simp -dsimp (disch := omega)
    exact RetF.all (by simp) (hK _ (T1.own.ext.trans e5).same)
end Go.Proofs.Ytgafaelakjnemaa
