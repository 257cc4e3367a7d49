/-
  TlbKnown's body.
-/
import Derived.Test.YtmlpcnpkidmlhaaY9
set_option linter.unusedSimpArgs false
set_option linter.unusedVariables false
set_option linter.unusedSectionVars false
namespace Go.Proofs.Ytmlpcnpkidmlhaa
set_option maxRecDepth 100000
open Go Go.Mini Go.Proofs.Try

def tbK : Nat → Marks := fun k => if k = 2 then ⟨[1, 2, 3, 8, 9, 10, 1000000, 2000004, 2000005, 2000006, 2000007], fun _ => True⟩ else ⟨[], fun _ => True⟩
section
variable {h : Hp} {K : Value → Hp → Prop}
set_option maxHeartbeats 4000000 in
theorem tlbKnown_call (hK : ∀ h', Ext h h' → K (.bool true) h') : ACall prog 5 [] h K := by
  refine acallF_of tbK func5 rfl rfl mixed (by kernel_rfl) fun hwf => ?_
  simp -dsimp (disch := omega)
  refine new_call ?_
  simp -dsimp (disch := omega)
  refine given_call ?_
  simp -dsimp (disch := omega) [tbK]
  refine ⟨?_, ?_, ?_, ?_⟩
  · intro j hj hR
    have hR' : j < h.next + 1 + 1 := by simpa using hR
    simp (disch := omega)
  · intro j hj hR
    have hR' : j < h.next + 1 + 1 := by simpa using hR
    simp (disch := omega)
  · intro j hj hR
    have hR' : j < h.next + 1 + 1 := by simpa using hR
    simp (disch := omega)
  refine ACallF.gen fun G hG => ?_
  try rw [← hG]
  have hGn : G.next = h.next + 6 := by rw [hG]; simp
  have hold : ∀ i, i < h.next → G.blks i = h.blks i := fun i hi => by rw [hG]; simp (disch := omega)
  have g0 : G.blks h.next = some ⟨tlA (.slice none 0 0), 1, true⟩ := by rw [hG]; simp (disch := omega)
  have g1 : G.blks (h.next + 1) = some ⟨entA gE, 1, true⟩ := by rw [hG]; simp (disch := omega) [entA, gE]
  have g2 : G.blks (h.next + 2) = some ⟨entA bigE, 1, true⟩ := by rw [hG]; simp (disch := omega) [entA, bigE]
  have g3 : G.blks (h.next + 3) = some ⟨entA farE, 1, true⟩ := by rw [hG]; simp (disch := omega) [entA, farE]
  have g4 : G.blks (h.next + 4) = some ⟨entA manyE, 1, true⟩ := by rw [hG]; simp (disch := omega) [entA, manyE]
  have g5 : G.blks (h.next + 5) = some ⟨entA lessE, 1, true⟩ := by rw [hG]; simp (disch := omega) [entA, lessE]
  clear hG
  have ex8 : ∀ e, (entA e).extract 0 8 = entA e := fun _ => rfl
  have sz8 : ∀ e, (entA e).size = 8 := fun _ => rfl
  have gE0 : (entA gE)[0]? = some (.int .u64 9223372036854775809) := rfl
  have g2' : G.blks (h.next + 1 + 1) = some ⟨entA bigE, 1, true⟩ := g2
  have g3' : G.blks (h.next + 1 + 1 + 1) = some ⟨entA farE, 1, true⟩ := g3
  have g4' : G.blks (h.next + 1 + 1 + 1 + 1) = some ⟨entA manyE, 1, true⟩ := g4
  have g5' : G.blks (h.next + 1 + 1 + 1 + 1 + 1) = some ⟨entA lessE, 1, true⟩ := g5
  have step : ∀ {X Y : Hp} {ob : Option Nat}, (∀ i, i < G.next → i ≠ h.next → X.blks i = G.blks i) → G.next ≤ X.next → (ob = none ∨ ∃ b, ob = some b ∧ G.next ≤ b) → Ft X Y h.next ob → (∀ i, i < G.next → i ≠ h.next → Y.blks i = G.blks i) := by
    intro X Y ob hs hn ho F i hi h1
    rw [F.same i (by omega) h1 (by rcases ho with rfl | ⟨b, rfl, hb⟩ <;> simp; omega)]
    exact hs i hi h1
  have obn : ∀ {X : Hp} {ob ob' : Option Nat}, G.next ≤ X.next → (ob = none ∨ ∃ b, ob = some b ∧ G.next ≤ b) → (ob' = ob ∨ ∃ b, ob' = some b ∧ X.next ≤ b) → (ob' = none ∨ ∃ b, ob' = some b ∧ G.next ≤ b) := by
    intro X ob ob' hn ho o
    rcases o with rfl | ⟨b, rfl, hb⟩
    · exact ho
    · exact .inr ⟨b, rfl, by omega⟩
  have T0 : Tl G h.next none [] := ⟨⟨_, g0, ⟨.inl ⟨rfl, rfl, rfl⟩⟩⟩, by omega, by simp⟩
  refine works_call fun hW xW => ?_
  have TW := T0.ext xW
  have nW := xW.le
  have sW : ∀ i, i < G.next → i ≠ h.next → hW.blks i = G.blks i := fun i hi _ => xW.same i hi
  have w1 := (sW (h.next + 1) (by omega) (by omega)).trans g1
  have w2 := (sW (h.next + 1 + 1) (by omega) (by omega)).trans g2'
  have w3 := (sW (h.next + 1 + 1 + 1) (by omega) (by omega)).trans g3'
  have w4 := (sW (h.next + 1 + 1 + 1 + 1) (by omega) (by omega)).trans g4'
  have w5 := (sW (h.next + 1 + 1 + 1 + 1 + 1) (by omega) (by omega)).trans g5'
  simp -dsimp (disch := omega) [w2, ex8, sz8]
  refine pa_call (e := bigE) (va := 2105635) (by decide) (by omega) ?_
  rw [big_pa]
  simp -dsimp (disch := omega) [w3, ex8, sz8]
  refine pa_call (e := farE) (va := 2105635) (by decide) (by omega) ?_
  rw [far_pa]
  simp -dsimp (disch := omega) [w4, ex8, sz8]
  refine pa_call (e := manyE) (va := 1) (by decide) (by omega) ?_
  rw [many_pa]
  simp -dsimp (disch := omega) [w3, ex8, sz8]
  refine addBad_call (e := farE) TW (by decide) ?_
  simp -dsimp (disch := omega) [w4, ex8, sz8]
  refine addBad_call (e := manyE) TW (by decide) ?_
  simp -dsimp (disch := omega) [w5, ex8, sz8]
  refine addBad_call (e := lessE) TW (by decide) ?_
  simp -dsimp (disch := omega) [w1, ex8, sz8]
  refine tadd_call (e := gE) TW (by decide) (by simp) fun hA obA TA FA oA => ?_
  rw [g_one] at TA
  have sA := step sW nW (.inl rfl) FA
  have nA : G.next ≤ hA.next := by have := FA.le; omega
  have oA := obn nW (.inl rfl) oA
  have a1 := (sA (h.next + 1) (by omega) (by omega)).trans g1
  simp -dsimp (disch := omega) [a1, sz8, gE0]
  refine tnone_call (va := 2109440) TA (by simp) (by omega) g_none ?_
  simp -dsimp (disch := omega)
  refine tdrop_call (va := 2109440) TA (by simp) (by omega) fun hB TB FB => ?_
  rw [g_keep] at TB ⊢
  have sB := step sA nA oA FB
  have nB : G.next ≤ hB.next := by have := FB.le; omega
  simp -dsimp (disch := omega)
  refine tdrop_call (va := 2105344) TB (by simp) (by omega) fun hC TC FC => ?_
  rw [g_drop] at TC ⊢
  have sC := step sB nB oA FC
  have nC : G.next ≤ hC.next := by have := FC.le; omega
  simp -dsimp (disch := omega)
  refine tflush_call TC (by simp) fun hD TD FD => ?_
  have sD := step sC nC oA FD
  have nD : G.next ≤ hD.next := by have := FD.le; omega
  simp -dsimp (disch := omega)
  refine awp_loop (fun t h' => ∃ k ob, k ≤ 9 ∧ t 1 = ptr h.next ∧ t 2 = ptr (h.next + 1) ∧ t 7 = .int .u64 (k : Nat) ∧ Tl h' h.next ob (vL k) ∧ (∀ i, i < G.next → i ≠ h.next → h'.blks i = G.blks i) ∧ G.next ≤ h'.next ∧ (ob = none ∨ ∃ b, ob = some b ∧ G.next ≤ b)) (fun t _ => 9 - ivN (t 7)) ?_ ?_
  · simp -dsimp (disch := omega)
    exact ⟨0, by omega, rfl, obA, TD, sD, nD, oA⟩
  · rintro t h' ⟨k, ob, hk, t1, t2, t7, T, hs, hn, ho⟩
    refine vcF_sound mixed (tb := tbK) _ (by kernel_rfl) ?_
    by_cases hc : k < 9
    · have hc' : (k : Int) < 9 := by omega
      simp -dsimp (disch := omega) [t1, t2, t7, hc, hc']
      refine tadd_call (e := vE k) T rfl (vL_len k (by omega)) fun hA2 ob2 T2 F2 o2 => ?_
      have n2 := F2.le
      simp -dsimp (disch := omega) [t1, t2, t7]
      exact ⟨⟨k + 1, by omega, by simp, ob2, T2, step hs hn ho F2, by omega, obn hn ho o2⟩, by simp [ivN]; omega⟩
    · have hk9 : k = 9 := by omega
      subst hk9
      have T : Tl h' h.next ob l1 := T
      simp -dsimp (disch := omega) [t1, t2, t7]
      have hne1 : l1 ≠ [] := fun e => by have := l1_len; rw [e] at this; cases this
      have len1 : l1.length < 900000 := by rw [l1_len]; omega
      refine tnone_call (va := 0) T len1 (by omega) l1_none ?_
      simp -dsimp (disch := omega) [t1, t2, t7]
      refine tfinds_call (e := vE 1) T len1 (by decide) l1_find ?_
      simp -dsimp (disch := omega) [t1, t2, t7]
      refine tall_call T (.inr hne1) len1 fun hA1 ob1 v1 s1 x1 m1 => ?_
      obtain ⟨a1, c1, rfl⟩ := s1.slice
      rw [l1_len]
      have TA := T.ext x1
      simp -dsimp (disch := omega) [t1, t2, t7]
      refine tall_call TA (.inr hne1) len1 fun hA2 ob2 v2 s2 x2 m2 => ?_
      rcases s2.ex with ⟨_, _, hnil⟩ | ⟨b2, n2, rfl, rfl, L2, _⟩
      · exact absurd hnil hne1
      obtain ⟨R2, _, hb2⟩ := L2.ex
      have hc2 : (entsC (l1 ++ R2)).toArray[1]? = some (.int .u64 1) := (ents_cell (k := 0) (j := 1) l1_0 (by omega) R2).trans rfl
      have hz2 : 8 ≤ (entsC (l1 ++ R2)).toArray.size := by rw [List.size_toArray, entsC_length, List.length_append, l1_len]; omega
      obtain ⟨X2, hX2⟩ : ∃ X, X = (entsC (l1 ++ R2)).toArray := ⟨_, rfl⟩
      rw [← hX2] at hb2 hc2 hz2
      rw [l1_len]
      have TA2 := TA.ext x2
      clear hz2
      simp -dsimp (disch := omega) [t1, t2, t7, hb2, hc2]
      refine twrote_call (a := 0) (n := 8) TA2 len1 (by omega) (by omega) (by omega) l1_fine fun hB1 TB FB => ?_
      rw [show (l1.filter fun e => !anyR e.rd.toNat 0 (min 8 4096) e) = l1 from l1w_eq] at TB ⊢
      rw [Nat.sub_self]
      have xA := x1.trans x2
      have s2' : ∀ i, i < G.next → i ≠ h.next → hA2.blks i = G.blks i := fun i hi h1 => (xA.same i (by omega)).trans (hs i hi h1)
      have n2' : G.next ≤ hA2.next := by have := xA.le; omega
      have sB := step s2' n2' ho FB
      have nB : G.next ≤ hB1.next := by have := FB.le; omega
      simp -dsimp (disch := omega) [t1, t2, t7]
      refine tadd_call (e := wE) TB rfl (by rw [l1_len]; omega) fun hC1 obC TC FC oC => ?_
      have TC : Tl hC1 h.next obC l2 := TC
      have sC := step sB nB ho FC
      have nC : G.next ≤ hC1.next := by have := FC.le; omega
      have oC := obn nB ho oC
      simp -dsimp (disch := omega) [t1, t2, t7]
      have hne2 : l2 ≠ [] := fun e => by have := l2_len; rw [e] at this; cases this
      have len2 : l2.length < 900000 := by rw [l2_len]; omega
      refine tall_call TC (.inr hne2) len2 fun hD1 obD v3 s3 x3 m3 => ?_
      rcases s3.ex with ⟨_, _, hnil⟩ | ⟨b3, n3, rfl, rfl, L3, _⟩
      · exact absurd hnil hne2
      obtain ⟨R3, _, hb3⟩ := L3.ex
      have hc3 : (entsC (l2 ++ R3)).toArray[58]? = some (.int .u64 7) := (ents_cell (k := 7) (j := 2) l2_7 (by omega) R3).trans rfl
      obtain ⟨X3, hX3⟩ : ∃ X, X = (entsC (l2 ++ R3)).toArray := ⟨_, rfl⟩
      rw [← hX3] at hb3 hc3
      rw [l2_len]
      have TD := TC.ext x3
      simp -dsimp (disch := omega) [t1, t2, t7, hb3, hc3]
      refine tall_call TD (.inr hne2) len2 fun hE1 obE v4 s4 x4 m4 => ?_
      obtain ⟨a4, c4, rfl⟩ := s4.slice
      rw [l2_len]
      have TE := TD.ext x4
      simp -dsimp (disch := omega) [t1, t2, t7]
      have xC : Ext hC1 hE1 := x3.trans x4
      have nE : G.next ≤ hE1.next := by have := xC.le; omega
      have sE : ∀ i, i < G.next → i ≠ h.next → hE1.blks i = G.blks i := fun i hi h1 => (xC.same i (by omega)).trans (sC i hi h1)
      have bE := TE.bl
      refine tcopy_call TE (.inr hne2) len2 fun hF tpu obu U xF lU mU => ?_
      have nF := xF.le
      have bU := U.bl
      have lU2 := U.lt
      obtain ⟨X0, hX0⟩ : ∃ X0, X0 = hF.alloc ⟨entA endE, 1, true⟩ := ⟨_, rfl⟩
      have n0 : X0.next = hF.next + 1 := by rw [hX0]; rfl
      have x0 : Ext hF X0 := by rw [hX0]; exact Ext.alloc _ _
      have U0 := U.ext x0
      have T0' : Tl X0 h.next obC l2 := (TE.ext xF).ext x0
      have e0 : X0.blks hF.next = some ⟨entA endE, 1, true⟩ := by rw [hX0]; exact blks_alloc_eq _ _
      have s0 : ∀ i, i < G.next → i ≠ h.next → X0.blks i = G.blks i := fun i hi h1 => ((xF.trans x0).same i (by omega)).trans (sE i hi h1)
      have stepM : ∀ {X Y : Hp} {ob : Option Nat}, (∀ i, hE1.next ≤ i → i < X0.next → X.blks i = X0.blks i) → X0.next ≤ X.next → (∀ b, ob = some b → b < hE1.next ∨ X0.next ≤ b) → Ft X Y h.next ob → (∀ i, hE1.next ≤ i → i < X0.next → Y.blks i = X0.blks i) := by
        intro X Y ob hk hn' ho' F i i1 i2
        rw [F.same i (by omega) (by omega) (fun q => by have := ho' i q; omega)]
        exact hk i i1 i2
      have obM : ∀ {X : Hp} {ob ob' : Option Nat}, X0.next ≤ X.next → (∀ b, ob = some b → b < hE1.next ∨ X0.next ≤ b) → (ob' = ob ∨ ∃ b, ob' = some b ∧ X.next ≤ b) → (∀ b, ob' = some b → b < hE1.next ∨ X0.next ≤ b) := by
        intro X ob ob' hn' ho' o b hb
        rcases o with rfl | ⟨b', rfl, hb'⟩
        · exact ho' b hb
        · cases hb; exact .inr (by omega)
      have ob0 : ∀ b, obC = some b → b < hE1.next ∨ X0.next ≤ b := fun b q => .inl (bE b q)
      have hA8 : entA endE = #[.int .u64 0, .int .u64 0, .int .u64 0, .int .i64 0, .int .u64 18446744073709551608, .int .u64 0, .int .u64 0, .int .i64 1] := rfl
      simp -dsimp (disch := omega) [t1, t2, t7]
      rw [← hA8, ← hX0]
      refine tadd_call (e := endE) T0' rfl (by rw [l2_len]; omega) fun hG1 obG TG FG oG => ?_
      have TG : Tl hG1 h.next obG l3 := TG
      have m0 : ∀ i, hE1.next ≤ i → i < X0.next → X0.blks i = X0.blks i := fun _ _ _ => rfl
      have n0G : G.next ≤ X0.next := by omega
      have n0M : X0.next ≤ X0.next := Nat.le_refl _
      have sG := step s0 n0G oC FG
      have mG := stepM m0 n0M ob0 FG
      have nGG : G.next ≤ hG1.next := by have := FG.le; omega
      have nGM : X0.next ≤ hG1.next := by have := FG.le; omega
      have obGM := obM n0M ob0 oG
      have oG2 := obn n0G oC oG
      have len3 : l3.length < 900000 := by rw [l3_len]; omega
      simp -dsimp (disch := omega) [t1, t2, t7]
      refine twrote_call (a := 18446744073709551600) (n := 8) TG len3 (by omega) (by omega) (by omega) l3_fine fun hH TH FH => ?_
      rw [show (l3.filter fun e => !anyR e.rd.toNat 18446744073709551600 (min 8 4096) e) = l3 from l4_eq] at TH ⊢
      rw [Nat.sub_self]
      have sH := step sG nGG oG2 FH
      have mH := stepM mG nGM obGM FH
      have nHG : G.next ≤ hH.next := by have := FH.le; omega
      have nHM : X0.next ≤ hH.next := by have := FH.le; omega
      simp -dsimp (disch := omega) [t1, t2, t7]
      refine twrote_call (a := 18446744073709551615) (n := 1) TH len3 (by omega) (by omega) (by omega) l3_fine fun hI TI FI => ?_
      rw [show (l3.filter fun e => !anyR e.rd.toNat 18446744073709551615 (min 1 4096) e) = l5 from by unfold l5; rw [l4_eq]; rfl] at TI ⊢
      rw [l3_len, l5_len]
      have sI := step sH nHG oG2 FI
      have mI := stepM mH nHM obGM FI
      have nIG : G.next ≤ hI.next := by have := FI.le; omega
      have nIM : X0.next ≤ hI.next := by have := FI.le; omega
      have eI := (mI hF.next (by omega) (by omega)).trans e0
      simp -dsimp (disch := omega) [t1, t2, t7, eI, ex8, sz8]
      refine tadd_call (e := endE) TI rfl (by rw [l5_len]; omega) fun hJ obJ TJ FJ oJ => ?_
      have TJ : Tl hJ h.next obJ l6 := TJ
      have sJ := step sI nIG oG2 FJ
      have mJ := stepM mI nIM obGM FJ
      have nJG : G.next ≤ hJ.next := by have := FJ.le; omega
      have nJM : X0.next ≤ hJ.next := by have := FJ.le; omega
      have obJM := obM nIM obGM oJ
      have oJ2 := obn nIG oG2 oJ
      have len6 : l6.length < 900000 := by rw [l6_len]; omega
      simp -dsimp (disch := omega) [t1, t2, t7]
      refine twrote_call (a := 18446744073709551596) (n := 18446744073709551615) TJ len6 (by omega) (by omega) (by omega) l6_fine fun hM TM FM => ?_
      rw [show (l6.filter fun e => !anyR e.rd.toNat 18446744073709551596 (min 18446744073709551615 4096) e) = l7 from rfl] at TM ⊢
      rw [l6_len, l7_len]
      have sM := step sJ nJG oJ2 FM
      have mM := stepM mJ nJM obJM FM
      have nMG : G.next ≤ hM.next := by have := FM.le; omega
      have nMM : X0.next ≤ hM.next := by have := FM.le; omega
      have UM : Tl hM tpu obu l2 := U0.mono nMM (mM tpu (by omega) (by omega)) fun b hb => mM b (mU b hb) (by have := bU b hb; omega)
      obtain ⟨Y0, hY0⟩ : ∃ Y0, Y0 = hM.alloc ⟨#[.bool false, .slice none 0 0], 1, true⟩ := ⟨_, rfl⟩
      have xY : Ext hM Y0 := by rw [hY0]; exact Ext.alloc _ _
      have nY : Y0.next = hM.next + 1 := by rw [hY0]; rfl
      have TY := TM.ext xY
      have UY := UM.ext xY
      have zY : Y0.blks hM.next = some ⟨#[.bool false, .slice none 0 0], 1, true⟩ := by rw [hY0]; exact blks_alloc_eq _ _
      have bTM := TM.bl
      simp -dsimp (disch := omega) [t1, t2, t7]
      rw [← hY0]
      refine tflush_call UY (by rw [l2_len]; omega) fun hN TN FN => ?_
      rw [l2_len]
      have nN := FN.le
      have TNt : Tl hN h.next obJ l7 := TY.mono nN (FN.same _ (by omega) (by omega) (fun q => by have := mU _ q; omega)) fun b hb => FN.same b (by have := bTM b hb; omega) (fun q => by have := obJM b hb; omega) (fun q => by have := obJM b hb; have := mU _ q; have := bU _ q; omega)
      have zN : NoT hN (ptr hM.next) := .inr ⟨_, rfl, (FN.same _ (by omega) (by omega) (fun q => by have := bU _ q; omega)).trans zY, by omega⟩
      have zP : NoT hN (.pointer none) := .inl rfl
      have eN := (FN.same (h.next + 1) (by omega) (by omega) (fun q => by have := mU _ q; omega)).trans ((xY.same _ (by omega)).trans ((sM (h.next + 1) (by omega) (by omega)).trans g1))
      have oldN : ∀ i, i < h.next → hN.blks i = h.blks i := fun i hi => by
        rw [FN.same i (by omega) (by omega) (fun q => by have := mU _ q; omega), xY.same i (by omega), sM i (by omega) (by omega)]
        exact hold i hi
      have hne7 : l7 ≠ [] := fun e => by have := l7_len; rw [e] at this; cases this
      simp -dsimp (disch := omega) [t1, t2, t7]
      refine tall_call TNt (.inr hne7) (by rw [l7_len]; omega) fun hP obP vP sP xP mP => ?_
      obtain ⟨aP, cP, rfl⟩ := sP.slice
      rw [l7_len]
      have nP := xP.le
      have eP := (xP.same _ (by omega)).trans eN
      have zNP := zN.ext xP
      have zPP := zP.ext xP
      simp -dsimp (disch := omega) [t1, t2, t7, eP, ex8, sz8]
      refine addNo_call zPP ?_
      simp -dsimp (disch := omega) [t1, t2, t7, eP, ex8, sz8]
      refine addNo_call zNP ?_
      simp -dsimp (disch := omega) [t1, t2, t7]
      refine noneNo_call (sa := 0) (va := 0) zPP ?_
      simp -dsimp (disch := omega) [t1, t2, t7]
      refine wroteNo_call zNP ?_
      simp -dsimp (disch := omega) [t1, t2, t7]
      refine dropNo_call (va := 0) zPP ?_
      simp -dsimp (disch := omega) [t1, t2, t7]
      refine flushNo_call zNP ?_
      simp -dsimp (disch := omega) [t1, t2, t7]
      refine allNo_call zPP ?_
      simp -dsimp (disch := omega) [t1, t2, t7]
      refine copyNo_call zNP ?_
      simp -dsimp (disch := omega) [t1, t2, t7]
      refine works_call fun hQ xQ => ?_
      simp -dsimp (disch := omega) [t1, t2, t7]
      exact RetF.all (by simp) (hK hQ ⟨by have := xQ.le; omega, fun i hi => by rw [xQ.same i (by omega), xP.same i (by omega)]; exact oldN i hi⟩)
end
end Go.Proofs.Ytmlpcnpkidmlhaa
