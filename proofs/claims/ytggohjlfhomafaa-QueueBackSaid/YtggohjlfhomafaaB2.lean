/-
  Load of Dump is the same queue, and goes on the same: the law's body.
-/
import Derived.Test.YtggohjlfhomafaaB1
set_option linter.unusedSimpArgs false
set_option linter.unusedVariables false
set_option linter.unusedSectionVars false
namespace Go.Proofs.Ytggohjlfhomafaa
open Go Go.Mini Go.Proofs.Try

theorem dump_len {M : List ByteArray} (h64 : ∀ s ∈ M, s.size ≤ 64) : (dumpOf M).length ≤ 1 + 65 * M.length := by
  have : ∀ M : List ByteArray, (∀ s ∈ M, s.size ≤ 64) → (M.flatMap tell).length ≤ 65 * M.length := by
    intro M
    induction M with
    | nil => intro _; simp
    | cons s M ih =>
      intro h
      have h1 := h s (by simp)
      have ih := ih fun x hx => h x (by simp [hx])
      have e : s.data.toList.length = s.size := rfl
      rw [List.flatMap_cons, List.length_append, tell, List.length_append, digs_length, e, List.length_cons]
      omega
  unfold dumpOf
  rw [List.length_append, digs_length]
  have := this M h64
  omega
theorem loadF_err {d o : Nat} {L : List UInt8} {e : Nat} (h : loadF d o L = .error e) : e ≠ 0 := by
  have r : ∀ (k : Nat) (r : List UInt8) (e : Nat), ldF o k r = .error e → e ≠ 0 := by
    intro k
    induction k with
    | zero => intro r e h; cases h
    | succ k ih =>
      intro r e h
      cases r with
      | nil => cases h; decide
      | cons n r =>
        simp only [ldF] at h
        split at h
        · cases h; decide
        · split at h
          · cases h; decide
          · split at h
            · cases h
            · rename_i hq
              cases h
              exact ih _ _ hq
  rw [loadF_fin] at h
  split at h
  · cases h; decide
  · have r2 : ∀ e, toF o L = .error e → e ≠ 0 := by
      cases L with
      | nil => intro e h; cases h; decide
      | cons m l => intro e h; exact r _ _ _ h
    cases hT : toF o L with
    | error e' => rw [hT] at h; cases h; exact r2 _ hT
    | ok x =>
      rw [hT] at h
      rcases x with ⟨M, _ | ⟨y, l⟩⟩
      · cases h
      · cases h; decide
def tb5 : Nat → Marks := fun k => if k = 5 then ⟨[1, 3, 5], fun _ => True⟩ else ⟨[], fun _ => True⟩
@[simp] theorem tb5_l : (tb5 5).l = [1, 3, 5] := rfl
@[simp] theorem tb5_R (k x : Nat) : (tb5 k).R x := by unfold tb5; split <;> trivial
section
variable {h : Hp} {K : Value → Hp → Prop}
set_option maxHeartbeats 2000000 in
theorem queueBack_call {a b : Nat} (ha : a < 256) (hb : b < 256) {l0 l1 : List Act} {v0 v1 : Value} {S : ByteArray} (hok0 : ∀ e ∈ l0, e.ok) (hok1 : ∀ e ∈ l1, e.ok) (hl0 : l0.length < 9223372036854775808) (hl1 : l1.length < 9223372036854775808)
    (hv0 : Sl h 2 l0.length (actsC l0) v0) (hv1 : Sl h 2 l1.length (actsC l1) v1) (hK : K (.bool true) h) : ACall prog 5 [.agg #[.int .u8 a, .int .u8 b], .agg #[v0, v1], .string S] h K := by
  refine acallF_of tb5 func5 rfl rfl mixed (by kernel_rfl) fun hwf => ?_
  have hw1 := hwf.args (.agg #[v0, v1]) (by simp)
  have hvb0 := sblk_lt (v := v0) (n := h.next) (by simp [vtop, vtopL] at hw1; omega)
  have hvb1 := sblk_lt (v := v1) (n := h.next) (by simp [vtop, vtopL] at hw1; omega)
  obtain ⟨va0, vc0, rfl⟩ := hv0.slice
  obtain ⟨va1, vc1, rfl⟩ := hv1.slice
  obtain ⟨n0, hn0⟩ : ∃ n, n = l0.length := ⟨_, rfl⟩
  obtain ⟨n1, hn1⟩ : ∃ n, n = l1.length := ⟨_, rfl⟩
  simp -dsimp (disch := omega)
  refine newQ (a := a) (b := b) ha hb (fun hn b1 q1 => ?_) (fun hn => ?_)
  · simp -dsimp (disch := omega)
    refine ACallF.gen fun G hG => ?_
    have g0 : G.blks h.next = some ⟨#[.int .u8 a, .int .u8 b], 1, true⟩ := by rw [hG]; simp (disch := omega)
    have g1 : G.blks (h.next + 1) = some ⟨#[.slice va0 l0.length vc0, .slice va1 l1.length vc1], 1, true⟩ := by rw [hG]; simp (disch := omega)
    have gs : ∀ i, i < h.next → G.blks i = h.blks i := fun i hi => by rw [hG]; simp (disch := omega)
    have gn : G.next = h.next + 3 := by rw [hG]; rfl
    have gq : Que G (h.next + 2) [] a b := q1.mono (by rw [hG])
    clear hG
    refine few_call hok0 hl0 (hv0.mono fun x hx => gs x (hvb0 x hx)) ?_
    cases hf0 : fewL l0 with
    | false =>
      simp -dsimp (disch := omega) [g0, g1]
      refine awake_call ?_
      simp -dsimp (disch := omega) [g0, g1]
      exact RetF.same hwf (by simp) (Nat.zero_le _) gs hK
    | true =>
      simp -dsimp (disch := omega) [g0, g1]
      refine few_call hok1 hl1 (hv1.mono fun x hx => gs x (hvb1 x hx)) ?_
      cases hf1 : fewL l1 with
      | false =>
        simp -dsimp (disch := omega) [g0, g1]
        refine awake_call ?_
        simp -dsimp (disch := omega) [g0, g1]
        exact RetF.same hwf (by simp) (Nat.zero_le _) gs hK
      | true =>
        by_cases hc : (2000 : Int) < S.size
        · simp -dsimp (disch := omega) [g0, g1, hc]
          refine awake_call ?_
          simp -dsimp (disch := omega) [g0, g1]
          exact RetF.same hwf (by simp) (Nat.zero_le _) gs hK
        · obtain ⟨f10, f20⟩ := few_of hf0
          obtain ⟨f11, f21⟩ := few_of hf1
          obtain ⟨L, hL⟩ : ∃ L, S = txt L := ⟨S.data.toList, rfl⟩
          have hLl : L.length ≤ 2000 := by rw [hL, txt_size] at hc; omega
          simp -dsimp (disch := omega) [g0, g1, hc]
          refine does_call hok0 hl0 (hv0.mono fun x hx => gs x (hvb0 x hx)) (by omega) (fun e => by have := hvb0 _ e; omega) gq fun H M hm q => ?_
          have mn := hm.le
          obtain ⟨dd1, dd2, dd3⟩ := q.dep
          have g0 := (hm.same _ (by omega) (by omega)).trans g0
          have g1 := (hm.same _ (by omega) (by omega)).trans g1
          have gs : ∀ i, i < h.next → H.blks i = h.blks i := fun i hi => (hm.same i (by omega) (by omega)).trans (gs i hi)
          simp -dsimp (disch := omega) [g0, g1]
          refine dumpQ q ?_
          simp -dsimp (disch := omega) [g0, g1]
          have hM64 : ∀ s ∈ M, s.size ≤ 64 := fun s hs => Nat.le_trans (q.sizes s hs) dd3
          have hMl := q.len
          have hld := load_dump dd2 dd3 hMl q.sizes
          have hdl := dump_len hM64
          refine load_call ha hb (by omega) (fun hn' => absurd hn' (by simp [hn])) (fun _ e he => by rw [hld] at he; cases he) (fun _ M' hM' H2 p2 hp2 hpl2 he2 q2 => ?_)
          rw [hld] at hM'
          cases hM'
          have n2 := he2.le
          have g0 := (he2.same _ (by omega)).trans g0
          have g1 := (he2.same _ (by omega)).trans g1
          have gs : ∀ i, i < h.next → H2.blks i = h.blks i := fun i hi => (he2.same i (by omega)).trans (gs i hi)
          have q := q.mono (he2.same _ (by omega))
          simp -dsimp (disch := omega) [g0, g1]
          refine dumpQ q2 ?_
          simp -dsimp (disch := omega) [g0, g1]
          refine dumpQ q ?_
          simp -dsimp (disch := omega) [g0, g1]
          refine awp_loop (fun t h' => H2.next ≤ h'.next ∧ (∀ i, i < h.next + 2 → h'.blks i = H2.blks i) ∧ ∃ (k : Nat) (M : List ByteArray), k ≤ l1.length ∧ t 2 = .string S ∧ t 3 = ptr h.next ∧ t 4 = ptr (h.next + 1) ∧ t 7 = ptr (h.next + 2) ∧ t 9 = ptr p2 ∧ t 11 = .int .i64 k ∧ Que h' (h.next + 2) M a b ∧ Que h' p2 M a b) (fun t _ => l1.length - ivN (t 11)) ?_ ?_
          · simp -dsimp (disch := omega)
            exact ⟨0, by omega, rfl, _, q, q2⟩
          · rintro t h' ⟨hn1, hs, k, M, hk, t2, t3, t4, t7, t9, t11, hq, hq2⟩
            have g0 := (hs _ (by omega)).trans g0
            have g1 := (hs _ (by omega)).trans g1
            have gs : ∀ i, i < h.next → h'.blks i = h.blks i := fun i hi => (hs i (by omega)).trans (gs i hi)
            refine vcF_sound mixed (tb := tb0) _ (by kernel_rfl) ?_
            simp -dsimp (disch := omega) [t4, t11, g1]
            refine CondF_dec (fun hck => ?_) (fun hck => ?_)
            · have hkl : k < l1.length := by omega
              obtain ⟨e, hx⟩ : ∃ e, l1[k]? = some e := ⟨l1[k], List.getElem?_eq_getElem hkl⟩
              obtain ⟨a', c, b', z2, fa, s1, x1, y1⟩ := sl_el (f := actC) (n := 2) actC_len hv1 hx
              cases z2
              have hab : a'.block < h.next := hvb1 _ rfl
              rw [← gs _ hab] at fa
              have eo := hok1 e (List.mem_of_getElem? hx)
              have es := f21 e (List.mem_of_getElem? hx)
              have x1' : b'.cells.extract (a'.off + k * 2) (a'.off + k * 2 + 2) = #[.int .u8 e.what, .string (txt e.s)] := x1
              clear x1 y1
              obtain ⟨w, s⟩ := e
              simp only at x1' es
              have wlt : w < 256 := eo.1
              obtain ⟨r, hr⟩ : ∃ r, r = w % 8 := ⟨_, rfl⟩
              have e1 : (w : Int) % 8 = r := by omega
              have e2 : Int.tmod (w : Int) 8 = r := by rw [Int.tmod_eq_emod_of_nonneg (by omega)]; exact e1
              obtain ⟨U, hU⟩ : ∃ U, U = txt s := ⟨_, rfl⟩
              have hUs : U.size ≤ 100 := by rw [hU]; exact es
              rw [← hU] at x1'
              rcases Nat.lt_or_ge r 4 with hr4 | hr4
              · have hr4' : (r : Int) < 4 := by omega
                simp -dsimp (disch := omega) [t4, t7, t9, t11, g1, fa, s1, x1', e1, e2, hr4, hr4']
                refine ACallF.gen fun G3 hG3 => ?_
                have ga : G3.blks h'.next = some ⟨#[.int .u8 w, .string U], 1, true⟩ := by rw [hG3]; simp (disch := omega)
                have gq : Que G3 (h.next + 2) M a b := hq.mono (by rw [hG3]; simp (disch := omega))
                have gq2 : Que G3 p2 M a b := hq2.mono (by rw [hG3]; simp (disch := omega))
                have gn3 : G3.next = h'.next + 1 := by rw [hG3]; rfl
                have g3s : ∀ i, i < h.next + 2 → G3.blks i = H2.blks i := fun i hi => by rw [hG3]; simp (disch := omega) [hs i hi]
                clear hG3
                refine sendQ (S := U) gq (by omega) (fun u1 => ?_) (fun u1 u2 => ?_) (fun u1 u2 b2 q3 => ?_)
                · simp -dsimp (disch := omega) [t4, t7, t9, t11, ga]
                  refine sendQ (S := U) gq2 (by omega) (fun _ => ?_) (fun u3 => absurd u3 (by omega)) (fun u3 => absurd u3 (by omega))
                  simp -dsimp (disch := omega) [t2, t3, t4, t7, t9, t11, ga]
                  exact ⟨⟨by omega, g3s, k + 1, by omega, by simp, _, gq, gq2⟩, by simp [ivN]; omega⟩
                · simp -dsimp (disch := omega) [t4, t7, t9, t11, ga]
                  refine sendQ (S := U) gq2 (by omega) (fun u3 => absurd u3 (by omega)) (fun _ _ => ?_) (fun _ u3 => absurd u3 (by omega))
                  simp -dsimp (disch := omega) [t2, t3, t4, t7, t9, t11, ga]
                  exact ⟨⟨by omega, g3s, k + 1, by omega, by simp, _, gq, gq2⟩, by simp [ivN]; omega⟩
                · simp -dsimp (disch := omega) [t4, t7, t9, t11, ga]
                  refine sendQ (S := U) (gq2.mono (by simp (disch := omega))) (by omega) (fun u3 => absurd u3 (by omega)) (fun _ u3 => absurd u3 (by omega)) (fun _ _ b3 q4 => ?_)
                  simp -dsimp (disch := omega) [t2, t3, t4, t7, t9, t11, ga]
                  exact ⟨⟨by omega, fun i hi => by rw [if_neg (by omega), if_neg (by omega)]; exact g3s i hi, k + 1, by omega, by simp, _, q3.mono (by simp (disch := omega)), q4⟩, by simp [ivN]; omega⟩
              · have hr4' : ¬ (r : Int) < 4 := by omega
                have hr4n : ¬ r < 4 := by omega
                simp -dsimp (disch := omega) [t4, t7, t9, t11, g1, fa, s1, x1', e1, e2, hr4n, hr4']
                refine ACallF.gen fun G3 hG3 => ?_
                have gq : Que G3 (h.next + 2) M a b := hq.mono (by rw [hG3]; simp (disch := omega))
                have gq2 : Que G3 p2 M a b := hq2.mono (by rw [hG3]; simp (disch := omega))
                have gn3 : G3.next = h'.next + 1 := by rw [hG3]; rfl
                have g3s : ∀ i, i < h.next + 2 → G3.blks i = H2.blks i := fun i hi => by rw [hG3]; simp (disch := omega) [hs i hi]
                clear hG3
                cases M with
                | nil =>
                  refine recv0Q gq ?_
                  simp -dsimp (disch := omega) [t4, t7, t9, t11]
                  refine recvs0_call gq2 ?_
                  simp -dsimp (disch := omega) [t2, t3, t4, t7, t9, t11]
                  exact ⟨⟨by omega, g3s, k + 1, by omega, by simp, _, gq, gq2⟩, by simp [ivN]; omega⟩
                | cons s0 M =>
                  refine recvQ gq fun b2 q3 => ?_
                  simp -dsimp (disch := omega) [t4, t7, t9, t11]
                  refine recvs_call (gq2.mono (by simp (disch := omega))) fun b3 q4 => ?_
                  simp -dsimp (disch := omega) [t2, t3, t4, t7, t9, t11]
                  exact ⟨⟨by omega, fun i hi => by rw [if_neg (by omega), if_neg (by omega)]; exact g3s i hi, k + 1, by omega, by simp, _, q3.mono (by simp (disch := omega)), q4⟩, by simp [ivN]; omega⟩
            · simp -dsimp (disch := omega) [t2, t3, t4, t7, t9, t11, g0, g1]
              rw [hL]
              refine load_call ha hb hLl (fun hn' => absurd hn' (by simp [hn])) (fun _ e he => ?_) (fun _ M' hM' H3 p3 hp3 hpl3 he3 q3 => ?_)
              · have hne := loadF_err he
                have hne' : ¬ (e : Int) = 0 := by omega
                simp -dsimp (disch := omega) [hne, hne']
                refine awake_call ?_
                simp -dsimp (disch := omega)
                exact RetF.same hwf (by simp) (Nat.zero_le _) gs hK
              · simp -dsimp (disch := omega) [t2]
                refine dumpQ q3 ?_
                rw [dump_load hM', ← hL]
                simp -dsimp (disch := omega) [t2]
                refine awake_call ?_
                simp -dsimp (disch := omega)
                exact RetF.same hwf (by simp) (Nat.zero_le _) (fun i hi => (he3.same i (by omega)).trans (gs i hi)) hK
  · simp -dsimp (disch := omega)
    refine ACallF.gen fun G hG => ?_
    have g0 : G.blks h.next = some ⟨#[.int .u8 a, .int .u8 b], 1, true⟩ := by rw [hG]; simp (disch := omega)
    have g1 : G.blks (h.next + 1) = some ⟨#[.slice va0 l0.length vc0, .slice va1 l1.length vc1], 1, true⟩ := by rw [hG]; simp (disch := omega)
    have gs : ∀ i, i < h.next → G.blks i = h.blks i := fun i hi => by rw [hG]; simp (disch := omega)
    clear hG
    refine few_call hok0 hl0 (hv0.mono fun x hx => gs x (hvb0 x hx)) ?_
    cases hf0 : fewL l0 with
    | false =>
      simp -dsimp (disch := omega) [g0, g1]
      refine awake_call ?_
      simp -dsimp (disch := omega) [g0, g1]
      exact RetF.same hwf (by simp) (Nat.zero_le _) gs hK
    | true =>
      simp -dsimp (disch := omega) [g0, g1]
      refine few_call hok1 hl1 (hv1.mono fun x hx => gs x (hvb1 x hx)) ?_
      cases hf1 : fewL l1 with
      | false =>
        simp -dsimp (disch := omega) [g0, g1]
        refine awake_call ?_
        simp -dsimp (disch := omega) [g0, g1]
        exact RetF.same hwf (by simp) (Nat.zero_le _) gs hK
      | true =>
        by_cases hc : (2000 : Int) < S.size
        · simp -dsimp (disch := omega) [g0, g1, hc]
          refine awake_call ?_
          simp -dsimp (disch := omega) [g0, g1]
          exact RetF.same hwf (by simp) (Nat.zero_le _) gs hK
        · simp -dsimp (disch := omega) [g0, g1, hc]
          refine awake_call ?_
          simp -dsimp (disch := omega) [g0, g1]
          exact RetF.same hwf (by simp) (Nat.zero_le _) gs hK
end
end Go.Proofs.Ytggohjlfhomafaa
