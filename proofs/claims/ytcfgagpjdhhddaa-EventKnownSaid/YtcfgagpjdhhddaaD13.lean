/-
  Each event is told once: the law's body.
-/
import Derived.Test.YtcfgagpjdhhddaaS5
set_option linter.unusedSimpArgs false
set_option linter.unusedVariables false
namespace Go.Proofs.Ytcfgagpjdhhddaa
open Go Go.Mini Go.Proofs.Try

theorem sl_byte {h : Hp} {l : List UInt8} {v : Value} {k : Nat} {x : UInt8} (hv : Sl h 1 l.length (l.map byteV) v) (hk : l[k]? = some x) :
    ∃ a c b, v = .slice (some a) l.length c ∧ h.blks a.block = some b ∧ a.off + k < b.cells.size ∧ b.cells[a.off + k]? = some (.int .u8 x.toNat) := by
  have hlt : k < l.length := (List.getElem?_eq_some_iff.1 hk).1
  obtain ⟨h0, ⟨_, _, _, h1⟩ | ⟨a, c, b, rfl, h2, h3, h4⟩⟩ := hv
  · omega
  · exact ⟨a, c, b, rfl, h2, by omega, (h4 k (by omega)).trans (by rw [List.getElem?_map, hk]; rfl)⟩
theorem evsC_append (l l' : List Ev) : evsC (l ++ l') = evsC l ++ evsC l' := by simp [evsC]

theorem eventOnce_call {S : ByteArray} {bs : List UInt8} {bv : Value} {h : Hp} {K : Value → Hp → Prop} (hb : Sl h 1 bs.length (bs.map byteV) bv) (hK : ∀ h', Ext h h' → K (.bool true) h') : ACall prog 9 [.string S, bv] h K := by
  refine acallF_of tb0 func9 rfl rfl mixed (by kernel_rfl) fun hwf => ?_
  have hvb := sblk_lt (hwf.args bv (by simp))
  obtain ⟨ba, bc, rfl⟩ := hb.slice
  by_cases hc1 : (1000 : Int) < S.size
  · simp -dsimp (disch := omega) [hc1]
    refine awake_call ?_
    simp -dsimp (disch := omega)
    exact RetF.all (by simp) (hK _ (Ext.refl h))
  by_cases hc2 : (60 : Int) < bs.length
  · simp -dsimp (disch := omega) [hc1, hc2]
    refine awake_call ?_
    simp -dsimp (disch := omega)
    exact RetF.all (by simp) (hK _ (Ext.refl h))
  have hS : S = txt S.data.toList := rfl
  have hSl : S.size = S.data.toList.length := rfl
  rw [hSl] at hc1
  rw [hS]
  generalize S.data.toList = L at *
  have hsz : (txt L).size = L.length := rfl
  have hpl := parse_len 256 L
  simp -dsimp (disch := omega) [hc1, hc2]
  refine parse_call (by omega) fun h1 vk vd e1 l1 => ?_
  have hgd := parse_good 256 L
  have hok := parse_ok 256 L
  have hT := Told.init hgd
  have hpl1 := hpl.1
  have k1 := l1.k
  have n1 := e1.le
  generalize (parse 256 L).1 = kp at *
  obtain ⟨ak, ck, rfl⟩ := k1.slice
  simp -dsimp (disch := omega)
  refine new_call (by omega) k1 fun h2 q v2 e2 hq q2 => ?_
  have n2 := e2.le
  have bk : ∀ b, sblk (.slice ak kp.length ck) = some b → h.next ≤ b ∧ b < h1.next := k1.blk
  have hkk : Sl h2 4 kp.length (evsC kp) (.slice ak kp.length ck) := (row_sl k1).mono fun b hb => e2.same b (bk b hb).2
  simp -dsimp (disch := omega)
  have hql := q2.lt
  refine awp_loop (fun t h' => Mod q h2 h' ∧ ∃ (k : Nat) (a Q : List Ev) (vq : Value) (tt : Nat), k ≤ bs.length ∧ t 1 = .slice ba bs.length bc ∧ t 5 = .slice ak kp.length ck ∧ t 7 = .pointer (some ⟨q, 0, none⟩) ∧ t 9 = .int .u64 tt ∧ t 10 = .int .i64 k ∧ Row h2.next h' 4 a.length (evsC a) (t 8) ∧ Que h' q Q vq ∧ (∀ b, sblk (t 8) = some b → sblk vq ≠ some b) ∧ tt ≤ 256 * k ∧ Told kp a Q tt (decide (k = 0))) (fun t _ => bs.length - ivN (t 10)) ?_ ?_
  · simp -dsimp (disch := omega)
    exact ⟨⟨Nat.le_refl _, fun _ _ _ => rfl⟩, 0, by omega, [], kp, v2, 0, rfl, rfl, Row.nil _ _ _, q2, fun b hb => by simp [sblk] at hb, by omega, hT⟩
  · rintro t h' ⟨hm, k, a, Q, vq, tt, hk, g1, g5, g7, g9, g10, hrow, hq', hap, htt, htold⟩
    refine vcF_sound mixed (tb := tb0) _ (by kernel_rfl) ?_
    have hmle := hm.le
    simp -dsimp (disch := omega) [g1, g5, g7, g9, g10]
    refine CondF_dec (fun hcc => ?_) (fun hcc => ?_)
    · obtain ⟨x, hx⟩ : ∃ x, bs[k]? = some x := ⟨bs[k]'(by omega), List.getElem?_eq_getElem _⟩
      obtain ⟨a1, c1, b1, w1, f1, z1, y1⟩ := sl_byte hb hx
      cases w1
      have ba1 : a1.block < h.next := hvb _ rfl
      have hf : h'.blks a1.block = some b1 := by rw [hm.same _ (by omega) (by omega), e2.same _ (by omega), e1.same _ (by omega)]; exact f1
      have hx8 := x.toNat_lt
      generalize x.toNat = xn at *
      obtain ⟨tn, htn⟩ : ∃ tn, tn = tt + 1 + xn := ⟨_, rfl⟩
      have htn' : (tt : Int) + 1 + xn = tn := by omega
      have w2 : IntKind.u64.wrap ((xn : Nat) : Int) = xn := by simp (disch := omega)
      have hcnt := htold.cnt
      simp -dsimp (disch := omega) [g1, g5, g7, g9, g10, hf, z1, y1, htn', -getElem?_pos]
      refine due_call (by omega) (fun e he => hok e (htold.mem e he)) (by omega) hq' fun h3 vq3 w m3 q3 b3 r3 => ?_
      have hdl := dueL_len tn Q
      have hd1 : ∀ e ∈ dueL tn Q, e.t ≤ tn ∧ (k ≠ 0 → tt < e.t) := fun e he => ⟨(mem_due he).2, fun hk0 => htold.gt (by simpa using hk0) e (mem_due he).1⟩
      have hdk : ∀ e ∈ dueL tn Q, e.ok := fun e he => hok e (htold.mem e (mem_due he).1)
      have hstep := htold.step tn
      have hrow3 : Row h2.next h3 4 a.length (evsC a) (t 8) := hrow.mono m3.le fun b hb => m3.same b (hrow.blk b hb).2 (by have := (hrow.blk b hb).1; omega)
      have hap3 : ∀ b, sblk (t 8) = some b → sblk vq3 ≠ some b := fun b hb hb' => by
        rcases b3 b hb' with e | e
        · exact hap b hb e
        · have := (hrow.blk b hb).2; omega
      have m3le := m3.le
      have hl3 := hstep.cnt
      rw [List.length_append] at hl3
      generalize hD : dueL tn Q = D at *
      obtain ⟨wa, wc, rfl⟩ := r3.slice
      obtain ⟨ta, tc, g8⟩ := hrow.slice
      rw [g8] at hrow hrow3 hap hap3
      simp -dsimp (disch := omega) [g1, g5, g7, g8, g9, g10]
      refine awp_loop (fun u h4 => h4 = h3 ∧ ∃ m : Nat, m ≤ D.length ∧ u 1 = .slice (some a1) bs.length bc ∧ u 5 = .slice ak kp.length ck ∧ u 7 = .pointer (some ⟨q, 0, none⟩) ∧ u 8 = .slice ta a.length tc ∧ u 9 = .int .u64 tn ∧ u 10 = .int .i64 k ∧ u 11 = .int .u64 tt ∧ u 12 = .slice wa D.length wc ∧ u 13 = .int .i64 m) (fun u _ => D.length - ivN (u 13)) ?_ ?_
      · simp -dsimp (disch := omega) [g1, g5, g7, g8, g9, g10]
        exact ⟨0, by omega, rfl⟩
      · have g10o := g10
        clear g1 g5 g7 g8 g9 g10
        rintro u h3 ⟨rfl, m, hmD, g1, g5, g7, g8, g9, g10, g11, g12, g13⟩
        refine vcF_sound mixed (tb := tb0) _ (by kernel_rfl) ?_
        simp -dsimp (disch := omega) [g1, g5, g7, g8, g9, g10, g11, g12, g13]
        refine CondF_dec (fun hc2 => ?_) (fun hc2 => ?_)
        · obtain ⟨e, hx2⟩ : ∃ e, D[m]? = some e := ⟨D[m]'(by omega), List.getElem?_eq_getElem _⟩
          obtain ⟨a2, c2, b2, w2, f2, z2, x2, u1, u2⟩ := sl_ev2 (row_sl r3) hx2
          cases w2
          have hmem := List.mem_of_getElem? hx2
          obtain ⟨p1, p2⟩ := hd1 e hmem
          obtain ⟨o1, _⟩ := hdk e hmem
          have p1' : ¬ (tn : Int) < e.t := by omega
          by_cases hk0 : k = 0
          · have hk0' : ¬ (0 : Int) < k := by omega
            have hk0n : ¬ 0 < k := by omega
            simp -dsimp (disch := omega) [g1, g5, g7, g8, g9, g10, g11, g12, g13, f2, z2, x2, u1, u2, p1', hk0', hk0n, -getElem?_pos]
            exact ⟨⟨m + 1, by omega, by simp⟩, by simp [ivN]; omega⟩
          · have hk0' : (0 : Int) < k := by omega
            have hk0n : 0 < k := by omega
            have p2' : ¬ (e.t : Int) ≤ tt := by have := p2 hk0; omega
            simp -dsimp (disch := omega) [g1, g5, g7, g8, g9, g10, g11, g12, g13, f2, z2, x2, u1, u2, p1', p2', hk0', hk0n, -getElem?_pos]
            exact ⟨⟨m + 1, by omega, by simp⟩, by simp [ivN]; omega⟩
        · simp -dsimp (disch := omega) [g1, g5, g7, g8, g9, g10, g11, g12, g13, g10o]
          refine app_any hrow3 (by omega) (row_src r3) (by simpa using evsC_length D) (by unfold ROOM; omega) fun v4 h4 r4 n4 b4 s4 => ?_
          simp -dsimp (disch := omega) [g1, g5, g7, g8, g9, g10, g11, g12, g13, g10o]
          have htb : ∀ b, sblk (.slice ta a.length tc) = some b → h2.next ≤ b ∧ b < h'.next := hrow.blk
          have hv3 := q3.vlt
          refine ⟨⟨⟨by omega, fun i hi hiq => ?_⟩, k + 1, by omega, a ++ D, laterL tn Q, vq3, tn, rfl, by simp, by simpa [evsC_append] using r4, ?_, ?_, by omega, by simpa using hstep⟩, by simp [ivN]; omega⟩
          · rw [s4 i (by omega) fun e => by have := htb i e; omega, m3.same i (by omega) hiq]
            exact hm.same i hi hiq
          · exact q3.mono n4 (s4 _ (by omega) fun e => by have := htb q e; omega) fun b hb => s4 _ (hv3 b hb).1 fun e => hap3 b e hb
          · intro b hb hb'
            rcases b4 b hb with e | e
            · exact hap3 b e hb'
            · have := (hv3 b hb').1; omega
    · obtain rfl : k = bs.length := by omega
      have hcnt := htold.cnt
      simp -dsimp (disch := omega) [g1, g5, g7, g9, g10]
      refine due_call (t := 4294967296) (by omega) (fun e he => hok e (htold.mem e he)) (by omega) hq' fun h3 vq3 w m3 q3 b3 r3 => ?_
      have hnil : laterL 4294967296 Q = [] := later_nil fun e he => by have := (hok e (htold.mem e he)).1; omega
      have hdl := dueL_len 4294967296 Q
      have hstep := htold.step 4294967296
      obtain ⟨hof, hlen⟩ := hstep.fin hnil
      rw [hnil] at q3
      have hrow3 : Row h2.next h3 4 a.length (evsC a) (t 8) := hrow.mono m3.le fun b hb => m3.same b (hrow.blk b hb).2 (by have := (hrow.blk b hb).1; omega)
      have hap3 : ∀ b, sblk (t 8) = some b → sblk vq3 ≠ some b := fun b hb hb' => by
        rcases b3 b hb' with e | e
        · exact hap b hb e
        · have := (hrow.blk b hb).2; omega
      have m3le := m3.le
      generalize hD : dueL 4294967296 Q = D at *
      obtain ⟨wa, wc, rfl⟩ := r3.slice
      obtain ⟨ta, tc, g8⟩ := hrow.slice
      rw [g8] at hrow hrow3 hap hap3
      have htb : ∀ b, sblk (.slice ta a.length tc) = some b → h2.next ≤ b ∧ b < h'.next := hrow.blk
      have hv3 := q3.vlt
      simp -dsimp (disch := omega) [g1, g5, g7, g8, g9, g10]
      refine app_any hrow3 (by omega) (row_src r3) (by simpa using evsC_length D) (by unfold ROOM; omega) fun v4 h4 r4 n4 b4 s4 => ?_
      have r4' : Row h2.next h4 4 (a ++ D).length (evsC (a ++ D)) v4 := by rw [evsC_append, List.length_append]; simpa using r4
      have q4 : Que h4 q [] vq3 := q3.mono n4 (s4 _ (by omega) fun e => by have := htb q e; omega) fun b hb => s4 _ (hv3 b hb).1 fun e => hap3 b e hb
      have hk4 : Sl h4 4 kp.length (evsC kp) (.slice ak kp.length ck) := hkk.mono fun b hb => by
        have := bk b hb
        rw [s4 b (by omega) fun e => by have := htb b e; omega, m3.same b (by omega) (by omega), hm.same b (by omega) (by omega)]
      have hext4 : Ext h h4 := ⟨by omega, fun i hi => by
        rw [s4 i (by omega) fun e => by have := htb i e; omega, m3.same i (by omega) (by omega), hm.same i (by omega) (by omega), e2.same i (by omega), e1.same i (by omega)]⟩
      generalize a ++ D = A at *
      have t4 := row_sl r4'
      have tb4' := r4'.blk
      obtain ⟨t4a, t4c, rfl⟩ := t4.slice
      simp -dsimp (disch := omega) [g1, g5, g7, g8, g9, g10]
      refine awp_loop (fun u h5 => Ext h4 h5 ∧ ∃ j : Nat, j ≤ 256 ∧ u 5 = .slice ak kp.length ck ∧ u 7 = .pointer (some ⟨q, 0, none⟩) ∧ u 8 = .slice t4a A.length t4c ∧ u 14 = .int .i64 j) (fun u _ => 256 - ivN (u 14)) ?_ ?_
      · simp -dsimp (disch := omega) [g1, g5, g7, g8, g9, g10]
        exact ⟨Ext.refl _, 0, by omega, rfl⟩
      · clear g1 g5 g7 g8 g9 g10
        rintro u h5 ⟨he5, j, hj, g5, g7, g8, g14⟩
        have n5 := he5.le
        refine vcF_sound mixed (tb := tb0) _ (by kernel_rfl) ?_
        simp -dsimp (disch := omega) [g5, g7, g8, g14]
        have t5 : Sl h5 4 A.length (evsC A) (.slice t4a A.length t4c) := t4.mono fun b hb => he5.same b (tb4' b hb).2
        have k5 : Sl h5 4 kp.length (evsC kp) (.slice ak kp.length ck) := hk4.mono fun b hb => he5.same b (by have := bk b hb; omega)
        refine CondF_dec (fun hc3 => ?_) (fun hc3 => ?_)
        · simp -dsimp (disch := omega) [g5, g7, g8, g14]
          have wj : IntKind.u8.wrap ((j : Nat) : Int) = j := by simp (disch := omega)
          refine ofE_call (by omega) t5 fun h6 v6 e6 r6 => ?_
          simp -dsimp (disch := omega) [g5, g7, g8, g14]
          refine ofE_call (by omega) (k5.mono fun b hb => e6.same b (by have := bk b hb; omega)) fun h7 v7 e7 r7 => ?_
          simp -dsimp (disch := omega) [g5, g7, g8, g14]
          have s6 : Sl h7 4 (ofG A j).length (evsC (ofG A j)) v6 := (row_sl r6).mono fun b hb => e7.same b (r6.blk b hb).2
          have l6 := ofG_len A j
          have l7 := ofG_len kp j
          refine same_call (by omega) s6 (row_sl r7) ?_
          rw [decide_eq_true (hof j)]
          simp -dsimp (disch := omega) [g5, g7, g8, g14]
          exact ⟨⟨he5.trans (e6.trans e7), j + 1, by omega, by simp⟩, by simp [ivN]; omega⟩
        · simp -dsimp (disch := omega) [g5, g7, g8, g14, hlen]
          refine qleft_call (q4.mono n5 (he5.same _ (by omega)) fun b hb => he5.same b (by have := hv3 b hb; omega)) ?_
          simp -dsimp (disch := omega) [g5, g7, g8, g14]
          refine awake_call ?_
          simp -dsimp (disch := omega)
          exact RetF.all (by simp) (hK _ (hext4.trans he5))

end Go.Proofs.Ytcfgagpjdhhddaa
