/-
  ImageLoads' body.
-/
import Derived.Test.YtcbagjhbmdmjfaaDoorL3
import Derived.Test.YtcbagjhbmdmjfaaDoorM22
set_option linter.unusedSimpArgs false
set_option linter.unusedVariables false
set_option linter.unusedSectionVars false
namespace Go.Proofs.YtcbagjhbmdmjfaaDoor
set_option maxRecDepth 100000
open Go Go.Mini Go.Proofs.Tryd

theorem ext_set {h h' : Hp} {i : Nat} (x : Ext h h') (b : Blk) (hi : h.next ≤ i) : Ext h (h'.set i b) := ⟨x.le, fun j hj => by rw [blks_set_ne _ _ _ _ (by omega)]; exact x.same j hj⟩
theorem bytes_at {M : Nat → Nat} (h8 : ∀ i, M i < 256) {N k : Nat} (hk : k < N) : bAt (txt (bytesM M 0 N)) k = (M k : Nat) := by
  unfold bAt bytesM
  rw [txt_data, List.getElem?_map, List.getElem?_range hk]
  simp only [Option.map_some, Option.getD_some, Nat.zero_add]
  have := h8 k
  rw [UInt8.toNat_ofNat_of_lt' (by show M k < 256; exact this)]
theorem loads_loop {Q : APost} {i x N : Nat} {l : List Sg} {v E W2 W1 : Value} {t : Tm} {h : Hp} (hN : N ≤ 65536) (hb : h.blks i = some ⟨#[.int .u64 x, v], 1, true⟩) (hv : Sl h 2 l.length (sgC l) v) (hl : ∀ g ∈ l, g.ok) (hL : l.length < 9223372036854775808)
    (t3 : t 3 = .pointer (some ⟨i, 0, none⟩)) (t8 : t 8 = .int .u64 N) (t9 : t 9 = W1) (t11 : t 11 = E) (t12 : t 12 = W2) (t14 : t 14 = .bool true) (t15 : t 15 = .int .i64 0)
    (hQ : ∀ t', t' 3 = .pointer (some ⟨i, 0, none⟩) → t' 8 = .int .u64 N → t' 9 = W1 → t' 11 = E → t' 12 = W2 → t' 14 = .bool (fitL N l) → apQ Q (.exit 0) t' h (.mk _)) :
    Awp prog f7.ntmps (.loop (loopC (blkC (sndC (fstC (sndC (sndC (sndC (sndC (sndC (sndC (sndC (sndC (sndC (bodyC f7))))))))))))))) Q t h := by
  have e0 : (loopC (blkC (sndC (fstC (sndC (sndC (sndC (sndC (sndC (sndC (sndC (sndC (sndC (bodyC f7)))))))))))))) = (loopC (blkC (sndC (fstC (sndC (sndC (sndC (sndC (sndC (sndC (sndC (sndC (sndC (bodyC f7)))))))))))))) := rfl
  conv at e0 => rhs; whnf
  rw [e0]
  clear e0
  obtain ⟨va, vc, rfl⟩ := hv.slice
  refine awp_loop (fun t h' => h' = h ∧ ∃ k : Nat, k ≤ l.length ∧ t 3 = .pointer (some ⟨i, 0, none⟩) ∧ t 8 = .int .u64 N ∧ t 9 = W1 ∧ t 11 = E ∧ t 12 = W2 ∧ t 14 = .bool (fitL N (l.take k)) ∧ t 15 = .int .i64 (k : Nat)) (fun t _ => l.length - ivN (t 15)) ?_ ?_
  · exact ⟨rfl, 0, Nat.zero_le _, t3, t8, t9, t11, t12, t14, t15⟩
  · rintro t _ ⟨rfl, k, hk, t3, t8, t9, t11, t12, t14, t15⟩
    refine vcF_sound mixed (tb := tb0) _ (by kernel_rfl) ?_
    simp -dsimp (disch := omega) [t3, t15, hb]
    by_cases hc : k < l.length
    · obtain ⟨g, hg⟩ : ∃ g, l[k]? = some g := ⟨l[k], by simp [hc]⟩
      obtain ⟨g1, g2⟩ := hl g (List.mem_of_getElem? hg)
      obtain ⟨_, ⟨_, c, e, h00⟩ | ⟨a, c, b, e0, hbb, hbs, hbc⟩⟩ := hv
      · omega
      cases e0
      obtain ⟨d1, d2⟩ := sgC_at l k g hg
      have e1 := hbc (2 * k) (by omega)
      have e2 := hbc (2 * k + 1) (by omega)
      rw [d1] at e1
      rw [d2] at e2
      rw [Nat.mul_comm 2 k] at e1 e2
      have e1' : b.cells[a.off + k * 2]? = some (.int .u64 g.a) := e1
      have e2' : b.cells[a.off + k * 2 + 1]? = some (.string (txt g.b)) := e2
      obtain ⟨L, eL⟩ : ∃ L, L = g.b.length := ⟨_, rfl⟩
      have hlen : (txt g.b).size = L := by rw [eL]; rfl
      rw [← eL] at g2
      have hstep : fitL N (l.take (k + 1)) = (fitL N (l.take k) && hasN 2147483648 (2147483648 + N) g.a L) := by
        rw [take_snoc hg, eL]
        unfold fitL
        simp
      clear hbc hbs e1 e2
      simp -dsimp (disch := omega) [t3, t8, t14, t15, hc, hb, hbb, e1', e2', hlen]
      cases hf : fitL N (l.take k) with
      | false =>
        rw [hf, Bool.false_and] at hstep
        simp -dsimp (disch := omega) [t3, t8, t15]
        exact ⟨⟨k + 1, by omega, t9, t11, t12, by rw [hstep], by simp⟩, by simp [ivN]; omega⟩
      | true =>
        rw [hf, Bool.true_and] at hstep
        by_cases q1 : 2147483648 ≤ g.a
        · have q1' : (2147483648 : Int) ≤ g.a := by omega
          obtain ⟨d, hd⟩ : ∃ d, g.a = 2147483648 + d := ⟨g.a - 2147483648, by omega⟩
          have hd' : (g.a : Int) - 2147483648 = d := by omega
          by_cases q2 : d ≤ N
          · have q3 : (N : Int) - d = ((N - d : Nat) : Int) := by omega
            have hh : hasN 2147483648 (2147483648 + N) g.a L = decide (L ≤ N - d) := by
              show (decide (2147483648 ≤ g.a) && (decide (g.a ≤ 2147483648 + N) && decide (L ≤ 2147483648 + N - g.a))) = _
              rw [decide_eq_true q1, decide_eq_true (show g.a ≤ 2147483648 + N by omega), Bool.true_and, Bool.true_and]
              exact decide_eq_decide.2 (by omega)
            rw [hh] at hstep
            simp -dsimp (disch := omega) [t3, t8, t15, q1, q1', hd', q2, q3]
            exact ⟨⟨k + 1, by omega, t9, t11, t12, by rw [hstep], by simp⟩, by simp [ivN]; omega⟩
          · have hh : hasN 2147483648 (2147483648 + N) g.a L = false := by unfold hasN; simp [q1]; omega
            rw [hh] at hstep
            simp -dsimp (disch := omega) [t3, t8, t15, q1, q1', hd', q2]
            exact ⟨⟨k + 1, by omega, t9, t11, t12, by rw [hstep], by simp⟩, by simp [ivN]; omega⟩
        · have q1' : ¬ (2147483648 : Int) ≤ g.a := by omega
          have hh : hasN 2147483648 (2147483648 + N) g.a L = false := by unfold hasN; simp [q1]
          rw [hh] at hstep
          simp -dsimp (disch := omega) [t3, t8, t15, q1, q1']
          exact ⟨⟨k + 1, by omega, t9, t11, t12, by rw [hstep], by simp⟩, by simp [ivN]; omega⟩
    · have hk' : k = l.length := by omega
      subst hk'
      rw [List.take_length] at t14
      simp -dsimp (disch := omega) [t3, t15]
      exact hQ _ t3 t8 t9 t11 t12 t14
set_option maxHeartbeats 4000000 in
theorem imageLoads_call {x : Nat} {l : List Sg} {v : Value} {n : Int} {O : List UInt8} {h : Hp} {K : Value → Hp → Prop} (hE : HasErr h) (hn : 100 < h.next) (hv : Sl h 2 l.length (sgC l) v) (hl : ∀ g ∈ l, g.ok) (hL : l.length < 9223372036854775808) (hO : O.length < 9223372036854775808) (hK : ∀ h', K (.bool true) h') : ACall prog 7 [imV x v, .int .i64 n, .string (txt O)] h K := by
  refine acallF_of tb0 func7 rfl rfl mixed (by kernel_rfl) fun hwf => ?_
  have hvb := sblk_lt (n := h.next) (v := v) (by have := hwf.args (imV x v) (by simp); simp [imV, vtop, vtopL] at this; omega)
  obtain ⟨va, vc, rfl⟩ := hv.slice
  have hosz : (txt O).size = O.length := rfl
  simp -dsimp (disch := omega) [imV]
  obtain ⟨H, hH⟩ : ∃ H, H = h.alloc ⟨#[.int .u64 x, .slice va l.length vc], 1, true⟩ := ⟨_, rfl⟩
  have xH : Ext h H := by rw [hH]; exact Ext.alloc _ _
  have nH : H.next = h.next + 1 := by rw [hH]; simp
  have bH : H.blks h.next = some ⟨#[.int .u64 x, .slice va l.length vc], 1, true⟩ := by rw [hH]; exact blks_alloc_eq _ _
  rw [← hH]
  have aw : ∀ {h'}, Ext H h' → HasErr h' := fun e => (hE.ext xH hn).ext e (by omega)
  have sl : ∀ {h'}, Ext H h' → Sl h' 2 l.length (sgC l) (.slice va l.length vc) := fun e => Sl.ext hv (xH.trans e) hvb
  by_cases c : n < 1 ∨ 16 < n
  · refine Rm.ramNew_nil c ?_
    simp -dsimp (disch := omega) [bH]
    refine few_call (x := x) (sl (Ext.refl _)) hl hL (fun f1 f2 => ?_) ?_
    · by_cases d : 300 < O.length
      · have d' : 300 < (O.length : Int) := by omega
        simp -dsimp (disch := omega) [hosz, d, d']
        refine awake_call (aw (Ext.refl _)) (by omega) ?_
        simp -dsimp (disch := omega)
        exact RetF.all (by simp) (hK _)
      · have d' : ¬ 300 < (O.length : Int) := by omega
        simp -dsimp (disch := omega) [hosz, d, d']
        refine awake_call (aw (Ext.refl _)) (by omega) ?_
        simp -dsimp (disch := omega)
        exact RetF.all (by simp) (hK _)
    · simp -dsimp (disch := omega)
      refine awake_call (aw (Ext.refl _)) (by omega) ?_
      simp -dsimp (disch := omega)
      exact RetF.all (by simp) (hK _)
  · obtain ⟨m, rfl⟩ := Int.eq_ofNat_of_zero_le (show 0 ≤ n by omega)
    refine Rm.ramNew_call (n := m) (by omega) (by omega) fun h1 p b x1 hp hb r1 => ?_
    obtain ⟨N, hN⟩ : ∃ N, N = m * 4096 := ⟨_, rfl⟩
    rw [← hN] at r1
    have N0 := r1.N0
    have N1 := r1.N1
    have n1 := x1.le
    have b1 : h1.blks h.next = some ⟨#[.int .u64 x, .slice va l.length vc], 1, true⟩ := (x1.same _ (by omega)).trans bH
    simp -dsimp (disch := omega) [b1]
    refine few_call (x := x) (sl x1) hl hL (fun f1 f2 => ?_) ?_
    rotate_left
    · simp -dsimp (disch := omega)
      refine awake_call (aw x1) (by omega) ?_
      simp -dsimp (disch := omega)
      exact RetF.all (by simp) (hK _)
    by_cases d : 300 < O.length
    · have d' : 300 < (O.length : Int) := by omega
      simp -dsimp (disch := omega) [hosz, d, d']
      refine awake_call (aw x1) (by omega) ?_
      simp -dsimp (disch := omega)
      exact RetF.all (by simp) (hK _)
    have d' : ¬ 300 < (O.length : Int) := by omega
    simp -dsimp (disch := omega) [hosz, d, d']
    have hON : 0 + O.length ≤ N := by omega
    refine Rm.put_call (x := 0) r1 (by omega) (fun _ => ?_) (fun hx => absurd hON hx)
    have r2 := (r1.fill (M' := lay (fun _ => 0) 0 O) (Rm.lay_lt r1.M8)).claim (a' := Rm.toA 0 0 O.length) (w' := Rm.toW 0 0 0 O.length) (Rm.toA_lt r1.a1)
    have x2 := ext_set (ext_set x1 ⟨mem N (lay (fun _ => 0) 0 O), 1, true⟩ hb) ⟨Rm.ramC b N N (Rm.toA 0 0 O.length) (Rm.toW 0 0 0 O.length), 1, true⟩ hp
    obtain ⟨h2, hh2⟩ : ∃ h2, h2 = (h1.set b ⟨mem N (lay (fun _ => 0) 0 O), 1, true⟩).set p ⟨Rm.ramC b N N (Rm.toA 0 0 O.length) (Rm.toW 0 0 0 O.length), 1, true⟩ := ⟨_, rfl⟩
    rw [← hh2] at r2 x2 ⊢
    have n2 := x2.le
    have b2 : h2.blks h.next = some ⟨#[.int .u64 x, .slice va l.length vc], 1, true⟩ := (x2.same _ (by omega)).trans bH
    simp -dsimp (disch := omega)
    refine Rm.size_call r2 ?_
    simp -dsimp (disch := omega)
    refine Rm.bytes_call (x := 0) (n := N) r2 (fun _ => ?_) (fun hx => by omega)
    obtain ⟨M1, hM1⟩ : ∃ M1, M1 = lay (fun _ => 0) 0 O := ⟨_, rfl⟩
    rw [← hM1] at r2 ⊢
    clear hh2 hM1
    obtain ⟨A1, W1, r2⟩ : ∃ a w, Rm.Ram h2 p b N N M1 a w := ⟨_, _, r2⟩
    have hvp : ∀ i, sblk (.slice va l.length vc) = some i → i ≠ p ∧ i ≠ b := fun i e => by have := hvb i e; omega
    simp -dsimp (disch := omega) [b2]
    obtain ⟨was, hwas⟩ : ∃ was, was = txt (bytesM M1 0 N) := ⟨_, rfl⟩
    rw [← hwas]
    refine load_call (x := x) r2 (sl x2) hvp hl hL (fun hf h3 a3 w3 r3 n3 s3 => ?_) (fun hf => ?_)
    · have x3 : Ext H h3 := ⟨by omega, fun i hi => by rw [s3 i (by omega) (by omega) (by omega)]; exact x2.same i hi⟩
      have b3 : h3.blks h.next = some ⟨#[.int .u64 x, .slice va l.length vc], 1, true⟩ := (x3.same _ (by omega)).trans bH
      obtain ⟨M3, hM3⟩ : ∃ M3, M3 = putAll (fun _ => 0) l := ⟨_, rfl⟩
      rw [← hM3] at r3
      simp -dsimp (disch := omega)
      refine Rm.bytes_call (x := 0) (n := N) r3 (fun _ => ?_) (fun hx => by omega)
      obtain ⟨now, hnow⟩ : ∃ now, now = txt (bytesM M3 0 N) := ⟨_, rfl⟩
      rw [← hnow]
      have hnsz : now.size = N := by rw [hnow, txt_size, bytesM_length]
      simp -dsimp (disch := omega) [b3]
      refine awpF_of (loads_loop (i := h.next) (x := x) (N := N) (l := l) N1 b3 (sl x3) hl hL rfl rfl rfl rfl rfl rfl rfl ?_)
      intro t' u3 u8 u9 u11 u12 u14
      rw [hf] at u14
      simp -dsimp (disch := omega) [u3, u14, b3]
      refine theirs_call (x := x) (sl x3) hl (by omega) fun h4 w4 x4 r4 => ?_
      have n4 := x4.le
      have x04 : Ext H h4 := x3.trans x4
      obtain ⟨wa, wc, rfl⟩ := r4.slice
      simp -dsimp (disch := omega) [imV]
      have x05 : Ext H (h4.alloc ⟨#[.int .u64 x, .slice wa l.length wc], 1, true⟩) := x04.trans (Ext.alloc _ _)
      have r5 := Row.alloc r4 ⟨#[.int .u64 x, .slice wa l.length wc], 1, true⟩
      have b5 : (h4.alloc ⟨#[.int .u64 x, .slice wa l.length wc], 1, true⟩).blks h4.next = some ⟨#[.int .u64 x, .slice wa l.length wc], 1, true⟩ := blks_alloc_eq _ _
      obtain ⟨h5, hh5⟩ : ∃ h5, h5 = h4.alloc ⟨#[.int .u64 x, .slice wa l.length wc], 1, true⟩ := ⟨_, rfl⟩
      rw [← hh5] at x05 r5 b5 ⊢
      have hge : ∀ g ∈ l, 2147483648 ≤ g.a := fun g hg => (fit_at hf hg).1
      refine awp_loop (fun t h' => h' = h5 ∧ ∃ k : Nat, k ≤ N ∧ t 8 = .int .u64 N ∧ t 11 = .int .i64 0 ∧ t 12 = .string now ∧ t 18 = .pointer (some ⟨h4.next, 0, none⟩) ∧ t 19 = .int .i64 (k : Nat)) (fun t _ => N - ivN (t 19)) ?_ ?_
      · simp -dsimp (disch := omega) [u8, u11, u12]
        exact ⟨0, Nat.zero_le _, rfl⟩
      · rintro t _ ⟨rfl, k, hk, v8, v11, v12, v18, v19⟩
        refine vcF_sound mixed (tb := tb0) _ (by kernel_rfl) ?_
        simp -dsimp (disch := omega) [v12, v19, hnsz]
        by_cases hc : k < N
        · have hc' : (k : Int) < N := by omega
          have hb := bytes_at (N := N) (k := k) r3.M8 hc
          rw [← hnow] at hb
          simp -dsimp (disch := omega) [v8, v11, v12, v18, v19, hc, hc', b5, hnsz]
          refine refByte_call (x := x) (off := k) (by omega) (Row.sl r5) hl hL hge ?_
          rw [← hM3, hb]
          simp -dsimp (disch := omega) [v8, v11, v12, v18, v19]
          exact ⟨⟨k + 1, by omega, by simp⟩, by simp [ivN]; omega⟩
        · have hk' : k = N := by omega
          subst hk'
          simp -dsimp (disch := omega) [v8, v11, v12, v19, hnsz]
          refine awake_call (aw x05) (by have := x05.le; omega) ?_
          simp -dsimp (disch := omega)
          exact RetF.all (by simp) (hK _)
    · simp -dsimp (disch := omega)
      refine Rm.bytes_call (x := 0) (n := N) r2 (fun _ => ?_) (fun hx => by omega)
      rw [← hwas]
      simp -dsimp (disch := omega) [b2]
      refine awpF_of (loads_loop (i := h.next) (x := x) (N := N) (l := l) N1 b2 (sl x2) hl hL rfl rfl rfl rfl rfl rfl rfl ?_)
      intro t' u3 u8 u9 u11 u12 u14
      rw [hf] at u14
      simp -dsimp (disch := omega) [u9, u11, u12, u14]
      refine awake_call (aw x2) (by omega) ?_
      simp -dsimp (disch := omega)
      exact RetF.all (by simp) (hK _)
end Go.Proofs.YtcbagjhbmdmjfaaDoor
