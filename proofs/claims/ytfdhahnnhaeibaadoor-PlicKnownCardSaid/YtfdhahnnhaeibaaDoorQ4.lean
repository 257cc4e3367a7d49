/-
  The document's Write.
-/
import Derived.Test.YtfdhahnnhaeibaaDoorQ3
set_option linter.unusedSimpArgs false
set_option linter.unusedVariables false
set_option linter.unusedSectionVars false
namespace Go.Proofs.YtfdhahnnhaeibaaDoor
open Go Go.Mini Go.Proofs.Tryd
set_option maxRecDepth 100000

/-- What a write does to a context's registers. -/
def stepW (off v c : Nat) (s : St) : St :=
  if off = 8192 + 128 * c then { s with en := upd1 s.en c (v &&& 254) }
  else if off = 2097152 + 4096 * c then { s with th := upd1 s.th c (v % 8) }
  else if off = 2097156 + 4096 * c then completeS s c (v % 4294967296)
  else s
def priW (off v : Nat) (s : St) : St := if 4 ≤ off ∧ off < 32 then { s with pr := upd1 s.pr (off / 4) (v % 8) } else s
theorem write_steps {off v : Nat} {s : St} (h4 : off % 4 = 0) : stepW off v 1 (stepW off v 0 (priW off v s)) = writeS s off v := by
  unfold priW writeS
  by_cases c1 : 0 < off ∧ off < 32
  · rw [if_pos c1, if_pos (by omega)]
    unfold stepW
    rw [if_neg (by omega), if_neg (by omega), if_neg (by omega), if_neg (by omega), if_neg (by omega), if_neg (by omega)]
  · rw [if_neg c1, if_neg (by omega)]
    unfold stepW
    by_cases n0 : off = 4096
    · subst n0; rfl
    by_cases n1 : off = 8320
    · subst n1; rfl
    by_cases n2 : off = 8192
    · subst n2; rfl
    by_cases n3 : off = 2101248
    · subst n3; rfl
    by_cases n4 : off = 2097152
    · subst n4; rfl
    by_cases n5 : off = 2101252
    · subst n5; rfl
    by_cases n6 : off = 2097156
    · subst n6; rfl
    simp [n0, n1, n2, n3, n4, n5, n6]
theorem land254 (v : Nat) : v &&& 254 < 256 := Nat.lt_of_le_of_lt Nat.and_le_right (by omega)
theorem land254_bit (v k : Nat) (hk : k < 8) : (v &&& 254) / 2 ^ k % 2 = if k = 0 then 0 else v / 2 ^ k % 2 := by
  rw [bit_testBit, Nat.testBit_and, bit_testBit]
  have : (254 : Nat).testBit k = decide (k ≠ 0) := by
    rcases (by omega : k = 0 ∨ k = 1 ∨ k = 2 ∨ k = 3 ∨ k = 4 ∨ k = 5 ∨ k = 6 ∨ k = 7) with rfl | rfl | rfl | rfl | rfl | rfl | rfl | rfl <;> rfl
  rw [this]
  by_cases h : k = 0
  · simp [h]
  · simp [h]
theorem Inv2.gate_of {s : St} {n : Nat} (pr : ∀ n, s.pr n < 8) (p0 : s.pr 0 = 0) (en : ∀ c, s.en c < 256) (e0 : ∀ c, s.en c % 2 = 0) (th : ∀ c, s.th c < 8) (h0 : s.hi 0 = false) (g : ∀ i, i ≠ n → s.hi i = true → s.se i = false → s.pe i = true) : Inv2 (gateS s n) := by
  have e : gateS s n = { s with pe := (gateS s n).pe } := by unfold gateS; split <;> rfl
  have gt : ∀ i, s.hi i = true → s.se i = false → (gateS s n).pe i = true := by
    intro i h1 h2
    rw [gate_pe]
    by_cases hi : i = n
    · subst hi
      cases h3 : s.pe i with
      | true => split <;> simp [upd1, h3]
      | false => simp [h1, h2, upd1]
    · have := g i hi h1 h2
      split
      · rw [upd1_ne _ _ hi]; exact this
      · exact this
  rw [e]
  exact ⟨pr, p0, en, e0, th, gt, h0⟩
theorem Inv2.raise {s : St} (q : Inv2 s) {n : Nat} (hn : 1 ≤ n) (x : Bool) : Inv2 (raiseS s n x) := by
  unfold raiseS
  refine Inv2.gate_of (s := { s with hi := upd1 s.hi n x }) q.pr q.p0 q.en q.e0 q.th ?_ fun i hi h1 h2 => ?_
  · show upd1 s.hi n x 0 = false
    rw [upd1_ne _ _ (by omega)]; exact q.h0
  · have h1 : upd1 s.hi n x i = true := h1
    rw [upd1_ne _ _ hi] at h1
    exact q.gt i h1 h2
theorem Inv2.claim {s : St} (q : Inv2 s) (c : Nat) : Inv2 (claimS s c) := by
  unfold claimS
  split
  · refine ⟨q.pr, q.p0, q.en, q.e0, q.th, fun i h1 h2 => ?_, q.h0⟩
    have h2 : upd1 s.se (bestS s c) true i = false := h2
    show upd1 s.pe (bestS s c) false i = true
    by_cases hi : i = bestS s c
    · rw [hi, upd1_same] at h2; cases h2
    · rw [upd1_ne _ _ hi] at h2 ⊢
      exact q.gt i h1 h2
  · exact q
theorem Inv2.complete {s : St} (q : Inv2 s) (c n : Nat) : Inv2 (completeS s c n) := by
  unfold completeS
  split
  · exact q
  · refine Inv2.gate_of (s := { s with se := upd1 s.se n false }) q.pr q.p0 q.en q.e0 q.th q.h0 fun i hi h1 h2 => ?_
    have h2 : upd1 s.se n false i = false := h2
    rw [upd1_ne _ _ hi] at h2
    exact q.gt i h1 h2
theorem Inv2.setpr {s : St} (q : Inv2 s) {n v : Nat} (hn : 1 ≤ n) : Inv2 { s with pr := upd1 s.pr n (v % 8) } :=
  ⟨upd1_lt q.pr (Nat.mod_lt _ (by omega)), by show upd1 s.pr n _ 0 = 0; rw [upd1_ne _ _ (by omega)]; exact q.p0, q.en, q.e0, q.th, q.gt, q.h0⟩
theorem Inv2.setth {s : St} (q : Inv2 s) (c v : Nat) : Inv2 { s with th := upd1 s.th c (v % 8) } := ⟨q.pr, q.p0, q.en, q.e0, upd1_lt q.th (Nat.mod_lt _ (by omega)), q.gt, q.h0⟩
theorem Inv2.seten {s : St} (q : Inv2 s) (c v : Nat) : Inv2 { s with en := upd1 s.en c (v &&& 254) } :=
  ⟨q.pr, q.p0, upd1_lt q.en (land254 v), fun i => by
    show upd1 s.en c (v &&& 254) i % 2 = 0
    unfold upd1
    split
    · have := land254_bit v 0 (by omega); simpa using this
    · exact q.e0 i, q.th, q.gt, q.h0⟩
theorem Inv2.stepW {s : St} (q : Inv2 s) (off v c : Nat) : Inv2 (stepW off v c s) := by
  unfold YtfdhahnnhaeibaaDoor.stepW
  split
  · exact q.seten c v
  · split
    · exact q.setth c v
    · split
      · exact q.complete c _
      · exact q
theorem Inv2.priW {s : St} (q : Inv2 s) (off v : Nat) : Inv2 (priW off v s) := by
  unfold YtfdhahnnhaeibaaDoor.priW
  split
  · exact q.setpr (by omega)
  · exact q
theorem Inv2.write {s : St} (q : Inv2 s) {off : Nat} (v : Nat) (h4 : off % 4 = 0) : Inv2 (writeS s off v) := by
  rw [← write_steps h4]
  exact ((q.priW off v).stepW off v 0).stepW off v 1
theorem Inv2.read {s : St} (q : Inv2 s) (off : Nat) : Inv2 (readS s off).2 := by
  unfold readS
  repeat' split
  all_goals first | exact q | exact q.claim _
theorem Inv2.st0 : Inv2 st0 := ⟨fun _ => Nat.zero_lt_succ _, rfl, fun _ => Nat.zero_lt_succ _, fun _ => rfl, fun _ => Nat.zero_lt_succ _, fun _ h => by simp [YtfdhahnnhaeibaaDoor.st0] at h, rfl⟩
def enP (s : St) (c v i : Nat) : Nat → Nat → Bool := fun a k => if a = c ∧ 1 ≤ k ∧ k < i then decide (v / 2 ^ k % 2 = 1) else enB s a k
theorem enP_one (s : St) (c v : Nat) : enP s c v 1 = enB s := by
  funext a k
  unfold enP
  rw [if_neg (by omega)]
theorem enP_succ (s : St) (c v i : Nat) (hi : 1 ≤ i) : upd2 (enP s c v i) c i (decide (v / 2 ^ i % 2 = 1)) = enP s c v (i + 1) := by
  funext a k
  unfold upd2 enP
  by_cases h : a = c ∧ k = i
  · rw [if_pos h, if_pos (by omega), h.2]
  · rw [if_neg h]
    by_cases h2 : a = c ∧ 1 ≤ k ∧ k < i
    · rw [if_pos h2, if_pos (by omega)]
    · rw [if_neg h2, if_neg (by omega)]
theorem enP_all {s : St} (q : Inv2 s) {c v : Nat} : rA s (enP s c v 8) = rC { s with en := upd1 s.en c (v &&& 254) } := by
  refine (rA_E s (E' := enB { s with en := upd1 s.en c (v &&& 254) }) fun a k ha hk => ?_).trans (rA_ext fun i _ => by simp only [rcell])
  unfold enP
  by_cases h : a = c
  · subst h
    have e : enB { s with en := upd1 s.en a (v &&& 254) } a k = decide ((v &&& 254) / 2 ^ k % 2 = 1) := by unfold enB; simp [upd1]
    rw [e, land254_bit v k hk]
    by_cases h0 : k = 0
    · subst h0
      rw [if_neg (by omega), if_pos rfl]
      unfold enB
      have := q.e0 a
      simp [this]
    · rw [if_pos ⟨rfl, by omega, hk⟩, if_neg h0]
  · rw [if_neg (by omega)]
    unfold enB
    simp [upd1, h]
theorem and1_u64 (y : Nat) (hy : y < 18446744073709551616) (ty : TypeId) (xo yo : Operand) : abin prog .and ty xo yo (.int .u64 (y : Nat)) (.int .u64 1) = some (.int .u64 ((y % 2 : Nat) : Int)) := abin_low y 1 1 (y % 2) (by omega) hy (by rfl) rfl ty xo yo
section
variable {h : Hp} {K : Value → Hp → Prop} {p : Nat} {s : St}
set_option maxHeartbeats 2000000 in
theorem refWrite_loop {Q : APost} {off v : Nat} {h2 : Hp} {t : Tm} {s1 : St} (q1 : Inv2 s1) (hp : p < h.next) (ho : off < 18446744073709551616) (hv : v < 18446744073709551616) (h20 : h2 = h.set p ⟨rC s1, 1, true⟩) (g0 : t 0 = ptr p) (g1 : t 1 = .int .u64 off) (g2 : t 2 = .int .u64 v) (g9 : t 9 = .int .i64 0)
    (hQ : ∀ t, apQ Q (.exit 0) t (h.set p ⟨rC (stepW off v 1 (stepW off v 0 s1)), 1, true⟩) (.mk _)) : Awp prog f26.ntmps (.loop (loopC (blkC (sndC (fstC (sndC (sndC (sndC (bodyC f26))))))))) Q t h2 := by
  let S : Nat → St := fun c => if c = 0 then s1 else if c = 1 then stepW off v 0 s1 else stepW off v 1 (stepW off v 0 s1)
  have S0 : S 0 = s1 := rfl
  have S2 : S 2 = stepW off v 1 (stepW off v 0 s1) := rfl
  have SI : ∀ c, c ≤ 2 → Inv2 (S c) := fun c hc => by
    obtain rfl | rfl | rfl : c = 0 ∨ c = 1 ∨ c = 2 := by omega
    · exact q1
    · exact q1.stepW off v 0
    · exact (q1.stepW off v 0).stepW off v 1
  have SN : ∀ c, c < 2 → S (c + 1) = stepW off v c (S c) := fun c hc => by
    obtain rfl | rfl : c = 0 ∨ c = 1 := by omega
    · rfl
    · rfl
  rw [← S0] at h20
  rw [← S2] at hQ
  generalize S = S at *
  refine awp_loop (fun t h' => ∃ c : Nat, c ≤ 2 ∧ h' = h.set p ⟨rC (S c), 1, true⟩ ∧ t 0 = ptr p ∧ t 1 = .int .u64 off ∧ t 2 = .int .u64 v ∧ t 9 = .int .i64 c) (fun t _ => 2 - ivN (t 9)) ?_ ?_
  · exact ⟨0, by omega, h20, g0, g1, g2, g9⟩
  · clear h20 g0 g1 g2 g9
    rintro t h' ⟨c, hc, rfl, t0, t1, t2, t9⟩
    have e : loopC (blkC (sndC (fstC (sndC (sndC (sndC (bodyC f26))))))) = loopC (blkC (sndC (fstC (sndC (sndC (sndC (bodyC f26))))))) := rfl
    conv at e => rhs; whnf
    rw [e]
    clear e
    refine vcF_sound mixed (tb := tb0) _ (by kernel_rfl) ?_
    by_cases hc2 : c < 2
    · have hc2' : (c : Int) < 2 := by omega
      have sn := SN c hc2
      have qs := SI c hc
      obtain ⟨r1, hr1⟩ : ∃ r, r = 8192 + 128 * c := ⟨_, rfl⟩
      have er1 : 8192 + 128 * (c : Int) = (r1 : Nat) := by omega
      obtain ⟨r2, hr2⟩ : ∃ r, r = 2097152 + 4096 * c := ⟨_, rfl⟩
      have er2 : 2097152 + 4096 * (c : Int) = (r2 : Nat) := by omega
      obtain ⟨r3, hr3⟩ : ∃ r, r = 2097156 + 4096 * c := ⟨_, rfl⟩
      have er3 : 2097156 + 4096 * (c : Int) = (r3 : Nat) := by omega
      unfold stepW at sn
      rw [← hr1, ← hr2, ← hr3] at sn
      generalize hsx : S c = sc at *
      by_cases d1 : off = r1
      · subst d1
        rw [if_pos rfl] at sn
        simp -dsimp (disch := omega) [t0, t1, t2, t9, hc2, hc2', er1]
        refine awp_loop (fun t2 h2 => ∃ i : Nat, 1 ≤ i ∧ i ≤ 8 ∧ h2 = h.set p ⟨rA sc (enP sc c v i), 1, true⟩ ∧ t2 0 = ptr p ∧ t2 1 = .int .u64 off ∧ t2 2 = .int .u64 v ∧ t2 9 = .int .i64 c ∧ t2 10 = .int .i64 i) (fun t2 _ => 8 - ivN (t2 10)) ?_ ?_
        · simp -dsimp (disch := omega) [t0, t1, t2, t9]
          exact ⟨1, by omega, by omega, by rw [enP_one]; rfl, rfl⟩
        · rintro t' h2 ⟨i, hi1, hi8, rfl, t0, t1, t2, u9, t10⟩
          refine vcF_sound mixed (tb := tb0) _ (by kernel_rfl) ?_
          by_cases hi : i < 8
          · have hi' : (i : Int) < 8 := by omega
            have sh := shr_u64 v i (by omega)
            have lv : v / 2 ^ i < 18446744073709551616 := Nat.lt_of_le_of_lt (Nat.div_le_self _ _) hv
            have an := and1_u64 (v / 2 ^ i) lv
            have st := rA_seten sc (enP sc c v i) hc2 hi (decide (v / 2 ^ i % 2 = 1))
            rw [enP_succ sc c v i hi1] at st
            generalize v / 2 ^ i = y at *
            generalize hz : y % 2 = z at *
            rcases (by omega : z = 0 ∨ z = 1) with rfl | rfl
            · have z0 : ((0 : Nat) : Int) = 0 := rfl
              rw [decide_eq_false (by omega)] at st
              simp -dsimp (disch := omega) [t0, t1, t2, t9, u9, t10, hi, hi', sh, an, st, -abin_and]
              exact ⟨⟨i + 1, by omega, by omega, rfl, by simp⟩, by simp [ivN]; omega⟩
            · rw [decide_eq_true rfl] at st
              simp -dsimp (disch := omega) [t0, t1, t2, t9, u9, t10, hi, hi', sh, an, st, -abin_and]
              exact ⟨⟨i + 1, by omega, by omega, rfl, by simp⟩, by simp [ivN]; omega⟩
          · obtain rfl : i = 8 := by omega
            have t10' : t' 10 = .int .i64 8 := t10
            simp -dsimp (disch := omega) [t0, t1, t2, t9, u9, t10']
            exact ⟨⟨c + 1, by omega, by rw [sn, ← enP_all qs], by simp⟩, by simp [ivN]; omega⟩
      have d1' : ¬ (off : Int) = r1 := by omega
      rw [if_neg d1] at sn
      by_cases d2 : off = r2
      · subst d2
        rw [if_pos rfl] at sn
        have hv8 : (v : Int) % 8 = ((v % 8 : Nat) : Int) := by omega
        have hv8l : v % 8 < 8 := Nat.mod_lt _ (by omega)
        have st : (rC sc).setIfInBounds (48 + c) (.int .i64 ((v % 8 : Nat) : Int)) = rC (S (c + 1)) := by rw [sn]; exact rA_setth sc (enB sc) hc2 (v % 8)
        generalize v % 8 = v8 at *
        simp -dsimp (disch := omega) [t0, t1, t2, t9, hc2, hc2', d1, d1', er1, er2, hv8, st]
        exact ⟨⟨c + 1, by omega, rfl, by simp⟩, by simp [ivN]; omega⟩
      have d2' : ¬ (off : Int) = r2 := by omega
      rw [if_neg d2] at sn
      by_cases d3 : off = r3
      · subst d3
        rw [if_pos rfl] at sn
        have hv32 : (v : Int) % 4294967296 = ((v % 4294967296 : Nat) : Int) := by omega
        have hv32l : v % 4294967296 < 4294967296 := Nat.mod_lt _ (by omega)
        generalize v % 4294967296 = n at *
        unfold completeS at sn
        by_cases hn : n < 8
        · have hn' : (n : Int) < 8 := by omega
          have a1 : (rC sc)[32 + c * 8 + n]? = some (.bool (enB sc c n)) := rA_en sc (enB sc) hc2 hn
          have st : (rC sc).setIfInBounds (24 + n) (.bool false) = rC { sc with se := upd1 sc.se n false } := rA_setse sc (enB sc) hn false
          cases he : enB sc c n with
          | false =>
            rw [he] at a1
            have : sc.en c / 2 ^ n % 2 = 0 := by
              have h := of_decide_eq_false he
              omega
            rw [if_pos (.inr this)] at sn
            simp -dsimp (disch := omega) [t0, t1, t2, t9, hc2, hc2', d1, d1', d2, d2', er1, er2, er3, hv32, hn, hn', a1]
            exact ⟨⟨c + 1, by omega, by rw [sn], by simp⟩, by simp [ivN]; omega⟩
          | true =>
            rw [he] at a1
            have hb1 : sc.en c / 2 ^ n % 2 = 1 := of_decide_eq_true he
            rw [if_neg (by omega)] at sn
            have n1 : 1 ≤ n := by
              rcases Nat.eq_zero_or_pos n with h | h
              · subst h
                have := qs.e0 c
                simp at hb1
                omega
              · exact h
            have e5 := gatesS_eq (s := { sc with se := upd1 sc.se n false }) n1 hn (fun i hi e1 e2 => by
              have e2 : upd1 sc.se n false i = false := e2
              rw [upd1_ne _ _ hi] at e2
              exact qs.gt i e1 e2)
            simp -dsimp (disch := omega) [t0, t1, t2, t9, hc2, hc2', d1, d1', d2, d2', er1, er2, er3, hv32, hn, hn', a1, st]
            refine gates_call (s := { sc with se := upd1 sc.se n false }) (blks_set_eq _ _ _) hp ?_
            rw [e5]
            simp -dsimp (disch := omega) [t0, t1, t2, t9]
            exact ⟨⟨c + 1, by omega, by rw [sn]; exact congrArg (fun x => h.set p ⟨x, 1, true⟩) (rC_set1 (by rw [show (gateS { sc with se := upd1 sc.se n false } n).en = sc.en from by unfold gateS; split <;> rfl])), by simp⟩, by simp [ivN]; omega⟩
        · have hn' : ¬ (n : Int) < 8 := by omega
          rw [if_pos (.inl (by omega))] at sn
          simp -dsimp (disch := omega) [t0, t1, t2, t9, hc2, hc2', d1, d1', d2, d2', er1, er2, er3, hv32, hn, hn']
          exact ⟨⟨c + 1, by omega, by rw [sn], by simp⟩, by simp [ivN]; omega⟩
      have d3' : ¬ (off : Int) = r3 := by omega
      rw [if_neg d3] at sn
      simp -dsimp (disch := omega) [t0, t1, t2, t9, hc2, hc2', d1, d1', d2, d2', d3, d3', er1, er2, er3]
      exact ⟨⟨c + 1, by omega, by rw [sn], by simp⟩, by simp [ivN]; omega⟩
    · obtain rfl : c = 2 := by omega
      have t9' : t 9 = .int .i64 2 := t9
      simp -dsimp (disch := omega) [t9']
      exact hQ _
set_option maxHeartbeats 2000000 in
theorem refWrite_call {off v : Nat} {w : Int} (q : Inv2 s) (hb : h.blks p = some ⟨rC s, 1, true⟩) (hp : p < h.next) (ho : off < 18446744073709551616) (hv : v < 18446744073709551616) (k0 : mayN off w = false → K (.bool false) h)
    (k1 : mayN off w = true → K (.bool true) (h.set p ⟨rC (writeS s off v), 1, true⟩)) : ACall prog 26 [ptr p, .int .u64 off, .int .u64 v, .int .i64 w] h K := by
  refine acallF_of tb0 func26 rfl rfl mixed (by kernel_rfl) fun hwf => ?_
  simp -dsimp (disch := omega)
  refine rmay_call ho ?_
  cases hm : mayN off w with
  | false =>
    simp -dsimp (disch := omega)
    exact RetF.same hwf (by simp) (Nat.zero_le _) (fun _ _ => rfl) (k0 hm)
  | true =>
    have hK := k1 hm
    clear k0 k1
    have h4 : off % 4 = 0 := by
      unfold mayN at hm
      simp only [Bool.and_eq_true, decide_eq_true_eq] at hm
      exact hm.1.2
    rw [← write_steps h4] at hK
    have q1 := q.priW off v
    by_cases hc : 4 ≤ off ∧ off < 32
    · have c1a : (4 : Int) ≤ off := by omega
      have c1b : (off : Int) < 32 := by omega
      have hd : off / 4 < 8 := by omega
      have hv8 : (v : Int) % 8 = ((v % 8 : Nat) : Int) := by omega
      have hv8l : v % 8 < 8 := Nat.mod_lt _ (by omega)
      have e0 : priW off v s = { s with pr := upd1 s.pr (off / 4) (v % 8) } := by unfold priW; rw [if_pos hc]
      obtain ⟨c1c, c1d⟩ := hc
      have ed : (off : Int) / 4 = ((off / 4 : Nat) : Int) := by omega
      have st : (rC s).setIfInBounds (off / 4) (.int .i64 ((v % 8 : Nat) : Int)) = rC (priW off v s) := by rw [e0]; exact rA_setpr s (enB s) hd (v % 8)
      clear e0
      generalize off / 4 = d at *
      generalize v % 8 = v8 at *
      simp -dsimp (disch := omega) [c1a, c1b, c1c, c1d, ed, hb, hd, hv8, st]
      refine awpF_of (refWrite_loop (h := h) (off := off) (v := v) q1 hp ho hv rfl (by simp) (by simp) (by simp) (by simp) fun t' => ?_)
      simp -dsimp (disch := omega)
      exact RetF.all (r := .bool true) (by simp) hK
    · have e0 : priW off v s = s := by unfold priW; rw [if_neg hc]
      rw [e0] at hK
      by_cases c4 : 4 ≤ off
      · have c1a : (4 : Int) ≤ off := by omega
        have c1b : ¬ (off : Int) < 32 := by omega
        have c1d : ¬ off < 32 := by omega
        simp -dsimp (disch := omega) [c1a, c1b, c4, c1d]
        refine awpF_of (refWrite_loop (h := h) (off := off) (v := v) q hp ho hv (set_same hb).symm (by simp) (by simp) (by simp) (by simp) fun t' => ?_)
        simp -dsimp (disch := omega)
        exact RetF.all (r := .bool true) (by simp) hK
      · have c1a : ¬ (4 : Int) ≤ off := by omega
        simp -dsimp (disch := omega) [c1a, c4]
        refine awpF_of (refWrite_loop (h := h) (off := off) (v := v) q hp ho hv (set_same hb).symm (by simp) (by simp) (by simp) (by simp) fun t' => ?_)
        simp -dsimp (disch := omega)
        exact RetF.all (r := .bool true) (by simp) hK
end
end Go.Proofs.YtfdhahnnhaeibaaDoor
