/-
  The document's bits, may, digit, Read.
-/
import Derived.Test.YtfdhahnnhaeibaaDoorQ2
set_option linter.unusedSimpArgs false
set_option linter.unusedVariables false
set_option linter.unusedSectionVars false
namespace Go.Proofs.YtfdhahnnhaeibaaDoor
open Go Go.Mini Go.Proofs.Tryd
set_option maxRecDepth 100000

def bitsK (m : Nat → Bool) : Nat → Nat
  | 0 => 0
  | k + 1 => bitsK m k + if m k = true then 2 ^ k else 0
theorem bitsK_lt (m : Nat → Bool) : ∀ k, bitsK m k < 2 ^ k := by
  intro k
  induction k with
  | zero => simp [bitsK]
  | succ k ih =>
    simp only [bitsK, Nat.pow_succ]
    split <;> omega
theorem bitsK_pe (s : St) : ∀ k, bitsK s.pe k = pendK s k := by
  intro k
  induction k with
  | zero => rfl
  | succ k ih => simp only [bitsK, pendK, ih]
theorem bitsK_en (s : St) (c : Nat) : ∀ k, bitsK (enB s c) k = s.en c % 2 ^ k := by
  intro k
  induction k with
  | zero => simp [bitsK, Nat.mod_one]
  | succ k ih =>
    rw [mod_bit]
    simp only [bitsK, ih, enB, decide_eq_true_eq]
    have : s.en c / 2 ^ k % 2 = 0 ∨ s.en c / 2 ^ k % 2 = 1 := by omega
    rcases this with h | h
    · rw [h, if_neg (by omega), Nat.zero_mul]
    · rw [h, if_pos rfl, Nat.one_mul]
theorem bits_en {s : St} (q : Inv2 s) (c : Nat) : bitsK (enB s c) 8 = s.en c := by
  rw [bitsK_en]; exact Nat.mod_eq_of_lt (q.en c)
def digitL : List UInt8 := [48, 49, 50, 51, 52, 53, 54, 55, 56, 57, 97, 98, 99, 100, 101, 102]
def dig (n : Nat) : UInt8 := digitL.getD n 0
theorem readS_none {s : St} {off : Nat} (h1 : ¬ (0 < off ∧ off < 32)) (h2 : off ≠ 4096) (h3 : off ≠ 8320) (h4 : off ≠ 8192) (h5 : off ≠ 2101248) (h6 : off ≠ 2097152) (h7 : off ≠ 2101252) (h8 : off ≠ 2097156) : readS s off = (0, s) := by
  unfold readS
  rw [if_neg h1, if_neg h2, if_neg h3, if_neg h4, if_neg h5, if_neg h6, if_neg h7, if_neg h8]
theorem rC_en {s s' : St} (h1 : s'.pr = s.pr) (h2 : s'.hi = s.hi) (h3 : s'.pe = s.pe) (h4 : s'.se = s.se) (h5 : s'.th = s.th) {E : Nat → Nat → Bool} : rA s' E = rA s E := by
  refine rA_ext fun i _ => ?_
  simp only [rcell, h1, h2, h3, h4, h5]
theorem rC_set1 {s : St} {s' : St} (h : s'.en = s.en) : rA s' (enB s) = rC s' := by
  unfold rC
  congr 1
  funext c k
  simp only [enB, h]
section
variable {h : Hp} {K : Value → Hp → Prop} {p : Nat} {s : St}
theorem bits_call {m : Nat → Bool} (hK : K (.int .u64 (bitsK m 8 : Nat)) h) : ACall prog 32 [.agg (boolC m)] h K := by
  refine acallF_of tb0 func32 rfl rfl mixed (by kernel_rfl) fun hwf => ?_
  obtain ⟨C, hC⟩ : ∃ C, C = boolC m := ⟨_, rfl⟩
  have hCs : C.size = 8 := by rw [hC]; exact boolC_size _
  have hCa : ∀ k, k < 8 → C[k]? = some (.bool (m k)) := fun k hk => by rw [hC]; exact boolC_at m hk
  have hok : oneAll C.toList = true := by rw [← oneAll_eq, hC]; simp [boolC, Value.oneCell']
  rw [← hC]
  simp -dsimp (disch := omega) [hCs, hok]
  refine awp_loop (fun t h' => h' = h.alloc ⟨C, 1, true⟩ ∧ ∃ k : Nat, k ≤ 8 ∧ t 1 = ptr h.next ∧ t 3 = .int .u64 (bitsK m k : Nat) ∧ t 4 = .int .i64 k) (fun t _ => 8 - ivN (t 4)) ?_ ?_
  · simp -dsimp (disch := omega)
    exact ⟨0, by omega, rfl, rfl⟩
  · rintro t h' ⟨rfl, k, hk, t1, t3, t4⟩
    refine vcF_sound mixed (tb := tb0) _ (by kernel_rfl) ?_
    by_cases hk8 : k < 8
    · have hk8' : (k : Int) < 8 := by omega
      have a1 := hCa k hk8
      have bl := bitsK_lt m k
      have h2k : 2 ^ k ≤ 2 ^ 7 := Nat.pow_le_pow_right (by omega) (by omega)
      have hs : bitsK m (k + 1) = bitsK m k + if m k = true then 2 ^ k else 0 := rfl
      cases e1 : m k with
      | false =>
        rw [e1] at a1 hs
        rw [if_neg (by simp), Nat.add_zero] at hs
        simp -dsimp (disch := omega) [t1, t3, t4, hk8, hk8', a1, -getElem?_pos]
        exact ⟨⟨k + 1, by omega, by rw [hs]; simp, by simp⟩, by simp [ivN]; omega⟩
      | true =>
        rw [e1] at a1 hs
        rw [if_pos rfl] at hs
        have a2 : IntKind.u64.wrap ((2 : Int) ^ (min k IntKind.u64.bits)) = ((2 ^ k : Nat) : Int) := by
          have := shl_u64 1 k (by omega) (2 ^ k) (by omega) (by omega)
          simpa using this
        generalize bitsK m k = b at *
        generalize 2 ^ k = B at *
        simp -dsimp (disch := omega) [t1, t3, t4, hk8, hk8', a1, a2, -getElem?_pos]
        exact ⟨⟨k + 1, by omega, by rw [hs]; simp, by simp⟩, by simp [ivN]; omega⟩
    · obtain rfl : k = 8 := by omega
      have t4' : t 4 = .int .i64 8 := t4
      simp -dsimp (disch := omega) [t1, t3, t4']
      exact RetF.same hwf (by simp) (Nat.zero_le _) (fun i hi => by simp (disch := omega)) hK
theorem rmay_call {off : Nat} {w : Int} (ho : off < 18446744073709551616) (hK : K (.bool (mayN off w)) h) : ACall prog 36 [.int .u64 off, .int .i64 w] h K := by
  refine acallF_of tb0 func36 rfl rfl mixed (by kernel_rfl) fun hwf => ?_
  unfold mayN at hK
  obtain ⟨r, hr⟩ : ∃ r, r = off % 4 := ⟨_, rfl⟩
  rw [← hr] at hK
  have e1 : (off : Int) % 4 = r := by omega
  have e2 : Int.tmod (off : Int) 4 = r := by rw [Int.tmod_eq_emod_of_nonneg (by omega)]; exact e1
  by_cases c1 : w = 4
  · rw [decide_eq_true c1, Bool.true_and] at hK
    by_cases c2 : r = 0
    · rw [decide_eq_true c2, Bool.true_and] at hK
      simp -dsimp (disch := omega) [c1, e1, e2, c2]
      refine RetF.same (r := .bool (decide ((off : Int) < 2105344))) hwf (by simp) (Nat.zero_le _) (fun _ _ => rfl) ?_
      rw [show decide ((off : Int) < 2105344) = decide (off < 2105344) from by rw [decide_eq_decide]; omega]
      exact hK
    · rw [decide_eq_false c2, Bool.false_and] at hK
      simp -dsimp (disch := omega) [c1, e1, e2, c2]
      exact RetF.same hwf (by simp) (Nat.zero_le _) (fun _ _ => rfl) hK
  · rw [decide_eq_false c1, Bool.false_and, Bool.false_and] at hK
    simp -dsimp (disch := omega) [c1]
    exact RetF.same hwf (by simp) (Nat.zero_le _) (fun _ _ => rfl) hK
theorem digit_call {n : Nat} (hn : n < 16) (hK : K (.string (txt [dig n])) h) : ACall prog 31 [.int .u64 n] h K := by
  refine acallF_of tb0 func31 rfl rfl mixed (by kernel_rfl) fun hwf => ?_
  have e : (txt digitL).extract n (n + 1) = txt [dig n] := by
    rcases (by omega : n = 0 ∨ n = 1 ∨ n = 2 ∨ n = 3 ∨ n = 4 ∨ n = 5 ∨ n = 6 ∨ n = 7 ∨ n = 8 ∨ n = 9 ∨ n = 10 ∨ n = 11 ∨ n = 12 ∨ n = 13 ∨ n = 14 ∨ n = 15) with rfl | rfl | rfl | rfl | rfl | rfl | rfl | rfl | rfl | rfl | rfl | rfl | rfl | rfl | rfl | rfl <;> kernel_rfl
  unfold digitL at e
  simp -dsimp (disch := omega) [e]
  exact RetF.same hwf (by simp) (Nat.zero_le _) (fun _ _ => rfl) hK
set_option maxHeartbeats 2000000 in
theorem refRead_call {off : Nat} {w : Int} (q : Inv2 s) (hb : h.blks p = some ⟨rC s, 1, true⟩) (hp : p < h.next) (ho : off < 18446744073709551616) (k0 : mayN off w = false → K (.tuple #[.int .u64 0, .bool false]) h)
    (k1 : mayN off w = true → K (.tuple #[.int .u64 (readS s off).1, .bool true]) (h.set p ⟨rC (readS s off).2, 1, true⟩)) : ACall prog 25 [ptr p, .int .u64 off, .int .i64 w] h K := by
  refine acallF_of tb0 func25 rfl rfl mixed (by kernel_rfl) fun hwf => ?_
  simp -dsimp (disch := omega)
  refine rmay_call ho ?_
  have hCs : (rC s).size = 50 := rA_size _ _
  cases hm : mayN off w with
  | false =>
    simp -dsimp (disch := omega)
    exact RetF.same hwf (by simp) (Nat.zero_le _) (fun _ _ => rfl) (k0 hm)
  | true =>
    have hK := k1 hm
    clear k0 k1
    have h4 : off % 4 = 0 := by
      unfold mayN at hm
      simp only [Bool.and_eq_true, decide_eq_true_eq] at hm
      exact hm.1.2
    by_cases c1 : 4 ≤ off ∧ off < 32
    · have c1a : (4 : Int) ≤ off := by omega
      have c1b : (off : Int) < 32 := by omega
      obtain ⟨c1c, c1d⟩ := c1
      have er : readS s off = (s.pr (off / 4), s) := by unfold readS; rw [if_pos (by omega)]
      rw [er] at hK
      rw [set_same hb] at hK
      have hd : off / 4 < 8 := by omega
      have a1 : (rC s)[off / 4]? = some (.int .i64 (s.pr (off / 4))) := rA_pr s (enB s) hd
      obtain ⟨d, hdd⟩ : ∃ d, d = off / 4 := ⟨_, rfl⟩
      rw [← hdd] at hd a1 hK
      have ed : (off : Int) / 4 = d := by omega
      have pl := q.pr d
      simp -dsimp (disch := omega) [c1a, c1b, c1c, c1d, ed, hb, a1, hd, -getElem?_pos]
      exact RetF.all (r := .tuple #[.int .u64 _, .bool true]) (by simp) hK
    · have c1x : (4 : Int) ≤ off → ¬ (off : Int) < 32 := by omega
      have loop : ∀ {Q : Prop}, Q → Q := id
      by_cases c4 : 4 ≤ off
      · have c1a : (4 : Int) ≤ off := by omega
        have c1b : ¬ (off : Int) < 32 := by omega
        have c1d : ¬ off < 32 := by omega
        simp -dsimp (disch := omega) [c1a, c1b, c4, c1d]
        refine awp_loop (fun t h' => h' = h ∧ ∃ c : Nat, c ≤ 2 ∧ t 0 = ptr p ∧ t 1 = .int .u64 off ∧ t 8 = .int .i64 c ∧ (1 ≤ c → off ≠ 4096 ∧ off ≠ 8192 ∧ off ≠ 2097152 ∧ off ≠ 2097156) ∧ (2 ≤ c → off ≠ 8320 ∧ off ≠ 2101248 ∧ off ≠ 2101252)) (fun t _ => 2 - ivN (t 8)) ?_ ?_
        · simp -dsimp (disch := omega)
          exact ⟨0, by omega, rfl, by omega, by omega⟩
        · rintro t h' ⟨rfl, c, hc, t0, t1, t8, n1, n2⟩
          refine vcF_sound mixed (tb := tb0) _ (by kernel_rfl) ?_
          by_cases hc2 : c < 2
          · have hc2' : (c : Int) < 2 := by omega
            obtain ⟨r1, hr1⟩ : ∃ r, r = 8192 + 128 * c := ⟨_, rfl⟩
            have er1 : 8192 + 128 * (c : Int) = (r1 : Nat) := by omega
            obtain ⟨r2, hr2⟩ : ∃ r, r = 2097152 + 4096 * c := ⟨_, rfl⟩
            have er2 : 2097152 + 4096 * (c : Int) = (r2 : Nat) := by omega
            obtain ⟨r3, hr3⟩ : ∃ r, r = 2097156 + 4096 * c := ⟨_, rfl⟩
            have er3 : 2097156 + 4096 * (c : Int) = (r3 : Nat) := by omega
            by_cases d0 : off = 4096
            · subst d0
              rw [readS_pend, set_same hb, ← bitsK_pe] at hK
              have t1' : t 1 = .int .u64 4096 := t1
              have x1 : (rC s).extract 16 24 = boolC s.pe := ext8 (o := 16) fun k hk => rA_pe s (enB s) hk
              simp -dsimp (disch := omega) [t0, t1', t8, hc2, hc2', hb, hCs, x1, -getElem?_pos]
              refine bits_call ?_
              simp -dsimp (disch := omega)
              exact RetF.all (r := .tuple #[.int .u64 _, .bool true]) (by simp) hK
            have d0' : ¬ (off : Int) = 4096 := by omega
            by_cases d1 : off = r1
            · subst d1
              have er : readS s off = (s.en c, s) := by rw [hr1]; exact readS_en hc2
              rw [er, set_same hb, ← bits_en q c] at hK
              have x1 : (rC s).extract (32 + c * 8) (32 + c * 8 + 8) = boolC (enB s c) := ext8 fun k hk => rA_en s (enB s) hc2 hk
              simp -dsimp (disch := omega) [t0, t1, t8, hc2, hc2', hb, hCs, x1, d0, d0', er1, -getElem?_pos]
              refine bits_call ?_
              simp -dsimp (disch := omega)
              exact RetF.all (r := .tuple #[.int .u64 _, .bool true]) (by simp) hK
            have d1' : ¬ (off : Int) = r1 := by omega
            by_cases d2 : off = r2
            · subst d2
              have er : readS s off = (s.th c, s) := by
                rw [hr2]
                obtain rfl | rfl : c = 0 ∨ c = 1 := by omega
                · simp [readS]
                · simp [readS]
              rw [er, set_same hb] at hK
              have a1 : (rC s)[48 + c]? = some (.int .i64 (s.th c)) := rA_th s (enB s) hc2
              have tl := q.th c
              simp -dsimp (disch := omega) [t0, t1, t8, hc2, hc2', hb, hCs, a1, d0, d0', d1, d1', er1, er2, -getElem?_pos]
              exact RetF.all (r := .tuple #[.int .u64 _, .bool true]) (by simp) hK
            have d2' : ¬ (off : Int) = r2 := by omega
            by_cases d3 : off = r3
            · subst d3
              have er : readS s off = (bestS s c, claimS s c) := by rw [hr3]; exact readS_claim hc2
              rw [er] at hK
              simp -dsimp (disch := omega) [t0, t1, t8, hc2, hc2', d0, d0', d1, d1', d2, d2', er1, er2, er3]
              refine refBest_call q hb hc2 ?_
              have bl := bestS_lt s c
              have cz := claim_zero (s := s) (c := c)
              have cp : bestS s c ≠ 0 → claimS s c = { s with pe := upd1 s.pe (bestS s c) false, se := upd1 s.se (bestS s c) true } := fun h => by unfold claimS; rw [if_pos (by omega)]
              generalize bestS s c = b at *
              by_cases b0 : 0 < b
              · have b0' : (0 : Int) < b := by omega
                rw [cp (by omega)] at hK
                have st1 : (rC s).setIfInBounds (16 + b) (.bool false) = _ := rA_setpe s (enB s) bl false
                have st2 := rA_setse { s with pe := upd1 s.pe b false } (enB s) bl true
                simp -dsimp (disch := omega) [t0, t1, t8, b0, b0', hb, hCs, bl, st1, st2, -getElem?_pos]
                exact RetF.all (r := .tuple #[.int .u64 _, .bool true]) (by simp) hK
              · have b0' : ¬ (0 : Int) < b := by omega
                rw [cz (by omega), set_same hb] at hK
                simp -dsimp (disch := omega) [t0, t1, t8, b0, b0']
                exact RetF.all (r := .tuple #[.int .u64 _, .bool true]) (by simp) hK
            have d3' : ¬ (off : Int) = r3 := by omega
            simp -dsimp (disch := omega) [t0, t1, t8, hc2, hc2', d0, d0', d1, d1', d2, d2', d3, d3', er1, er2, er3]
            exact ⟨⟨c + 1, by omega, by simp, by omega, by omega⟩, by simp [ivN]; omega⟩
          · obtain rfl : c = 2 := by omega
            have t8' : t 8 = .int .i64 2 := t8
            rw [readS_none (by omega) (by omega) (by omega) (by omega) (by omega) (by omega) (by omega) (by omega), set_same hb] at hK
            simp -dsimp (disch := omega) [t8']
            exact RetF.all (r := .tuple #[.int .u64 0, .bool true]) (by simp) hK
      · obtain rfl : off = 0 := by omega
        rw [readS_none (by omega) (by omega) (by omega) (by omega) (by omega) (by omega) (by omega) (by omega), set_same hb] at hK
        simp -dsimp (disch := omega)
        refine awp_loop (fun t h' => h' = h ∧ ∃ c : Nat, c ≤ 2 ∧ t 0 = ptr p ∧ t 1 = .int .u64 0 ∧ t 8 = .int .i64 c) (fun t _ => 2 - ivN (t 8)) ?_ ?_
        · simp -dsimp (disch := omega)
          exact ⟨0, by omega, rfl⟩
        · rintro t h' ⟨rfl, c, hc, t0, t1, t8⟩
          refine vcF_sound mixed (tb := tb0) _ (by kernel_rfl) ?_
          by_cases hc2 : c < 2
          · have hc2' : (c : Int) < 2 := by omega
            have z1 : ¬ (0 : Int) = 8192 + 128 * c := by omega
            have z2 : ¬ (0 : Int) = 2097152 + 4096 * c := by omega
            have z3 : ¬ (0 : Int) = 2097156 + 4096 * c := by omega
            simp -dsimp (disch := omega) [t0, t1, t8, hc2, hc2', z1, z2, z3]
            exact ⟨⟨c + 1, by omega, by simp⟩, by simp [ivN]; omega⟩
          · obtain rfl : c = 2 := by omega
            have t8' : t 8 = .int .i64 2 := t8
            simp -dsimp (disch := omega) [t8']
            exact RetF.all (r := .tuple #[.int .u64 0, .bool true]) (by simp) hK
end
end Go.Proofs.YtfdhahnnhaeibaaDoor
