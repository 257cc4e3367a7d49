/-
  An entry of the pmp: its byte, and its span.
-/
import Derived.Test.YtdnjooallhdjdaaDoorA2
set_option linter.unusedSimpArgs false
set_option linter.unusedVariables false
namespace Go.Proofs.YtdnjooallhdjdaaDoor
open Go Go.Mini Go.Proofs.Tryd

def flg (c i : Nat) : Nat := c / 2 ^ (8 * i) % 256
def knd (c i : Nat) : Nat := flg c i / 8 % 4
def low54 (a : Nat) : Nat := a % 18014398509481984
def quad (a : Nat) : Nat := 4 * low54 a
def torF (A : Nat → Nat) (i : Nat) : Nat := if i = 0 then 0 else quad (A (i - 1))
def pw (a : Nat) : Nat := 2 ^ ones (low54 a)
def pw8 (a : Nat) : Nat := 8 * pw a
def clr (a : Nat) : Nat := low54 a + 1 - pw a
def bot (a : Nat) : Nat := 4 * clr a
def top (a : Nat) : Nat := bot a + (pw8 a - 1)
def ent (c : Nat) (A : Nat → Nat) (i : Nat) : Option (Nat × Nat) :=
  if knd c i = 1 then (if torF A i < quad (A i) then some (torF A i, quad (A i) - 1) else none)
  else if knd c i = 2 then some (quad (A i), quad (A i) + 3)
  else if knd c i = 3 then some (bot (A i), top (A i))
  else none
def entV (c : Nat) (A : Nat → Nat) (i : Nat) : Array Value :=
  match ent c A i with
  | some (f, l) => #[.int .u64 f, .int .u64 l, .int .u8 (flg c i), .bool true]
  | none => #[.int .u64 0, .int .u64 0, .int .u8 (flg c i), .bool false]
theorem low54_lt (a : Nat) : low54 a < 18014398509481984 := Nat.mod_lt _ (by omega)
theorem quad_lt (a : Nat) : quad a < 72057594037927936 := by have := low54_lt a; unfold quad; omega

theorem wrap8 (n : Int) : IntKind.u8.wrap n = n % 256 := by simp [IntKind.wrap, IntKind.bits, IntKind.signed]
theorem bits64 : IntKind.u64.bits = 64 := rfl
theorem bits8 : IntKind.u8.bits = 8 := rfl
theorem mask_eq (x : Nat) (hx : x < 18446744073709551616) : IntKind.u64.wrap ↑(x % 2 ^ IntKind.u64.bits &&& 18014398509481983 % 2 ^ IntKind.u64.bits) = (low54 x : Nat) := by
  rw [bits64, Nat.mod_eq_of_lt (show x < 2 ^ 64 from hx), show 18014398509481983 % 2 ^ 64 = 2 ^ 54 - 1 from by decide, Nat.and_two_pow_sub_one_eq_mod, wrap64]
  unfold low54
  omega
theorem knd_eq (c i : Nat) : IntKind.u8.wrap ↑((((flg c i : Nat) : Int).fdiv (2 ^ min 3 IntKind.u8.bits) % 2 ^ IntKind.u8.bits).toNat &&& 3 % 2 ^ IntKind.u8.bits) = (knd c i : Nat) := by
  have hf : flg c i < 256 := Nat.mod_lt _ (by omega)
  rw [bits8, Int.fdiv_eq_ediv_of_nonneg _ (by decide), show (2 : Int) ^ min 3 8 = 8 from rfl, show (2 : Int) ^ 8 = 256 from rfl, show 3 % 2 ^ 8 = 2 ^ 2 - 1 from rfl, Nat.and_two_pow_sub_one_eq_mod, wrap8]
  unfold knd
  omega
theorem sh_eq (x : Nat) : IntKind.u64.wrap ((low54 x : Nat) * 2 ^ min 2 IntKind.u64.bits) = (quad x : Nat) := by
  have := low54_lt x
  rw [bits64, show (2 : Int) ^ min 2 64 = 4 from rfl, wrap64]
  unfold quad
  omega

@[simp] theorem adr_get (A : Nat → Nat) (i : Nat) (h : i < (adr A).size) : (adr A)[i] = .int .u64 (A i) := by simp [adr]
theorem flg_eq (c i : Nat) (hi : i < 8) : IntKind.u8.wrap ((c : Int).fdiv (2 ^ min (8 * (i : Int)).toNat IntKind.u64.bits)) = (flg c i : Nat) := by
  rw [show min (8 * (i : Int)).toNat IntKind.u64.bits = 8 * i from by show min (8 * (i : Int)).toNat 64 = 8 * i; omega, Int.fdiv_eq_ediv_of_nonneg _ (Int.le_of_lt (Int.pow_pos (by omega)))]
  rw [show IntKind.u8.wrap ((c : Int) / 2 ^ (8 * i)) = ((c : Int) / 2 ^ (8 * i)) % 256 from by simp [IntKind.wrap, IntKind.bits, IntKind.signed]]
  rw [show ((2 : Int) ^ (8 * i)) = ((2 ^ (8 * i) : Nat) : Int) from (Int.natCast_pow 2 (8 * i)).symm]
  unfold flg
  generalize 2 ^ (8 * i) = q
  rfl
theorem flg_eq' (c i : Nat) (hi : i < 8) : IntKind.u8.wrap ((c : Int).fdiv (2 ^ (8 * (i : Int)).toNat)) = (flg c i : Nat) := by
  have := flg_eq c i hi
  rwa [show min (8 * (i : Int)).toNat IntKind.u64.bits = (8 * (i : Int)).toNat from by show min (8 * (i : Int)).toNat 64 = _; omega] at this
theorem aun_xor64 (P : Program) (a : Nat) (ha : a < 18446744073709551616) : aun P .xor (.int .u64 a) = some (.int .u64 (18446744073709551615 - a : Nat)) := by
  have h1 : aun P .xor (.int .u64 (a : Int)) = some (.int .u64 (IntKind.u64.wrap (BitVec.ofInt IntKind.u64.bits 18446744073709551615 ^^^ BitVec.ofInt IntKind.u64.bits a).toNat)) := by
    simp only [aun, vtop, if_true, Op.unary, Op.intBits]
    rfl
  rw [h1]
  congr 2
  have h2 : BitVec.ofInt IntKind.u64.bits 18446744073709551615 = BitVec.allOnes IntKind.u64.bits := by decide
  rw [h2, BitVec.allOnes_xor, BitVec.toNat_not, BitVec.toNat_ofInt, wrap64]
  have h3 : ((a : Int) % ((2 ^ IntKind.u64.bits : Nat) : Int)).toNat = a := by
    rw [show ((2 ^ IntKind.u64.bits : Nat) : Int) = 18446744073709551616 from rfl]; omega
  have h4 : (2 : Nat) ^ IntKind.u64.bits = 18446744073709551616 := rfl
  rw [h3, h4]
  omega
theorem of_out {c : Nat} {A : Nat → Nat} {i : Int} {h : Hp} {K : Value → Hp → Prop} (hi : i < 0 ∨ 8 ≤ i) (hK : K (.agg #[.int .u64 0, .int .u64 0, .int .u8 0, .bool false]) h) : ACall prog 17 [.int .u64 c, .agg (adr A), .int .i64 i] h K := by
  refine acallF_of tb0 func17 rfl rfl mixed (by kernel_rfl) fun hwf => ?_
  have a1 := adr_size A
  have a2 := adr_one A
  by_cases h0 : i < 0
  · simp -dsimp (disch := omega) [a1, a2, h0]
    exact RetF.same hwf (by simp) (Nat.zero_le _) (fun i hi => by simp (disch := omega)) hK
  · have h8 : 8 ≤ i := by omega
    simp -dsimp (disch := omega) [a1, a2, h0, h8]
    exact RetF.same hwf (by simp) (Nat.zero_le _) (fun i hi => by simp (disch := omega)) hK

theorem tz_of (a : Nat) (ha : a < 18014398509481984) : ∃ m, 18446744073709551615 - a = 2 ^ ones a * (2 * m + 1) := by
  obtain ⟨j, hj⟩ := onesF_spec 54 a ha
  have hk : ones a ≤ 54 := onesF_le 54 a
  rw [show onesF 54 a = ones a from rfl] at hj
  have hp : 18446744073709551616 = 2 ^ ones a * (2 * 2 ^ (63 - ones a)) := by
    rw [← Nat.pow_succ', ← Nat.pow_add, show ones a + (63 - ones a).succ = 64 from by omega]
  have hlt : 2 * j + 1 < 2 * 2 ^ (63 - ones a) := Nat.lt_of_mul_lt_mul_left (a := 2 ^ ones a) (by rw [← hj, ← hp]; omega)
  refine ⟨2 ^ (63 - ones a) - (j + 1), ?_⟩
  have : 2 * (2 ^ (63 - ones a) - (j + 1)) + 1 = 2 * 2 ^ (63 - ones a) - (2 * j + 1) := by omega
  rw [this, Nat.mul_sub, ← hp, ← hj]
  omega
theorem pw_pos (a : Nat) : 1 ≤ pw a := Nat.pow_pos (by omega)
theorem pw_le (a : Nat) : pw a ≤ low54 a + 1 := by
  obtain ⟨j, hj⟩ := onesF_spec 54 (low54 a) (low54_lt a)
  rw [hj]
  exact Nat.le_mul_of_pos_right _ (by omega)
theorem pw_eq (a : Nat) : IntKind.u64.wrap (2 ^ min (ones (low54 a)) IntKind.u64.bits) = (pw a : Nat) := by
  have hk : ones (low54 a) ≤ 54 := onesF_le 54 _
  have h1 := pw_le a
  have h2 := low54_lt a
  rw [bits64, Nat.min_eq_left (by omega), show ((2 : Int) ^ ones (low54 a)) = ((pw a : Nat) : Int) from (Int.natCast_pow 2 _).symm, wrap64]
  omega
theorem pw8_eq (a : Nat) : IntKind.u64.wrap (2 ^ min ((ones (low54 a) : Int) + 3).toNat IntKind.u64.bits) = (pw8 a : Nat) := by
  have hk : ones (low54 a) ≤ 54 := onesF_le 54 _
  have h1 := pw_le a
  have h2 := low54_lt a
  have h3 : ((pw8 a : Nat) : Int) = 2 ^ (ones (low54 a) + 3) := by
    unfold pw8 pw
    rw [Int.pow_add, show ((8 * 2 ^ ones (low54 a) : Nat) : Int) = 8 * ((2 ^ ones (low54 a) : Nat) : Int) from rfl, Int.natCast_pow, Int.mul_comm]; rfl
  rw [bits64, show min ((ones (low54 a) : Int) + 3).toNat 64 = ones (low54 a) + 3 from by omega, ← h3, wrap64]
  unfold pw8
  omega
theorem an_eq (a : Nat) : IntKind.u64.wrap ↑(low54 a % 2 ^ IntKind.u64.bits &&& 2 ^ IntKind.u64.bits - 1 - ((((pw a : Nat) : Int) - 1) % 2 ^ IntKind.u64.bits).toNat) = (clr a : Nat) := by
  obtain ⟨j, hj⟩ := onesF_spec 54 (low54 a) (low54_lt a)
  have hk : ones (low54 a) ≤ 54 := onesF_le 54 _
  have h1 := pw_le a
  have h2 := low54_lt a
  have h3 := pw_pos a
  rw [show onesF 54 (low54 a) = ones (low54 a) from rfl] at hj
  have hp : pw a = 2 ^ ones (low54 a) := rfl
  have e9 : (2 : Nat) ^ 64 - 1 - ((((pw a : Nat) : Int) - 1) % (2 : Int) ^ 64).toNat = 2 ^ 64 - ((pw a - 1) + 1) := by
    have : (2 : Int) ^ 64 = 18446744073709551616 := rfl
    rw [this]; omega
  rw [bits64, Nat.mod_eq_of_lt (show low54 a < 2 ^ 64 by omega), e9]
  have hx : low54 a = 2 ^ ones (low54 a) * (2 * j) + (2 ^ ones (low54 a) - 1) := by
    rw [Nat.mul_add, Nat.mul_one] at hj
    rw [← hp] at hj ⊢
    omega
  have hc : clr a = 2 ^ ones (low54 a) * (2 * j) := by
    unfold clr
    rw [hp]; omega
  have : low54 a &&& 2 ^ 64 - ((pw a - 1) + 1) = clr a := by
    apply Nat.eq_of_testBit_eq
    intro i
    rw [Nat.testBit_and, Nat.testBit_two_pow_sub_succ (by omega), hc, hp]
    conv => lhs; lhs; rw [hx]
    rw [Nat.testBit_two_pow_mul_add _ (by rw [← hp]; omega), Nat.testBit_two_pow_mul, Nat.testBit_two_pow_sub_one]
    by_cases hi : i < ones (low54 a)
    · have : ¬ ones (low54 a) ≤ i := by omega
      simp [hi, this]
    · have h5 : ones (low54 a) ≤ i := by omega
      by_cases h6 : i < 64
      · simp [hi, h5, h6]
      · have : (2 * j).testBit (i - ones (low54 a)) = false := by
          apply Nat.testBit_lt_two_pow
          have h7 : 2 ^ ones (low54 a) * (2 * j) < 2 ^ 64 := by rw [← hc]; unfold clr; omega
          have h8 : 2 ^ 64 ≤ 2 ^ ones (low54 a) * 2 ^ (i - ones (low54 a)) := by rw [← Nat.pow_add]; exact Nat.pow_le_pow_right (by omega) (by omega)
          exact Nat.lt_of_mul_lt_mul_left (Nat.lt_of_lt_of_le h7 h8)
        simp [hi, this]
  rw [this, wrap64]
  unfold clr
  omega
theorem clr_eq (a : Nat) : IntKind.u64.wrap ((clr a : Nat) * 2 ^ min 2 IntKind.u64.bits) = (bot a : Nat) := by
  have := low54_lt a
  rw [bits64, show (2 : Int) ^ min 2 64 = 4 from rfl, wrap64]
  unfold bot clr
  omega
theorem top_eq (a : Nat) : IntKind.u64.wrap ((bot a : Nat) + ((pw8 a : Nat) - 1)) = (top a : Nat) := by
  have := low54_lt a
  have h1 := pw_le a
  have h3 := pw_pos a
  rw [wrap64]
  unfold top bot clr pw8
  omega
theorem of_in {c : Nat} {A : Nat → Nat} {i : Nat} {h : Hp} {K : Value → Hp → Prop} (ht : h.blks 100 = some ⟨tab, 1, false⟩) (hi : i < 8) (hc : c < 18446744073709551616) (hA : ∀ j, j < 8 → A j < 18446744073709551616) (hK : K (.agg (entV c A i)) h) : ACall prog 17 [.int .u64 c, .agg (adr A), .int .i64 i] h K := by
  refine acallF_of tb0 func17 rfl rfl mixed (by kernel_rfl) fun hwf => ?_
  have a1 := adr_size A
  have a2 := adr_one A
  have e1 := flg_eq c i hi
  have e1' := flg_eq' c i hi
  have hAi := hA i hi
  have i1 : ¬ (i : Int) < 0 := by omega
  have i2 : ¬ (8 : Int) ≤ i := by omega
  have e2 := mask_eq (A i) hAi
  have e3 := knd_eq c i
  have e4 := sh_eq (A i)
  have q1 := quad_lt (A i)
  by_cases k1 : knd c i = 1
  · by_cases i0 : i = 0
    · have t1 : torF A i = 0 := by unfold torF; rw [if_pos i0]
      have j1 : ¬ 0 < i := by omega
      by_cases hq : 0 < quad (A i)
      · have hv : entV c A i = #[.int .u64 0, .int .u64 ((quad (A i) - 1 : Nat)), .int .u8 (flg c i), .bool true] := by
          unfold entV ent
          rw [if_pos k1, t1, if_pos hq]; rfl
        have j2 : 0 < quad (A i) := hq
        rw [hv, show ((quad (A i) - 1 : Nat) : Int) = quad (A i) - 1 from by omega] at hK
        simp -dsimp (disch := omega) [a2, i1, i2, e1, e1', e2, e3, e4, k1, j1, j2]
        exact RetF.same hwf (by simp (disch := omega) [e1, e1']) (Nat.zero_le _) (fun i hi => by simp (disch := omega)) hK
      · have hv : entV c A i = #[.int .u64 0, .int .u64 0, .int .u8 (flg c i), .bool false] := by
          unfold entV ent
          rw [if_pos k1, t1, if_neg hq]
        have j2 : quad (A i) = 0 := by omega
        rw [hv] at hK
        simp -dsimp (disch := omega) [a2, i1, i2, e1, e1', e2, e3, e4, k1, j1, j2]
        exact RetF.same hwf (by simp (disch := omega) [e1, e1']) (Nat.zero_le _) (fun i hi => by simp (disch := omega)) hK
    · have t1 : torF A i = quad (A (i - 1)) := by unfold torF; rw [if_neg i0]
      have j1 : 0 < i := by omega
      have j0 : ((i : Int) - 1).toNat = i - 1 := by omega
      have hA1 := hA (i - 1) (by omega)
      have f2 := mask_eq (A (i - 1)) hA1
      have f4 := sh_eq (A (i - 1))
      have q2 := quad_lt (A (i - 1))
      by_cases hq : quad (A (i - 1)) < quad (A i)
      · have hv : entV c A i = #[.int .u64 (quad (A (i - 1))), .int .u64 ((quad (A i) - 1 : Nat)), .int .u8 (flg c i), .bool true] := by
          unfold entV ent
          rw [if_pos k1, t1, if_pos hq]
        rw [hv, show ((quad (A i) - 1 : Nat) : Int) = quad (A i) - 1 from by omega] at hK
        have hq' : (quad (A (i - 1)) : Int) < quad (A i) := by omega
        simp -dsimp (disch := omega) [a2, i1, i2, e1, e2, e3, e4, k1, j1, j0, f2, f4, hq]
        exact RetF.same hwf (by simp (disch := omega) [e1, e1']) (Nat.zero_le _) (fun i hi => by simp (disch := omega)) hK
      · have hv : entV c A i = #[.int .u64 0, .int .u64 0, .int .u8 (flg c i), .bool false] := by
          unfold entV ent
          rw [if_pos k1, t1, if_neg hq]
        rw [hv] at hK
        simp -dsimp (disch := omega) [a2, i1, i2, e1, e2, e3, e4, k1, j1, j0, f2, f4, hq]
        exact RetF.same hwf (by simp (disch := omega) [e1, e1']) (Nat.zero_le _) (fun i hi => by simp (disch := omega)) hK
  · have n1 : ¬ ((knd c i : Nat) : Int) = 1 := by omega
    by_cases k2 : knd c i = 2
    · have hv : entV c A i = #[.int .u64 (quad (A i)), .int .u64 ((quad (A i) + 3 : Nat)), .int .u8 (flg c i), .bool true] := by
        unfold entV ent
        rw [if_neg k1, if_pos k2]
      rw [hv, show ((quad (A i) + 3 : Nat) : Int) = quad (A i) + 3 from by omega] at hK
      simp -dsimp (disch := omega) [a2, i1, i2, e1, e2, e3, e4, k2]
      exact RetF.same hwf (by simp (disch := omega) [e1, e1']) (Nat.zero_le _) (fun i hi => by simp (disch := omega)) hK
    · have n2 : ¬ ((knd c i : Nat) : Int) = 2 := by omega
      by_cases k3 : knd c i = 3
      · have hv : entV c A i = #[.int .u64 (bot (A i)), .int .u64 (top (A i)), .int .u8 (flg c i), .bool true] := by
          unfold entV ent
          rw [if_neg k1, if_neg k2, if_pos k3]
        rw [hv] at hK
        have l1 := low54_lt (A i)
        have x1 := aun_xor64 prog (low54 (A i)) (by omega)
        obtain ⟨m, hm⟩ : ∃ m, 18446744073709551615 - low54 (A i) = 2 ^ ones (low54 (A i)) * (2 * m + 1) := tz_of _ l1
        have o1 : ones (low54 (A i)) ≤ 54 := onesF_le 54 _
        have hn : 100 < h.next := hwf.lt _ _ ht
        have p1 := pw_eq (A i)
        have p2 := pw8_eq (A i)
        have p3 := pw_pos (A i)
        have p6 := an_eq (A i)
        have p7 := clr_eq (A i)
        have p8 := top_eq (A i)
        have p4 := pw_le (A i)
        have p5 : pw8 (A i) = 8 * pw (A i) := rfl
        simp -dsimp (disch := omega) [a2, i1, i2, e1, e2, e3, e4, k3, x1]
        refine tz_call (by simp (disch := omega) [ht]) hm (by omega) (by omega) ?_
        simp -dsimp (disch := omega) [a2, i1, i2, e1, e2, e3, e4, k3, x1, p1, p2, p6, p7, p8]
        exact RetF.same hwf (by simp (disch := omega) [e1, e1']) (Nat.zero_le _) (fun i hi => by simp (disch := omega)) hK
      · have hv : entV c A i = #[.int .u64 0, .int .u64 0, .int .u8 (flg c i), .bool false] := by
          unfold entV ent
          rw [if_neg k1, if_neg k2, if_neg k3]
        rw [hv] at hK
        have n3 : ¬ ((knd c i : Nat) : Int) = 3 := by omega
        simp -dsimp (disch := omega) [a2, i1, i2, e1, e2, e3, e4, n1, n2, n3]
        exact RetF.same hwf (by simp (disch := omega) [e1, e1']) (Nat.zero_le _) (fun i hi => by simp (disch := omega)) hK

end Go.Proofs.YtdnjooallhdjdaaDoor
