/-
  The chapter's own answers.
-/
import Derived.Test.YtdnjooallhdjdaaDoorA7
set_option linter.unusedSimpArgs false
set_option linter.unusedVariables false
namespace Go.Proofs.YtdnjooallhdjdaaDoor
open Go Go.Mini Go.Proofs.Tryd

def G (i : Nat) : Nat := if i = 0 then 4096 else if i = 1 then 4097 else if i = 2 then 8193 else 0
theorem adr_G : adr G = #[.int .u64 4096, .int .u64 4097, .int .u64 8193, .int .u64 0, .int .u64 0, .int .u64 0, .int .u64 0, .int .u64 0] := by simp [adr, List.range_succ, G]
theorem G_lt (j : Nat) : G j < 18446744073709551616 := by unfold G; (repeat' split) <;> omega

theorem given_call {h : Hp} {K : Value → Hp → Prop} (hK : K (.tuple #[.int .u64 (10228489 : Nat), .agg (adr G)]) h) : ACall prog 11 [] h K := by
  refine acallF_of tb0 func11 rfl rfl mixed (by kernel_rfl) fun hwf => ?_
  simp -dsimp (disch := omega)
  exact RetF.same hwf (by simp [adr_G]) (Nat.zero_le _) (fun i hi => by simp (disch := omega)) hK
theorem spans_call {i : Int} {a b : Nat} {h : Hp} {K : Value → Hp → Prop} (ht : h.blks 100 = some ⟨tab, 1, false⟩) (hK : K (.bool (eB 10228489 G i && (decide (eF 10228489 G i = a) && decide (eL 10228489 G i = b)))) h) : ACall prog 12 [.int .i64 i, .int .u64 a, .int .u64 b] h K := by
  refine acallF_of tb0 func12 rfl rfl mixed (by kernel_rfl) fun hwf => ?_
  have a1 := adr_size G
  have a2 := adr_one G
  have a3 := adr_row G
  have hn : 100 < h.next := hwf.lt _ _ ht
  simp -dsimp (disch := omega)
  refine given_call ?_
  simp -dsimp (disch := omega) [a2, a3]
  refine range_call (c := 10228489) ⟨by simp (disch := omega) [ht], by omega, fun j _ => G_lt j⟩ ?_
  cases hB : eB 10228489 G i with
  | false =>
    rw [hB] at hK
    simp -dsimp (disch := omega)
    exact RetF.same hwf (by simp) (Nat.zero_le _) (fun i hi => by simp (disch := omega)) hK
  | true =>
    rw [hB] at hK
    by_cases hF : eF 10228489 G i = a
    · have hF' : ((eF 10228489 G i : Nat) : Int) = a := by omega
      by_cases hL : eL 10228489 G i = b
      · have hL' : ((eL 10228489 G i : Nat) : Int) = b := by omega
        simp -dsimp (disch := omega) [hF', hL', hF, hL]
        exact RetF.same hwf (by simp [hF, hL]) (Nat.zero_le _) (fun i hi => by simp (disch := omega)) hK
      · have hL' : ¬ ((eL 10228489 G i : Nat) : Int) = b := by omega
        simp -dsimp (disch := omega) [hF', hL', hF, hL]
        exact RetF.same hwf (by simp [hF, hL]) (Nat.zero_le _) (fun i hi => by simp (disch := omega)) hK
    · have hF' : ¬ ((eF 10228489 G i : Nat) : Int) = a := by omega
      simp -dsimp (disch := omega) [hF', hF]
      exact RetF.same hwf (by simp [hF]) (Nat.zero_le _) (fun i hi => by simp (disch := omega)) hK
theorem may_call {m k at_ : Nat} {w : Int} {h : Hp} {K : Value → Hp → Prop} (ht : h.blks 100 = some ⟨tab, 1, false⟩) (ha : at_ < 18446744073709551616) (hw : w ≤ 9223372036854775807) (hk : k < 256)
    (hK : K (.bool (chk 10228489 G m k at_ w)) h) : ACall prog 13 [.int .u8 m, .int .u8 k, .int .u64 at_, .int .i64 w] h K := by
  refine acallF_of tb0 func13 rfl rfl mixed (by kernel_rfl) fun hwf => ?_
  have a1 := adr_size G
  have a2 := adr_one G
  have a3 := adr_row G
  have hn : 100 < h.next := hwf.lt _ _ ht
  simp -dsimp (disch := omega)
  refine given_call ?_
  simp -dsimp (disch := omega) [a2, a3]
  refine check_call (c := 10228489) (m := m) (k := k) (at_ := at_) (w := w) ⟨by simp (disch := omega) [ht], by omega, fun j _ => G_lt j⟩ ha hw hk ?_
  simp -dsimp (disch := omega) [a2, a3]
  exact RetF.same hwf (by simp) (Nat.zero_le _) (fun i hi => by simp (disch := omega)) hK

theorem awake_call {h : Hp} {K : Value → Hp → Prop} (ht : h.blks 100 = some ⟨tab, 1, false⟩) (hK : K (.bool true) h) : ACall prog 10 [] h K := by
  refine acallF_of tb0 func10 rfl rfl mixed (by kernel_rfl) fun hwf => ?_
  have v1 : (eB 10228489 G 0 && (decide (eF 10228489 G 0 = 0) && decide (eL 10228489 G 0 = 16383))) = true := by kernel_rfl
  have v2 : (eB 10228489 G 2 && (decide (eF 10228489 G 2 = 32768) && decide (eL 10228489 G 2 = 32783))) = true := by kernel_rfl
  have v3 : chk 10228489 G 1 1 16380 4 = true := by kernel_rfl
  have v4 : chk 10228489 G 1 1 16382 4 = false := by kernel_rfl
  have v5 : chk 10228489 G 3 1 32768 4 = false := by kernel_rfl
  simp -dsimp (disch := omega)
  refine spans_call (a := 0) (b := 16383) ht ?_
  rw [v1]
  simp -dsimp (disch := omega)
  refine spans_call (a := 32768) (b := 32783) ht ?_
  rw [v2]
  simp -dsimp (disch := omega)
  refine may_call (m := 1) (k := 1) (at_ := 16380) ht (by omega) (by omega) (by omega) ?_
  rw [v3]
  simp -dsimp (disch := omega)
  refine may_call (m := 1) (k := 1) (at_ := 16382) ht (by omega) (by omega) (by omega) ?_
  rw [v4]
  simp -dsimp (disch := omega)
  refine may_call (m := 3) (k := 1) (at_ := 32768) ht (by omega) (by omega) (by omega) ?_
  rw [v5]
  simp -dsimp (disch := omega)
  exact RetF.same hwf (by simp) (Nat.zero_le _) (fun _ _ => rfl) hK

theorem one_call {m k at_ : Nat} {w : Int} {d : Nat} {h : Hp} {K : Value → Hp → Prop} (ha : at_ < 18446744073709551616) (hd : d < 18446744073709551616)
    (hK : K (accV m k ((at_ + d) % 18446744073709551616) 1) h) : ACall prog 15 [accV m k at_ w, .int .i64 d] h K := by
  unfold accV at *
  refine acallF_of tb0 func15 rfl rfl mixed (by kernel_rfl) fun hwf => ?_
  have e1 : IntKind.u64.wrap ((at_ : Int) + (d : Int)) = ((at_ + d) % 18446744073709551616 : Nat) := by rw [wrap64]; rfl
  generalize (at_ + d) % 18446744073709551616 = X at *
  simp -dsimp (disch := omega) [e1]
  exact RetF.same hwf (by simp (disch := omega)) (Nat.zero_le _) (fun i hi => by simp (disch := omega)) hK

end Go.Proofs.YtdnjooallhdjdaaDoor
