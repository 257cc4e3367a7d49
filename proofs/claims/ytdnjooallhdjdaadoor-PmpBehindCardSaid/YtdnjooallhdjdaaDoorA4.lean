/-
  Ranges: the program's and the document's.
-/
import Derived.Test.YtdnjooallhdjdaaDoorA3
set_option linter.unusedSimpArgs false
set_option linter.unusedVariables false
namespace Go.Proofs.YtdnjooallhdjdaaDoor
open Go Go.Mini Go.Proofs.Tryd

/-- What is known of the registers. -/
structure Regs (h : Hp) (c : Nat) (A : Nat → Nat) : Prop where
  tab : h.blks 100 = some ⟨tab, 1, false⟩
  cfg : c < 18446744073709551616
  adr : ∀ j, j < 8 → A j < 18446744073709551616
theorem Regs.ext {h h' : Hp} {c : Nat} {A : Nat → Nat} (hr : Regs h c A) (he : Ext h h') (hw : 100 < h.next) : Regs h' c A := ⟨by rw [he.same _ hw]; exact hr.tab, hr.cfg, hr.adr⟩

def entI (c : Nat) (A : Nat → Nat) (i : Int) : Option (Nat × Nat) := if 0 ≤ i ∧ i < 8 then ent c A i.toNat else none
def eF (c : Nat) (A : Nat → Nat) (i : Int) : Nat := ((entI c A i).map (·.1)).getD 0
def eL (c : Nat) (A : Nat → Nat) (i : Int) : Nat := ((entI c A i).map (·.2)).getD 0
def eB (c : Nat) (A : Nat → Nat) (i : Int) : Bool := (entI c A i).isSome
def eG (c : Nat) (i : Int) : Nat := if 0 ≤ i ∧ i < 8 then flg c i.toNat else 0
theorem top_lt (a : Nat) : top a < 288230376151711744 := by
  have := low54_lt a
  have h1 := pw_le a
  have h3 := pw_pos a
  unfold top bot clr pw8
  omega
theorem ent_lt {c : Nat} {A : Nat → Nat} {i : Nat} {f l : Nat} (h : ent c A i = some (f, l)) : f ≤ l ∧ l < 288230376151711744 := by
  have q1 := quad_lt (A i)
  have t1 := top_lt (A i)
  have p3 := pw_pos (A i)
  unfold ent at h
  split at h
  · split at h
    · rename_i h2
      simp only [Option.some.injEq, Prod.mk.injEq] at h
      omega
    · cases h
  · split at h
    · simp only [Option.some.injEq, Prod.mk.injEq] at h
      omega
    · split at h
      · simp only [Option.some.injEq, Prod.mk.injEq] at h
        unfold top pw8 at *
        omega
      · cases h
theorem eF_lt (c : Nat) (A : Nat → Nat) (i : Int) : eF c A i < 288230376151711744 := by
  unfold eF entI
  split
  · cases h : ent c A i.toNat with
    | none => simp
    | some p => obtain ⟨f, l⟩ := p; have := ent_lt h; simp; omega
  · simp
theorem eL_lt (c : Nat) (A : Nat → Nat) (i : Int) : eL c A i < 288230376151711744 := by
  unfold eL entI
  split
  · cases h : ent c A i.toNat with
    | none => simp
    | some p => obtain ⟨f, l⟩ := p; have := ent_lt h; simp; omega
  · simp
theorem eG_lt (c : Nat) (i : Int) : eG c i < 256 := by
  unfold eG flg; split <;> omega

theorem of_call {c : Nat} {A : Nat → Nat} {i : Int} {h : Hp} {K : Value → Hp → Prop} (hr : Regs h c A)
    (hK : K (.agg #[.int .u64 (eF c A i), .int .u64 (eL c A i), .int .u8 (eG c i), .bool (eB c A i)]) h) : ACall prog 17 [.int .u64 c, .agg (adr A), .int .i64 i] h K := by
  by_cases hi : 0 ≤ i ∧ i < 8
  · obtain ⟨n, rfl⟩ := Int.eq_ofNat_of_zero_le hi.1
    refine of_in hr.tab (by omega) hr.cfg hr.adr ?_
    unfold eF eL eB eG entI at hK
    simp only [if_pos hi, Int.toNat_natCast] at hK
    unfold entV
    cases he : ent c A n with
    | none => simpa [he] using hK
    | some p => obtain ⟨f, l⟩ := p; simpa [he] using hK
  · refine of_out (by omega) ?_
    unfold eF eL eB eG entI at hK
    simpa [if_neg hi] using hK

theorem range_call {c : Nat} {A : Nat → Nat} {i : Int} {h : Hp} {K : Value → Hp → Prop} (hr : Regs h c A)
    (hK : K (.tuple #[.int .u64 (eF c A i), .int .u64 (eL c A i), .bool (eB c A i)]) h) : ACall prog 8 [.int .u64 c, .agg (adr A), .int .i64 i] h K := by
  refine acallF_of tb0 func8 rfl rfl mixed (by kernel_rfl) fun hwf => ?_
  have a1 := adr_size A
  have a2 := adr_one A
  have a3 := adr_row A
  have hn : 100 < h.next := hwf.lt _ _ hr.tab
  simp -dsimp (disch := omega) [a2, a3]
  refine of_call (hr.ext (Ext.alloc _ _) hn) ?_
  simp -dsimp (disch := omega) [a2, a3]
  exact RetF.same hwf (by simp (disch := omega)) (Nat.zero_le _) (fun i hi => by simp (disch := omega)) hK

end Go.Proofs.YtdnjooallhdjdaaDoor
