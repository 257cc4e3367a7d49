/-
  TlbKnown: what the examples come to.
-/
import Derived.Test.YtmlpcnpkidmlhaaY8
set_option linter.unusedSimpArgs false
set_option linter.unusedVariables false
set_option linter.unusedSectionVars false
namespace Go.Proofs.Ytmlpcnpkidmlhaa
set_option maxRecDepth 100000
open Go Go.Mini Go.Proofs.Try

def vE (i : Nat) : Ent := ⟨0, i, 0, 0, 0, 0, 0, 0⟩
def vL : Nat → List Ent
  | 0 => []
  | k + 1 => addL (vL k) (vE k)
def wE : Ent := ⟨0, 1, 7, 0, 0, 0, 0, 0⟩
def endE : Ent := ⟨0, 0, 0, 0, 18446744073709551608, 0, 0, 1⟩
def wr (a n : Nat) (e : Ent) : Bool := !anyR e.rd.toNat a (min n 4096) e
def l1 : List Ent := vL 9
def l2 : List Ent := addL l1 wE
def l3 : List Ent := addL l2 endE
def l4 : List Ent := l3.filter (wr 18446744073709551600 8)
def l5 : List Ent := l4.filter (wr 18446744073709551615 1)
def l6 : List Ent := addL l5 endE
def l7 : List Ent := l6.filter (wr 18446744073709551596 18446744073709551615)
def l1w : List Ent := l1.filter (wr 0 8)
theorem vL_len : ∀ k, k < 10 → (vL k).length ≤ 8 := by decide +kernel
theorem l1_len : l1.length = 8 := by decide +kernel
theorem l1w_eq : l1w = l1 := by kernel_rfl
theorem l2_len : l2.length = 8 := by decide +kernel
theorem l3_len : l3.length = 8 := by decide +kernel
theorem l4_eq : l4 = l3 := by kernel_rfl
theorem l5_len : l5.length = 7 := by decide +kernel
theorem l6_len : l6.length = 8 := by decide +kernel
theorem l7_len : l7.length = 7 := by decide +kernel
theorem l1_fine : ∀ e ∈ l1, fineE e := by decide +kernel
theorem l3_fine : ∀ e ∈ l3, fineE e := by decide +kernel
theorem l6_fine : ∀ e ∈ l6, fineE e := by decide +kernel
theorem l1_0 : l1[0]? = some (vE 1) := by kernel_rfl
theorem l2_7 : l2[7]? = some wE := by kernel_rfl
theorem l1_none : l1.find? (fP 0 0) = none := by kernel_rfl
theorem l1_find : l1.find? (fP 0 4096) = some (vE 1) := by kernel_rfl
theorem g_one : addL [] gE = [gE] := by kernel_rfl
theorem g_none : [gE].find? (fP 9223372036854775809 2109440) = none := by kernel_rfl
theorem g_keep : ([gE].filter fun e => !decide (e.vpn = 2109440 / 4096)) = [gE] := by kernel_rfl
theorem g_drop : ([gE].filter fun e => !decide (e.vpn = 2105344 / 4096)) = [] := by kernel_rfl
def bigE : Ent := ⟨9223372036854775809, 514, 536871119, 1, 4096, 8200, 12304, 3⟩
def farE : Ent := ⟨9223372036854775809, 514, 536871119, 3, 4096, 8200, 12304, 3⟩
def manyE : Ent := ⟨9223372036854775809, 514, 536871119, 0, 4096, 8200, 12304, 4⟩
def lessE : Ent := ⟨9223372036854775809, 514, 536871119, 0, 4096, 8200, 12304, -1⟩
theorem big_pa : paE bigE 2105635 = 2147492131 := by decide +kernel
theorem far_pa : paE farE 2105635 = 0 := by decide +kernel
theorem many_pa : paE manyE 1 = 0 := by decide +kernel
theorem ents_cell {l : List Ent} {k j : Nat} {e : Ent} (h : l[k]? = some e) (hj : j < 8) (R : List Ent) : (entsC (l ++ R)).toArray[k * 8 + j]? = (entL e)[j]? := by
  have := ents_at h R
  have h2 : ((entsC (l ++ R)).toArray.extract (k * 8) (k * 8 + 8))[j]? = (entA e)[j]? := by rw [this]
  rw [Array.getElem?_extract] at h2
  have hk := (List.getElem?_eq_some_iff.1 h).1
  rw [if_pos (by rw [List.size_toArray, entsC_length, List.length_append]; omega)] at h2
  rw [h2, entA_eq]
  simp
end Go.Proofs.Ytmlpcnpkidmlhaa
