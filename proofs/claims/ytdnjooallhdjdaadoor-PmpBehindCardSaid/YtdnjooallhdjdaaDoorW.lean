/-
  What comes in: the table that the program lays, the registers, an access.
-/
import Derived.Test.YtdnjooallhdjdaaDoorRows
import Derived.Test.YtdnjooallhdjdaaDoorTie
import Derived.Test.YtdnjooallhdjdaaDoorCards
import Derived.Test.YtdnjooallhdjdaaDoorA8
import Derived.Test.YtdnjooallhdjdaaDoorM19
import Derived.WalkKit
import Derived.ProofKit
import Derived.LaidMore
import Derived.LaidLaws
import Derived.OpenShut
import Derived.ShutString
import Derived.ChangeOld
import Derived.Below
import Derived.Stop.Joined
import Derived.SevenTiedAt
set_option linter.unusedSimpArgs false
set_option linter.unusedVariables false
namespace Go.Proofs.YtdnjooallhdjdaaDoor
open Go Go.Mini Go.Proofs.Tryd
open Go.ChangeShapes Go.WideShapes Go.ChangeAt Go.RowKit

theorem own : ownKnob Tryd.prog.godebug = none := by kernel_rfl
theorem laidOut : laidOutB Tryd.prog = true := by kernel_rfl
theorem gTab : Tryd.prog.globalNamed "math/bits.deBruijn64tab" = some 0 := by kernel_rfl
theorem tTab : (Tryd.prog.globals[0]?).map (·.type) = some 55 := by kernel_rfl
abbrev laid1 : List (String × DataW Unit) := [("math/bits.deBruijn64tab", Rows.laid_math_bits_deBruijn64tab)]

theorem door_met (os : Os) (args : Array Value) : laidMetH Tryd.prog laid1 ((World.doorLaid Tryd.prog 400 os).forCall (fun _ _ => 0) ⟨#[], args, []⟩).memory :=
  laidMetH_of_parts3 (fuel := 8) (laidMet_of_run' 8 (by kernel_rfl) (by kernel_rfl)) (by kernel_rfl) (by kernel_rfl)

theorem one_cell {cs : List Value} {i : Nat} {v : Value} (h : (cs.drop i).take 1 = [v]) : cs[i]? = some v := by
  have : (cs.drop i)[0]? = some v := by
    cases hd : cs.drop i with
    | nil => rw [hd] at h; cases h
    | cons x l => rw [hd] at h; simp at h; simp [h]
  simpa using this

theorem tab_of_laid {W : World} (h : laidMetH Tryd.prog laid1 W) : TabOk W tab := by
  rw [MakeChecks.laidMetH_plain _ _ _ (by kernel_rfl)] at h
  obtain ⟨ps, ⟨g0, t0, cs0, f0, p0, q0, hg0, ht0, hv0, hd0, _, _⟩, _, _⟩ := h
  obtain rfl := Option.some.inj (gTab.symm.trans hg0)
  obtain rfl := Option.some.inj (tTab.symm.trans ht0)
  obtain ⟨xs, m1, rfl, hx1, hlen, hn3, hel⟩ := DataW.trod_array Tryd.underlying55 hd0
  have c5 : Tryd.prog.cellsOf 5 = 1 := by kernel_rfl
  have c55 : Tryd.prog.cellsOf 55 = 64 := by kernel_rfl
  simp only [Prod.mk.injEq] at hx1
  have hxs : (DataW.agg (xs.map (·.1)) : DataW Unit) = .agg (tabN.map fun n : Nat => .lit (.int .u8 (n : Int))) := hx1.1.symm.trans (by rfl)
  have hxs' : xs.map (·.1) = tabN.map fun n : Nat => (.lit (.int .u8 (n : Int)) : DataW Unit) := by injection hxs
  have hcell : ∀ i, (hi : i < 64) → cs0.toList[i]? = tab[i]? := fun i hi => by
    have h0 := hel i hi
    rw [c5, Nat.mul_one] at h0
    obtain ⟨x, hx⟩ : ∃ x, xs[i]? = some x := ⟨xs[i], List.getElem?_eq_getElem (by omega)⟩
    rw [hx] at h0
    obtain ⟨k, e1, e2, _⟩ := DataW.trod_int Tryd.underlying5 h0
    rw [one_cell e1]
    have : (xs.map (·.1))[i]? = some x.1 := by rw [List.getElem?_map, hx]; rfl
    rw [hxs', List.getElem?_map, e2] at this
    unfold tab
    rw [List.getElem?_toArray, List.getElem?_map]
    cases ht : tabN[i]? with
    | none => rw [ht] at this; cases this
    | some n => rw [ht] at this; simp at this; simp [this]
  refine ⟨?_, ?_⟩
  · unfold World.var? at hv0
    rw [gTab] at hv0
    simp only [Option.bind_some] at hv0
    split at hv0
    · rename_i cs t f hc
      cases hv0
      refine ⟨_, _, _, hc, fun j hj => ?_⟩
      have := hcell j hj
      rw [Array.getElem?_toList] at this
      rw [this, Array.getElem?_eq_getElem hj]
    · cases hv0
  · intro v hv
    unfold tab at hv
    simp only [List.mem_toArray, List.mem_map] at hv
    obtain ⟨n, _, rfl⟩ := hv
    exact ⟨rfl, rfl, fun _ => rfl⟩

section
variable {H : Type} {enc : TypeId × Value → H} {W : World}
theorem regs_in {cs : List Value} {d : DataW H} {p : List MemPlace} (h : ∃ m, DataW.trod enc Tryd.prog W 0 (fun _ => true) true m 23 cs = some (d, p)) : ∃ A : Nat → Nat, (∀ j, j < 8 → A j < 18446744073709551616) ∧ cs = (adr A).toList := by
  obtain ⟨m, hd⟩ := h
  obtain ⟨xs, m1, rfl, hx1, hlen, hn3, hel⟩ := DataW.trod_array Tryd.underlying23 hd
  have c22 : Tryd.prog.cellsOf 22 = 1 := by kernel_rfl
  have c23 : Tryd.prog.cellsOf 23 = 8 := by kernel_rfl
  have hcell : ∀ i, i < 8 → ∃ n : Nat, cs[i]? = some (.int .u64 n) ∧ n < 18446744073709551616 := fun i hi => by
    have h0 := hel i hi
    rw [c22, Nat.mul_one] at h0
    obtain ⟨x, hx⟩ : ∃ x, xs[i]? = some x := ⟨xs[i], List.getElem?_eq_getElem (by omega)⟩
    rw [hx] at h0
    obtain ⟨k, e1, e2, e3⟩ := DataW.trod_int Tryd.underlying22 h0
    obtain ⟨k', eq, hk⟩ := leaf_u64 (leaf_lit e3)
    cases eq
    exact ⟨k.toNat, by rw [one_cell e1, Int.toNat_of_nonneg hk.1], by omega⟩
  obtain ⟨N, hN⟩ : ∃ N : Nat → Nat, ∀ i, i < 8 → cs[i]? = some (.int .u64 (N i)) ∧ N i < 18446744073709551616 := ⟨fun i => if h : i < 8 then (hcell i h).choose else 0, fun i hi => by simp only [dif_pos hi]; exact (hcell i hi).choose_spec⟩
  refine ⟨N, fun j hj => (hN j hj).2, ?_⟩
  apply List.ext_getElem?
  intro i
  by_cases hi : i < 8
  · rw [(hN i hi).1, Array.getElem?_toList, adr_at _ _ hi]
  · rw [List.getElem?_eq_none (by omega), List.getElem?_eq_none (by simp; omega)]
end

theorem adr_top (A : Nat → Nat) : vtop (.agg (adr A)) = 0 := Nat.le_zero.1 (vtop_agg.2 fun v hv => by
  simp only [adr, List.mem_toArray, List.mem_map] at hv
  obtain ⟨n, _, rfl⟩ := hv
  exact Nat.le_refl _)
theorem leaves4 {a b c d : Leaf} {r : List Value} (h : leavesIn [a, b, c, d] r) : ∃ x y z u, r = [x, y, z, u] ∧ leafIn a x ∧ leafIn b y ∧ leafIn c z ∧ leafIn d u := by
  match r, h with
  | [x, y, z, u], ⟨h1, h2, h3, h4, _⟩ => exact ⟨x, y, z, u, rfl, h1, h2, h3, h4⟩
theorem top3 {x y z : Value} (hx : vtop x = 0) (hy : vtop y = 0) (hz : vtop z = 0) : ∀ v ∈ [x, y, z], vtop v = 0 := fun v hv => by
  simp only [List.mem_cons, List.not_mem_nil, or_false] at hv
  rcases hv with rfl | rfl | rfl <;> assumption
theorem adr_rl (A : Nat → Nat) (ρ : Rn) : rl ρ (.agg (adr A)) = .agg (adr A) := rl_id _ (adr_top A)

theorem u64_rl (n : Int) (ρ : Rn) : rl ρ (.int .u64 n) = .int .u64 n := rl_id _ rfl
theorem u8_rl (n : Int) (ρ : Rn) : rl ρ (.int .u8 n) = .int .u8 n := rl_id _ rfl
theorem i64_rl (n : Int) (ρ : Rn) : rl ρ (.int .i64 n) = .int .i64 n := rl_id _ rfl
theorem acc_top (m k a : Nat) (w : Int) : vtop (accV m k a w) = 0 := rfl
theorem acc_rl (m k a : Nat) (w : Int) (ρ : Rn) : rl ρ (accV m k a w) = accV m k a w := rl_id _ (acc_top m k a w)
theorem acc_in {H : Type} {enc : TypeId × Value → H} {W : World} {v : Value} {d : DataW H} {p : List MemPlace} {cs : Array Value} (hv : v = .agg cs) (h : DataW.Trod enc Tryd.prog W 0 (fun _ => true) true 35 v d p) : ∃ (m k a : Nat) (w : Int), m < 256 ∧ k < 256 ∧ a < 18446744073709551616 ∧ w ≤ 9223372036854775807 ∧ v = accV m k a w := by
  subst hv
  obtain ⟨n, hm⟩ := h
  obtain ⟨x, y, z, u, hcs, h1, h2, h3, h4⟩ := leaves4 (leaves_in 5 35 [.int .u8, .int .u8, .int .u64, .int .i64] n cs.toList _ (by kernel_rfl) (by kernel_rfl) hm)
  obtain ⟨m', rfl, hm'⟩ := leaf_u8 h1
  obtain ⟨k', rfl, hk'⟩ := leaf_u8 h2
  obtain ⟨a', rfl, ha'⟩ := leaf_u64 h3
  obtain ⟨w, rfl, hw⟩ := leaf_i64 h4
  obtain ⟨m, rfl⟩ := Int.eq_ofNat_of_zero_le hm'.1
  obtain ⟨k, rfl⟩ := Int.eq_ofNat_of_zero_le hk'.1
  obtain ⟨a, rfl⟩ := Int.eq_ofNat_of_zero_le ha'.1
  refine ⟨m, k, a, w, by omega, by omega, by omega, hw.2, ?_⟩
  unfold accV
  congr 1
  apply Array.ext'
  simpa using hcs

end Go.Proofs.YtdnjooallhdjdaaDoor
