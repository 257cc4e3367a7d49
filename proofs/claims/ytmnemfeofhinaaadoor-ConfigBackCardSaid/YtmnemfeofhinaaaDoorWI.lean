/-
  What comes in: a configuration.
-/
import Derived.Test.YtmnemfeofhinaaaDoorM35
import Derived.Test.YtmnemfeofhinaaaDoorWE
import Derived.Test.YtmnemfeofhinaaaDoorLA
set_option linter.unusedSimpArgs false
set_option linter.unusedVariables false
set_option linter.unusedSectionVars false
namespace Go.Proofs.YtmnemfeofhinaaaDoor
set_option maxRecDepth 100000
open Go Go.Mini Go.Proofs.Tryd
open Go.ChangeShapes Go.WideShapes Go.ChangeAt Go.RowKit

theorem u27 : ∃ f0 f1 f2 : Field, Tryd.prog.underlying 27 = some (.struct #[f0, f1, f2]) ∧ f0.type = 23 ∧ f1.type = 24 ∧ f2.type = 25 ∧ f0.offset = 0 ∧ f1.offset = 1 ∧ f2.offset = 2 := ⟨_, _, _, Tryd.underlying27, rfl, rfl, rfl, rfl, rfl, rfl⟩
theorem u69 : ∃ f0 f1 f2 f3 f4 f5 f6 : Field, Tryd.prog.underlying 69 = some (.struct #[f0, f1, f2, f3, f4, f5, f6]) ∧ (f0.type = 5 ∧ f1.type = 5 ∧ f2.type = 5 ∧ f3.type = 67 ∧ f4.type = 5 ∧ f5.type = 5 ∧ f6.type = 61) ∧ (f0.offset = 0 ∧ f1.offset = 1 ∧ f2.offset = 2 ∧ f3.offset = 3 ∧ f4.offset = 4 ∧ f5.offset = 5 ∧ f6.offset = 6) := ⟨_, _, _, _, _, _, _, Tryd.underlying69, ⟨rfl, rfl, rfl, rfl, rfl, rfl, rfl⟩, ⟨rfl, rfl, rfl, rfl, rfl, rfl, rfl⟩⟩
theorem c23 : Tryd.prog.underlying 23 = some (.slice 64) := Tryd.underlying23
theorem c24 : Tryd.prog.underlying 24 = some (.slice 76) := Tryd.underlying24
theorem c25 : Tryd.prog.underlying 25 = some (.slice 69) := Tryd.underlying25
theorem c67 : Tryd.prog.underlying 67 = some (.slice 66) := Tryd.underlying67
theorem c5 : Tryd.prog.underlying 5 = some (.int .u8) := Tryd.underlying5
theorem c61 : Tryd.prog.underlying 61 = some (.int .u32) := Tryd.underlying61
def gLs : List Leaf := .int .u8 :: .int .u32 :: .int .u8 :: List.replicate 17 (.int .u8)
theorem l64 : leavesA Tryd.prog 5 64 = some gLs := by kernel_rfl
theorem l76 : leavesA Tryd.prog 5 76 = some [.int .u8, .int .u16] := by kernel_rfl
theorem l66 : leavesA Tryd.prog 5 66 = some [.int .u8, .int .u8] := by kernel_rfl
theorem k64 : Tryd.prog.cellsOf 64 = 20 := by kernel_rfl
theorem k76 : Tryd.prog.cellsOf 76 = 2 := by kernel_rfl
theorem k66 : Tryd.prog.cellsOf 66 = 2 := by kernel_rfl
theorem k69 : Tryd.prog.cellsOf 69 = 7 := by kernel_rfl
theorem k5 : Tryd.prog.cellsOf 5 = 1 := by kernel_rfl
theorem k61 : Tryd.prog.cellsOf 61 = 1 := by kernel_rfl
theorem k67 : Tryd.prog.cellsOf 67 = 1 := by kernel_rfl
theorem k23 : Tryd.prog.cellsOf 23 = 1 := by kernel_rfl
theorem k24 : Tryd.prog.cellsOf 24 = 1 := by kernel_rfl
theorem k25 : Tryd.prog.cellsOf 25 = 1 := by kernel_rfl
theorem k27 : Tryd.prog.cellsOf 27 = 3 := by kernel_rfl

theorem u8s_of {l : List Value} : ∀ {n : Nat}, leavesIn (List.replicate n (.int .u8)) l → ∃ a : List Nat, l = u8L a ∧ a.length = n ∧ ∀ x ∈ a, x < 256 := by
  induction l with
  | nil =>
    intro n h
    have := leavesIn_length h
    simp at this
    subst this
    exact ⟨[], rfl, rfl, fun x hx => by cases hx⟩
  | cons v l ih =>
    intro n h
    cases n with
    | zero => exact h.elim
    | succ n =>
      rw [List.replicate_succ] at h
      obtain ⟨g, e, b⟩ := leaf_u8 h.1
      subst e
      obtain ⟨g, rfl⟩ := Int.eq_ofNat_of_zero_le b.1
      obtain ⟨a, e1, e2, e3⟩ := ih h.2
      exact ⟨g :: a, by rw [e1]; rfl, by simp [e2], fun x hx => by
        rcases List.mem_cons.1 hx with rfl | hx
        · omega
        · exact e3 x hx⟩
theorem gu_of {r : List Value} (h : leavesIn gLs r) : ∃ g : Gu, r = guC g ∧ g.ok := by
  match r, h with
  | v0 :: v1 :: v2 :: l, ⟨h0, h1, h2, h3⟩ =>
    obtain ⟨a, e0, b0⟩ := leaf_u8 h0
    obtain ⟨b, e1, b1⟩ := leaf_u32 h1
    obtain ⟨c, e2, b2⟩ := leaf_u8 h2
    subst e0 e1 e2
    obtain ⟨a, rfl⟩ := Int.eq_ofNat_of_zero_le b0.1
    obtain ⟨b, rfl⟩ := Int.eq_ofNat_of_zero_le b1.1
    obtain ⟨c, rfl⟩ := Int.eq_ofNat_of_zero_le b2.1
    obtain ⟨l', e, e1, e2⟩ := u8s_of h3
    subst e
    exact ⟨⟨a, b, c, l'⟩, rfl, by show a < 256; omega, by show b < _; omega, by show c < 256; omega, e1, e2⟩
theorem rows_of {α : Type} {ls : List Leaf} {C : α → List Value} {ok : α → Prop} (one : ∀ {r}, leavesIn ls r → ∃ g, r = C g ∧ ok g) : ∀ (rows : List (List Value)), (∀ r ∈ rows, leavesIn ls r) → ∃ l : List α, rows.flatten = l.flatMap C ∧ l.length = rows.length ∧ ∀ e ∈ l, ok e := by
  intro rows
  induction rows with
  | nil => intro _; exact ⟨[], rfl, rfl, fun e he => by cases he⟩
  | cons r rows ih =>
    intro h
    obtain ⟨l, h1, h2, h3⟩ := ih fun r hr => h r (by simp [hr])
    obtain ⟨g, rfl, hg⟩ := one (h r (by simp))
    refine ⟨g :: l, by rw [List.flatten_cons, h1]; rfl, by simp [h2], fun e he => ?_⟩
    rcases List.mem_cons.1 he with rfl | he
    · exact hg
    · exact h3 e he
theorem win_of {r : List Value} (h : leavesIn [.int .u8, .int .u16] r) : ∃ w : Win, r = winC w ∧ w.ok := by
  obtain ⟨x, y, rfl, q0, q1⟩ := leaves2 h
  obtain ⟨a, rfl, b0⟩ := leaf_u8 q0
  obtain ⟨b, rfl, b1⟩ := leaf_u16 q1
  obtain ⟨a, rfl⟩ := Int.eq_ofNat_of_zero_le b0.1
  obtain ⟨b, rfl⟩ := Int.eq_ofNat_of_zero_le b1.1
  exact ⟨⟨a, b⟩, rfl, by show a < 256; omega, by show b < 65536; omega⟩
theorem end_of {r : List Value} (h : leavesIn [.int .u8, .int .u8] r) : ∃ e : Nat × Nat, r = endC e ∧ (e.1 < 256 ∧ e.2 < 256) := by
  obtain ⟨x, y, rfl, q0, q1⟩ := leaves2 h
  obtain ⟨a, rfl, b0⟩ := leaf_u8 q0
  obtain ⟨b, rfl, b1⟩ := leaf_u8 q1
  obtain ⟨a, rfl⟩ := Int.eq_ofNat_of_zero_le b0.1
  obtain ⟨b, rfl⟩ := Int.eq_ofNat_of_zero_le b1.1
  exact ⟨(a, b), rfl, by show a < 256; omega, by show b < 256; omega⟩
section
variable {H : Type} {enc : TypeId × Value → H} {W : World}
theorem maxLen63 : maxLen < 9223372036854775808 := by decide
/-- A channel that lies somewhere. -/
theorem chan_in {R : List Value} {fuel : Nat} {x : DataW H × List MemPlace} (h : DataW.trod enc Tryd.prog W 0 (fun _ => true) true fuel 69 R = some x) :
    ∃ (B : Arg) (c : Ch) (v3 : Value), ArgOk W B ∧ c.ok ∧ R = chC c v3 ∧ ∀ (ρ : Rn) (nm : Nat), ρ nm = ⟨B.blk, B.off, 0⟩ → ∃ v', rl ρ v' = v3 ∧ vtop v' ≤ nm + 1 ∧ v'.oneCell' = true ∧ (∀ b, sblk v' = some b → b = nm) ∧ ∀ h : Hp, (∀ c, B.cells = some c → h.blks nm = some ⟨c, 1, false⟩) → ToV h c.to v' := by
  obtain ⟨f0, f1, f2, f3, f4, f5, f6, ht, ⟨t0, t1, t2, t3, t4, t5, t6⟩, ⟨o0, o1, o2, o3, o4, o5, o6⟩⟩ := u69
  obtain ⟨xs, n, _, _, hlen, hxs, hall⟩ := DataW.trod_struct ht h
  rw [k69] at hlen
  simp only [List.size_toArray, List.length_cons, List.length_nil] at hxs
  obtain ⟨v0, v1, v2, v3, v4, v5, v6, rfl⟩ : ∃ v0 v1 v2 v3 v4 v5 v6, R = [v0, v1, v2, v3, v4, v5, v6] := by
    match R, hlen with
    | [v0, v1, v2, v3, v4, v5, v6], _ => exact ⟨_, _, _, _, _, _, _, rfl⟩
  have el : ∀ (i : Nat) (f : Field), (#[f0, f1, f2, f3, f4, f5, f6] : Array Field)[i]? = some f → ∃ y, DataW.trod enc Tryd.prog W 0 (fun _ => true) true n f.type (([v0, v1, v2, v3, v4, v5, v6].drop f.offset).take (Tryd.prog.cellsOf f.type)) = some y := fun i f hf => by
    rw [hall i f hf]
    have := (Array.getElem?_eq_some_iff.1 hf).1
    simp only [List.size_toArray, List.length_cons, List.length_nil] at this
    exact ⟨xs[i], List.getElem?_eq_getElem (by omega)⟩
  have ib : ∀ {v : Value} {k : IntKind} {t : TypeId} {y : DataW H × List MemPlace}, Tryd.prog.underlying t = some (.int k) → DataW.trod enc Tryd.prog W 0 (fun _ => true) true n t [v] = some y → leafIn (.int k) v := fun ht hy => by
    obtain ⟨m, hcs, _, hw⟩ := DataW.trod_int ht hy
    simp only [List.cons.injEq, and_true] at hcs
    subst hcs
    exact leaf_lit hw
  obtain ⟨y0, e0⟩ := el 0 f0 rfl
  obtain ⟨y1, e1⟩ := el 1 f1 rfl
  obtain ⟨y2, e2⟩ := el 2 f2 rfl
  obtain ⟨y3, e3⟩ := el 3 f3 rfl
  obtain ⟨y4, e4⟩ := el 4 f4 rfl
  obtain ⟨y5, e5⟩ := el 5 f5 rfl
  obtain ⟨y6, e6⟩ := el 6 f6 rfl
  rw [t0, o0, k5] at e0
  rw [t1, o1, k5] at e1
  rw [t2, o2, k5] at e2
  rw [t3, o3, k67] at e3
  rw [t4, o4, k5] at e4
  rw [t5, o5, k5] at e5
  rw [t6, o6, k61] at e6
  obtain ⟨a0, q0, b0⟩ := leaf_u8 (ib c5 e0)
  obtain ⟨a1, q1, b1⟩ := leaf_u8 (ib c5 e1)
  obtain ⟨a2, q2, b2⟩ := leaf_u8 (ib c5 e2)
  obtain ⟨a4, q4, b4⟩ := leaf_u8 (ib c5 e4)
  obtain ⟨a5, q5, b5⟩ := leaf_u8 (ib c5 e5)
  obtain ⟨a6, q6, b6⟩ := leaf_u32 (ib c61 e6)
  subst q0 q1 q2 q4 q5 q6
  obtain ⟨a0, rfl⟩ := Int.eq_ofNat_of_zero_le b0.1
  obtain ⟨a1, rfl⟩ := Int.eq_ofNat_of_zero_le b1.1
  obtain ⟨a2, rfl⟩ := Int.eq_ofNat_of_zero_le b2.1
  obtain ⟨a4, rfl⟩ := Int.eq_ofNat_of_zero_le b4.1
  obtain ⟨a5, rfl⟩ := Int.eq_ofNat_of_zero_le b5.1
  obtain ⟨a6, rfl⟩ := Int.eq_ofNat_of_zero_le b6.1
  obtain ⟨B, rows, okB, hrows, hlen2, hB⟩ := open_slR c67 l66 k66 (by decide) e3
  obtain ⟨to, z1, z2, z3⟩ := rows_of end_of rows hrows
  have h63 := maxLen63
  refine ⟨B, ⟨a0, a1, a2, to, a4, a5, a6⟩, v3, okB, ⟨by show a0 < _; omega, by show a1 < _; omega, by show a2 < _; omega, by show a4 < _; omega, by show a5 < _; omega, by show a6 < _; omega, z3, by show to.length < _; omega⟩, rfl, fun ρ nm hρ => ?_⟩
  obtain ⟨v', w1, w2, w3, w4, w5⟩ := hB ρ nm hρ
  refine ⟨v', w1, w2, w3, w4, fun h hh => ?_⟩
  rcases w5 h hh with w | ⟨r0, w, _⟩
  · left
    rw [z1, ← z2] at w
    exact w
  · right
    refine ⟨?_, w⟩
    rw [r0] at z2
    exact List.length_eq_zero_iff.1 z2
end
end Go.Proofs.YtmnemfeofhinaaaDoor
