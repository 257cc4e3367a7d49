/-
  What comes in: an image.
-/
import Derived.Test.YtcbagjhbmdmjfaaDoorWE
import Derived.Test.YtcbagjhbmdmjfaaDoorID
set_option linter.unusedSimpArgs false
set_option linter.unusedVariables false
set_option linter.unusedSectionVars false
namespace Go.Proofs.YtcbagjhbmdmjfaaDoor
set_option maxRecDepth 100000
open Go Go.Mini Go.Proofs.Tryd
open Go.ChangeShapes Go.WideShapes Go.ChangeAt Go.RowKit

theorem lt63 {a b : Nat} (h : a = b) (h2 : b ≤ maxLen) : a < 9223372036854775808 := by
  have : maxLen < 9223372036854775808 := by decide
  omega
theorem sgs_of (rows : List (List Value)) : (∀ r ∈ rows, leavesIn [.int .u64, .str] r) → ∃ l : List Sg, rows.flatten = sgC l ∧ l.length = rows.length ∧ ∀ e ∈ l, e.ok := by
  induction rows with
  | nil => intro _; exact ⟨[], rfl, rfl, fun e he => by cases he⟩
  | cons r rows ih =>
    intro h
    obtain ⟨l, h1, h2, h3⟩ := ih fun r hr => h r (by simp [hr])
    obtain ⟨x0, x1, rfl, q0, q1⟩ := leaves2 (h r (by simp))
    obtain ⟨a, rfl, ha⟩ := leaf_u64 q0
    obtain ⟨s, rfl, hs⟩ := leaf_str q1
    obtain ⟨a, rfl⟩ := Int.eq_ofNat_of_zero_le ha.1
    obtain ⟨s, rfl⟩ : ∃ l, s = txt l := ⟨s.data.toList, rfl⟩
    refine ⟨⟨a, s⟩ :: l, by rw [List.flatten_cons, h1]; rfl, by simp [h2], fun e he => ?_⟩
    rcases List.mem_cons.1 he with rfl | he
    · have hs' : s.length ≤ maxLen := hs
      have h63 : maxLen ≤ 9223372036854775807 := by decide
      exact ⟨by show a < _; omega, by show s.length < _; omega⟩
    · exact h3 e he
theorem u25 : ∃ f0 f1 : Field, Tryd.prog.underlying 25 = some (.struct #[f0, f1]) ∧ f0.type = 22 ∧ f1.type = 23 ∧ f0.offset = 0 ∧ f1.offset = 1 := ⟨_, _, Tryd.underlying25, rfl, rfl, rfl, rfl⟩
theorem open_img {H : Type} {enc : TypeId × Value → H} {W : World} {r : Reach} {bs : Nat} {v : Value} {D : DataW H} {p : List MemPlace} (hok : Value.okWide Tryd.prog W r bs 25 v) (h : DataW.Trod enc Tryd.prog W 0 (fun _ => true) true 25 v D p) :
    ∃ (n : Nat) (s : Value) (D1 : DataW H) (p1 : List MemPlace), v = .agg #[.int .u64 n, s] ∧ n < 18446744073709551616 ∧ Value.okWide Tryd.prog W r bs 23 s ∧ DataW.Trod enc Tryd.prog W 0 (fun _ => true) true 23 s D1 p1 := by
  obtain ⟨f0, f1, ht, e1, e2, e3, e4⟩ := u25
  have hc25 : Tryd.prog.cellsOf 25 = 2 := by kernel_rfl
  have hc22 : Tryd.prog.cellsOf 22 = 1 := by kernel_rfl
  have hc23 : Tryd.prog.cellsOf 23 = 1 := by kernel_rfl
  have hts : Tryd.prog.cellTypes Tryd.prog.depth 25 = some [22, 23] := by kernel_rfl
  obtain ⟨cs, rfl, hn, ts, h1, _, h2⟩ : ∃ cs, v = .agg cs ∧ cs.size = Tryd.prog.cellsOf 25 ∧ Row.okWide Tryd.prog W r bs 25 cs := by
    simpa [Value.okWide, ht] using hok
  rw [hts] at h1
  cases h1
  rw [hc25] at hn
  obtain ⟨s0, s1, rfl⟩ : ∃ s0 s1, cs = #[s0, s1] := by
    rcases cs with ⟨_ | ⟨s0, _ | ⟨s1, _ | ⟨x, l⟩⟩⟩⟩ <;> simp at hn
    exact ⟨s0, s1, rfl⟩
  obtain ⟨u1, w1, ok1⟩ := h2 1 s1 rfl
  cases w1
  have ok1' : Value.okWide Tryd.prog W r bs 23 s1 := by simpa [Value.okWide, Tryd.underlying23] using ok1
  obtain ⟨m, hm⟩ := h
  obtain ⟨y0, y1, m', _, _, t0, t1⟩ := trod_struct2 ht hm
  rw [e1, e3, hc22] at t0
  rw [e2, e4, hc23] at t1
  have t0' : DataW.trod enc Tryd.prog W 0 (fun _ => true) true m' 22 [s0] = some y0 := by simpa [Value.cells] using t0
  have t1' : DataW.trod enc Tryd.prog W 0 (fun _ => true) true m' 23 [s1] = some y1 := by simpa [Value.cells] using t1
  obtain ⟨n, hcs, _, hw⟩ := DataW.trod_int Tryd.underlying22 t0'
  simp only [List.cons.injEq, and_true] at hcs
  subst hcs
  obtain ⟨g, eg, bg⟩ := leaf_u64 (leaf_lit hw)
  cases eg
  obtain ⟨n, rfl⟩ := Int.eq_ofNat_of_zero_le bg.1
  obtain ⟨a1, k1, c1, z1⟩ := WideShapes.okWide_slice Tryd.underlying23 ok1'
  refine ⟨n, s1, y1.1, y1.2, rfl, by omega, ok1', ⟨m', ?_⟩⟩
  rw [z1] at t1' ⊢
  simpa [Value.cells] using t1'
theorem sl_law {l : List Arg} {ts : Nat → Option (Array Value)} {e n : Nat} {cs : List Value} {v : Value} (hv : Sl (argsHp l) e n cs v) (hlen : l.length ≤ 100 := by simp) : Sl (lawHp l ts) e n cs v := by
  obtain ⟨h0, h1 | ⟨a, c, b, rfl, h2, h3⟩⟩ := hv
  · exact ⟨h0, .inl h1⟩
  · refine ⟨h0, .inr ⟨a, c, b, rfl, ?_, h3⟩⟩
    obtain ⟨p, c', hp, _, _⟩ := argsHp_blks h2
    have := (List.getElem?_eq_some_iff.1 hp).1
    simp only [lawHp]
    rw [if_pos (by omega)]
    exact h2
end Go.Proofs.YtcbagjhbmdmjfaaDoor
