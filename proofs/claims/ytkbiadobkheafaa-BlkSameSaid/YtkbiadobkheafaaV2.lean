/-
  A block device: works; acts that come in.
-/
import Derived.Test.YtkbiadobkheafaaV1
import Derived.Test.YtkbiadobkheafaaM19
set_option linter.unusedSimpArgs false
set_option linter.unusedVariables false
set_option linter.unusedSectionVars false
namespace Go.Proofs.Ytkbiadobkheafaa
open Go Go.Mini Go.Proofs.Try
set_option maxRecDepth 100000

theorem bytesM_at (M : Nat → Nat) (x n i : Nat) (hi : i < n) : (bytesM M x n)[i]? = some (UInt8.ofNat (M (x + i))) := by
  unfold bytesM
  simp [hi]
theorem given_sec : (List.range 64).map (fun i => UInt8.ofNat (secM givenD 3 i)) = (lett 65).drop 1 := by
  apply List.ext_getElem?
  intro i
  by_cases hi : i < 64
  · rw [List.getElem?_map, List.getElem?_range hi, List.getElem?_drop, lett_at (show 1 + i < 65 by omega)]
    show some (UInt8.ofNat (takeS (fun _ => 0) 3 M128 1 (3 * 64 + i))) = _
    unfold takeS
    rw [if_pos (by omega)]
    show some (UInt8.ofNat (lay (fun _ => 0) 0 (lett 128) (1 + (3 * 64 + i - 3 * 64)))) = _
    unfold lay
    rw [lett_length, if_pos (by omega), show 1 + (3 * 64 + i - 3 * 64) - 0 = 1 + i by omega, lett_at (show 1 + i < 128 by omega)]
    have h26 : (1 + i) % 26 < abc.length := by rw [abc_length]; omega
    rw [List.getElem?_eq_getElem h26]
    simp
  · rw [List.getElem?_eq_none (by simp; omega), List.getElem?_eq_none (by simp [lett_length]; omega)]
section
variable {h : Hp} {K : Value → Hp → Prop}
theorem works_call (hK : ∀ h', Ext h h' → K (.bool true) h') : ACall prog 8 [] h K := by
  refine acallF_of tb0 func8 rfl rfl mixed (by kernel_rfl) fun hwf => ?_
  simp -dsimp (disch := omega)
  refine given_call fun h1 p pm b a w o => ?_
  simp -dsimp (disch := omega)
  refine sector_call (n := 3) o.dm.dev o.dm.ok (by omega) ?_
  rw [given_sec]
  simp -dsimp (disch := omega)
  refine letters_call (n := 65) (by omega) ?_
  have l65 : (txt (lett 65)).size = 65 := by rw [txt_size, lett_length]
  have hx : (txt (lett 65)).extract 1 65 = txt ((lett 65).drop 1) := by rw [txt_extract, List.take_of_length_le (by rw [lett_length]; omega)]
  simp -dsimp (disch := omega) [l65, hx]
  exact RetF.all (r := .bool true) (by simp) (hK _ o.ext)
end

theorem flat_at {α : Type} {f : α → List Value} {n : Nat} (hf : ∀ x, (f x).length = n) (l : List α) : ∀ (k : Nat) (e : α), l[k]? = some e → ∀ j, j < n → (l.flatMap f)[k * n + j]? = (f e)[j]? := by
  induction l with
  | nil => intro k e h; simp at h
  | cons x l ih =>
    intro k e h j hj
    have hx := hf x
    cases k with
    | zero =>
      simp only [List.getElem?_cons_zero, Option.some.injEq] at h
      subst h
      rw [List.flatMap_cons, Nat.zero_mul, Nat.zero_add, List.getElem?_append_left (by omega)]
    | succ k =>
      have := ih k e (by simpa using h) j hj
      rw [List.flatMap_cons, List.getElem?_append_right (by rw [hx, Nat.succ_mul]; omega), hx, Nat.succ_mul, show k * n + n + j - n = k * n + j from by omega, this]
theorem sl_el {α : Type} {f : α → List Value} {n : Nat} {h : Hp} {l : List α} {v : Value} {k : Nat} {e : α} (hf : ∀ x, (f x).length = n) (hv : Sl h n l.length (l.flatMap f) v) (hk : l[k]? = some e) :
    ∃ a c b, v = .slice (some a) l.length c ∧ h.blks a.block = some b ∧ a.off + k * n + n ≤ b.cells.size ∧ b.cells.extract (a.off + k * n) (a.off + k * n + n) = (f e).toArray ∧ ∀ j, j < n → b.cells[a.off + k * n + j]? = (f e)[j]? := by
  have hlt : k < l.length := (List.getElem?_eq_some_iff.1 hk).1
  obtain ⟨h0, ⟨_, _, _, h1⟩ | ⟨a, c, b, rfl, h2, h3, h4⟩⟩ := hv
  · omega
  · have hm : k * n + n ≤ l.length * n := by rw [← Nat.succ_mul]; exact Nat.mul_le_mul_right n hlt
    have hat : ∀ j, j < n → b.cells[a.off + k * n + j]? = (f e)[j]? := fun j hj => by
      have := h4 (k * n + j) (by omega)
      rw [← Nat.add_assoc] at this
      rw [this]
      exact flat_at hf l k e hk j hj
    refine ⟨a, c, b, rfl, h2, by omega, ?_, hat⟩
    apply Array.ext_getElem?
    intro i
    rw [Array.getElem?_extract]
    by_cases hi : i < n
    · rw [if_pos (by omega), hat i hi]; simp
    · rw [if_neg (by omega)]
      symm
      simp [hf]
      omega
structure Act where
  what : Nat
  x : Nat
  v : Nat
  w : Int
def actC (a : Act) : List Value := [.int .u8 a.what, .int .u64 a.x, .int .u64 a.v, .int .i64 a.w]
def actsC (l : List Act) : List Value := l.flatMap actC
def Act.ok (a : Act) : Prop := a.what < 256 ∧ a.x < 18446744073709551616 ∧ a.v < 18446744073709551616
theorem actC_len (a : Act) : (actC a).length = 4 := rfl
theorem leaves4 {a b c d : Leaf} {r : List Value} (h : leavesIn [a, b, c, d] r) : ∃ x y z u, r = [x, y, z, u] ∧ leafIn a x ∧ leafIn b y ∧ leafIn c z ∧ leafIn d u := by
  match r, h with
  | [x, y, z, u], ⟨h1, h2, h3, h4, _⟩ => exact ⟨x, y, z, u, rfl, h1, h2, h3, h4⟩
theorem acts_of (rows : List (List Value)) : (∀ r ∈ rows, leavesIn [.int .u8, .int .u64, .int .u64, .int .i64] r) → ∃ l : List Act, rows.flatten = actsC l ∧ l.length = rows.length ∧ ∀ e ∈ l, e.ok := by
  induction rows with
  | nil => intro _; exact ⟨[], rfl, rfl, fun e he => by cases he⟩
  | cons r rows ih =>
    intro h
    obtain ⟨l, h1, h2, h3⟩ := ih fun r hr => h r (by simp [hr])
    obtain ⟨x0, x1, x2, x3, rfl, q0, q1, q2, q3⟩ := leaves4 (h r (by simp))
    obtain ⟨a, rfl, ha⟩ := leaf_u8 q0
    obtain ⟨b, rfl, hb⟩ := leaf_u64 q1
    obtain ⟨c, rfl, hc⟩ := leaf_u64 q2
    obtain ⟨d, rfl, hd⟩ := leaf_i64 q3
    obtain ⟨a, rfl⟩ := Int.eq_ofNat_of_zero_le ha.1
    obtain ⟨b, rfl⟩ := Int.eq_ofNat_of_zero_le hb.1
    obtain ⟨c, rfl⟩ := Int.eq_ofNat_of_zero_le hc.1
    refine ⟨⟨a, b, c, d⟩ :: l, by rw [List.flatten_cons, h1]; rfl, by simp [h2], fun e he => ?_⟩
    rcases List.mem_cons.1 he with rfl | he
    · exact ⟨by show a < 256; omega, by show b < 18446744073709551616; omega, by show c < 18446744073709551616; omega⟩
    · exact h3 e he
theorem lt63 {a b : Nat} (h : a = b) (h2 : b ≤ maxLen) : a < 9223372036854775808 := by
  have : maxLen < 9223372036854775808 := by decide
  omega
end Go.Proofs.Ytkbiadobkheafaa
