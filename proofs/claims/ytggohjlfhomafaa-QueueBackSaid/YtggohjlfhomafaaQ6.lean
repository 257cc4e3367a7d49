/-
  Acts that come in; few, receives, awake.
-/
import Derived.Test.YtggohjlfhomafaaQ5
import Derived.Test.YtggohjlfhomafaaM19
set_option linter.unusedSimpArgs false
set_option linter.unusedVariables false
set_option linter.unusedSectionVars false
namespace Go.Proofs.Ytggohjlfhomafaa
open Go Go.Mini Go.Proofs.Try

theorem flat_at {α : Type} {f : α → List Value} {n : Nat} (hf : ∀ x, (f x).length = n) (l : List α) : ∀ (k : Nat) (e : α), l[k]? = some e → ∀ j, j < n → (l.flatMap f)[k * n + j]? = (f e)[j]? := by
  induction l with
  | nil => intro k e h; simp at h
  | cons x l ih =>
    intro k e h j hj
    have hx := hf x
    cases k with
    | zero =>
      simp only [List.getElem?_cons_zero, Option.some.injEq] at h
      subst h
      rw [List.flatMap_cons, Nat.zero_mul, Nat.zero_add, List.getElem?_append_left (by omega)]
    | succ k =>
      have := ih k e (by simpa using h) j hj
      rw [List.flatMap_cons, List.getElem?_append_right (by rw [hx, Nat.succ_mul]; omega), hx, Nat.succ_mul, show k * n + n + j - n = k * n + j from by omega, this]
theorem sl_el {α : Type} {f : α → List Value} {n : Nat} {h : Hp} {l : List α} {v : Value} {k : Nat} {e : α} (hf : ∀ x, (f x).length = n) (hv : Sl h n l.length (l.flatMap f) v) (hk : l[k]? = some e) :
    ∃ a c b, v = .slice (some a) l.length c ∧ h.blks a.block = some b ∧ a.off + k * n + n ≤ b.cells.size ∧ b.cells.extract (a.off + k * n) (a.off + k * n + n) = (f e).toArray ∧ ∀ j, j < n → b.cells[a.off + k * n + j]? = (f e)[j]? := by
  have hlt : k < l.length := (List.getElem?_eq_some_iff.1 hk).1
  obtain ⟨h0, ⟨_, _, _, h1⟩ | ⟨a, c, b, rfl, h2, h3, h4⟩⟩ := hv
  · omega
  · have hm : k * n + n ≤ l.length * n := by rw [← Nat.succ_mul]; exact Nat.mul_le_mul_right n hlt
    have hat : ∀ j, j < n → b.cells[a.off + k * n + j]? = (f e)[j]? := fun j hj => by
      have := h4 (k * n + j) (by omega)
      rw [← Nat.add_assoc] at this
      rw [this]
      exact flat_at hf l k e hk j hj
    refine ⟨a, c, b, rfl, h2, by omega, ?_, hat⟩
    apply Array.ext_getElem?
    intro i
    rw [Array.getElem?_extract]
    by_cases hi : i < n
    · rw [if_pos (by omega), hat i hi]; simp
    · rw [if_neg (by omega)]
      symm
      simp [hf]
      omega

structure Act where
  what : Nat
  s : List UInt8
def actC (a : Act) : List Value := [.int .u8 a.what, .string (txt a.s)]
def actsC (l : List Act) : List Value := l.flatMap actC
def Act.ok (a : Act) : Prop := a.what < 256 ∧ a.s.length ≤ 9223372036854775807

theorem actC_len (a : Act) : (actC a).length = 2 := rfl
theorem leaves2 {a b : Leaf} {r : List Value} (h : leavesIn [a, b] r) : ∃ x y, r = [x, y] ∧ leafIn a x ∧ leafIn b y := by
  match r, h with
  | [x, y], ⟨h1, h2, _⟩ => exact ⟨x, y, rfl, h1, h2⟩
theorem acts_of (rows : List (List Value)) : (∀ r ∈ rows, leavesIn [.int .u8, .str] r) → ∃ l : List Act, rows.flatten = actsC l ∧ l.length = rows.length ∧ ∀ e ∈ l, e.ok := by
  induction rows with
  | nil => intro _; exact ⟨[], rfl, rfl, fun e he => by cases he⟩
  | cons r rows ih =>
    intro h
    obtain ⟨l, h1, h2, h3⟩ := ih fun r hr => h r (by simp [hr])
    obtain ⟨x0, x1, rfl, q0, q1⟩ := leaves2 (h r (by simp))
    obtain ⟨a, rfl, ha⟩ := leaf_u8 q0
    obtain ⟨s, rfl, hs⟩ := leaf_str q1
    obtain ⟨a, rfl⟩ := Int.eq_ofNat_of_zero_le ha.1
    obtain ⟨s, rfl⟩ : ∃ l, s = txt l := ⟨s.data.toList, rfl⟩
    refine ⟨⟨a, s⟩ :: l, by rw [List.flatten_cons, h1]; rfl, by simp [h2], fun e he => ?_⟩
    rcases List.mem_cons.1 he with rfl | he
    · have hs' : s.length ≤ maxLen := hs
      have h63 : maxLen ≤ 9223372036854775807 := by decide
      exact ⟨by show a < _; omega, by show s.length ≤ _; omega⟩
    · exact h3 e he

def fewL (l : List Act) : Bool := decide (∀ e ∈ l.take 110, e.s.length ≤ 100) && decide (l.length ≤ 100)
theorem few_of {l : List Act} (h : fewL l = true) : l.length ≤ 100 ∧ ∀ e ∈ l, e.s.length ≤ 100 := by
  simp only [fewL, Bool.and_eq_true, decide_eq_true_eq] at h
  refine ⟨h.2, fun e he => h.1 e ?_⟩
  rw [List.take_of_length_le (by omega)]
  exact he

section
variable {h : Hp} {K : Value → Hp → Prop} {p d o : Nat} {L : List ByteArray}
theorem few_call {l : List Act} {v : Value} (hok : ∀ e ∈ l, e.ok) (hl : l.length < 9223372036854775808) (hv : Sl h 2 l.length (actsC l) v) (hK : K (.bool (fewL l)) h) : ACall prog 8 [v] h K := by
  refine acallF_of tb0 func8 rfl rfl mixed (by kernel_rfl) fun hwf => ?_
  obtain ⟨va, vc, rfl⟩ := hv.slice
  obtain ⟨n, hn⟩ : ∃ n, n = l.length := ⟨_, rfl⟩
  simp -dsimp (disch := omega) [← hn]
  refine awp_loop (fun t h' => h' = h ∧ ∃ k : Nat, k ≤ n ∧ k ≤ 110 ∧ t 0 = .slice va n vc ∧ t 3 = .int .i64 k ∧ ∀ e ∈ l.take k, e.s.length ≤ 100) (fun t _ => n - ivN (t 3)) ?_ ?_
  · simp -dsimp (disch := omega) [hn]
    exact ⟨0, by omega, by omega, rfl, by simp⟩
  · rintro t h' ⟨rfl, k, hk, hk7, g0, g3, hall⟩
    refine vcF_sound mixed (tb := tb0) _ (by kernel_rfl) ?_
    by_cases hc1 : k < n
    · rcases Nat.lt_or_ge k 110 with hc2 | hc2
      · have hkl : k < l.length := hn ▸ hc1
        obtain ⟨e, hx⟩ : ∃ e, l[k]? = some e := ⟨l[k], List.getElem?_eq_getElem hkl⟩
        obtain ⟨a', c, b', q1, f1, s1, x1, y1⟩ := sl_el (f := actC) (n := 2) actC_len hv hx
        cases q1
        have y4 := y1 1 (by omega)
        have y4' : b'.cells[a'.off + k * 2 + 1]? = some (.string (txt e.s)) := y4
        have hc2' : (k : Int) < 110 := by omega
        obtain ⟨m, hm⟩ : ∃ m, m = (txt e.s).size := ⟨_, rfl⟩
        have hm2 : m = e.s.length := by rw [hm]; rfl
        have hm3 : m < 9223372036854775808 := by rw [hm2]; have := (hok e (List.mem_of_getElem? hx)).2; omega
        clear y4 y1 x1
        rcases Nat.lt_or_ge 100 m with h100 | h100
        · have hfw : fewL l = false := by
            unfold fewL
            rw [decide_eq_false, Bool.false_and]
            intro hh
            have := hh e (List.mem_iff_getElem?.2 ⟨k, by rw [List.getElem?_take, if_pos hc2, hx]⟩)
            omega
          rw [hfw] at hK
          have h100' : (100 : Int) < m := by omega
          simp -dsimp (disch := omega) [g0, g3, hc1, hc2, hc2', f1, y4', ← hm, h100, h100', -getElem?_pos]
          exact RetF.same hwf (by simp) (Nat.zero_le _) (fun _ _ => rfl) hK
        · have h100' : ¬ (100 : Int) < m := by omega
          have h100 : ¬ 100 < m := by omega
          simp -dsimp (disch := omega) [g0, g3, hc1, hc2, hc2', f1, y4', ← hm, h100, h100', -getElem?_pos]
          refine ⟨⟨k + 1, by omega, by omega, by simp, fun e' he => ?_⟩, by simp [ivN]; omega⟩
          rw [List.take_add_one, hx] at he
          rcases List.mem_append.1 he with he | he
          · exact hall e' he
          · obtain rfl : e' = e := by simpa using he
            omega
      · have h110 : k = 110 := by omega
        have hc2 : ¬ k < 110 := by omega
        have hc3 : ¬ (k : Int) < 110 := by omega
        have hfw : fewL l = false := by
          unfold fewL
          rw [decide_eq_false (show ¬ l.length ≤ 100 by omega), Bool.and_false]
        have h60 : ¬ (n : Int) ≤ 100 := by omega
        have h60' : ¬ n ≤ 100 := by omega
        rw [hfw] at hK
        simp -dsimp (disch := omega) [g0, g3, hc1, hc2, hc3, h60, h60']
        exact RetF.same hwf (by simp) (Nat.zero_le _) (fun _ _ => rfl) hK
    · have hkn : k = n := by omega
      subst hkn
      have hfw : fewL l = decide (k ≤ 100) := by
        unfold fewL
        rw [← hn, decide_eq_true, Bool.true_and]
        intro e he
        exact hall e (by rw [hn, List.take_length]; exact List.mem_of_mem_take he)
      rw [hfw] at hK
      simp -dsimp (disch := omega) [g0, g3, hc1]
      refine RetF.same (r := .bool (decide ((k : Int) ≤ 100))) hwf (by simp) (Nat.zero_le _) (fun _ _ => rfl) ?_
      rw [show decide ((k : Int) ≤ 100) = decide (k ≤ 100) from by rw [decide_eq_decide]; omega]
      exact hK


theorem recvs_call {s : ByteArray} (q : Que h p (s :: L) d o) (hK : ∀ b', Que (h.set p b') p L d o → K (.bool true) (h.set p b')) : ACall prog 23 [ptr p, .string s, .int .u8 0] h K := by
  refine acallF_of tb0 func23 rfl rfl mixed (by kernel_rfl) fun hwf => ?_
  simp -dsimp (disch := omega)
  refine recvQ q fun b' q' => ?_
  simp -dsimp (disch := omega)
  exact RetF.all (by simp) (hK b' q')
theorem recvs0_call (q : Que h p [] d o) (hK : K (.bool true) h) : ACall prog 23 [ptr p, .string (txt []), .int .u8 4] h K := by
  refine acallF_of tb0 func23 rfl rfl mixed (by kernel_rfl) fun hwf => ?_
  simp -dsimp (disch := omega)
  refine recv0Q q ?_
  simp -dsimp (disch := omega)
  exact RetF.all (by simp) hK
theorem awake_call (hK : K (.bool true) h) : ACall prog 9 [] h K := by
  refine acallF_of tb0 func9 rfl rfl mixed (by kernel_rfl) fun hwf => ?_
  simp -dsimp (disch := omega)
  refine newQ (a := 2) (b := 3) (by omega) (by omega) (fun _ b1 q1 => ?_) (fun hn => by cases hn)
  simp -dsimp (disch := omega)
  refine sendQ q1 (by decide) (fun hc => absurd hc (by decide)) (fun _ hc => absurd hc (by decide)) (fun _ _ b2 q2 => ?_)
  simp -dsimp (disch := omega)
  refine sendQ (q2.mono (by simp)) (by decide) (fun hc => absurd hc (by decide)) (fun _ hc => absurd hc (by decide)) (fun _ _ b3 q3 => ?_)
  simp -dsimp (disch := omega)
  refine sendQ (q3.mono (by simp)) (by decide) (fun hc => absurd hc (by decide)) (fun _ _ => ?_) (fun _ hc => absurd hc (by decide))
  simp -dsimp (disch := omega)
  refine sendQ (q3.mono (by simp)) (by decide) (fun _ => ?_) (fun hc => absurd hc (by decide)) (fun hc => absurd hc (by decide))
  simp -dsimp (disch := omega)
  refine dumpQ (q3.mono (by simp)) ?_
  have e1 : dumpOf (([] ++ [txt [97, 98]]) ++ [txt []]) = [2, 2, 97, 98, 0] := by kernel_rfl
  rw [e1]
  simp -dsimp (disch := omega)
  refine recvs_call (s := txt [97, 98]) (L := [txt []]) (q3.mono (by simp)) fun b4 q4 => ?_
  simp -dsimp (disch := omega)
  refine waitingQ (q4.mono (by simp)) ?_
  simp -dsimp (disch := omega)
  exact RetF.same hwf (by simp) (Nat.zero_le _) (fun i hi => by simp (disch := omega)) hK
end
end Go.Proofs.Ytggohjlfhomafaa
