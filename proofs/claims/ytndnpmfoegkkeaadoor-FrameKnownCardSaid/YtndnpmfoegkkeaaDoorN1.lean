/-
  Windows; Check, both.
-/
import Derived.Test.YtndnpmfoegkkeaaDoorF
import Derived.Test.YtndnpmfoegkkeaaDoorM27
import Derived.Test.YtndnpmfoegkkeaaDoorM19
set_option linter.unusedSimpArgs false
set_option linter.unusedVariables false
set_option linter.unusedSectionVars false
namespace Go.Proofs.YtndnpmfoegkkeaaDoor
open Go Go.Mini Go.Proofs.Tryd
set_option maxRecDepth 100000

def tb0 : Nat → Marks := fun _ => ⟨[], fun _ => True⟩
@[simp] theorem tb0_l (k : Nat) : (tb0 k).l = [] := id rfl
abbrev ptr (p : Nat) : Value := .pointer (some ⟨p, 0, none⟩)

structure Win where
  g : Nat
  s : Nat
def Win.ok (w : Win) : Prop := w.g < 256 ∧ w.s < 65536
def winC (w : Win) : List Value := [.int .u8 w.g, .int .u16 w.s]
def winsC (l : List Win) : List Value := l.flatMap winC
theorem winC_len (w : Win) : (winC w).length = 2 := rfl
theorem flat_at {α : Type} {f : α → List Value} {n : Nat} (hf : ∀ x, (f x).length = n) (l : List α) : ∀ (k : Nat) (e : α), l[k]? = some e → ∀ j, j < n → (l.flatMap f)[k * n + j]? = (f e)[j]? := by
  induction l with
  | nil => intro k e h; simp at h
  | cons x l ih =>
    intro k e h j hj
    have hx := hf x
    cases k with
    | zero =>
      simp only [List.getElem?_cons_zero, Option.some.injEq] at h
      subst h
      rw [List.flatMap_cons, Nat.zero_mul, Nat.zero_add, List.getElem?_append_left (by omega)]
    | succ k =>
      have := ih k e (by simpa using h) j hj
      rw [List.flatMap_cons, List.getElem?_append_right (by rw [hx, Nat.succ_mul]; omega), hx, Nat.succ_mul, show k * n + n + j - n = k * n + j from by omega, this]
theorem sl_el {α : Type} {f : α → List Value} {n : Nat} {h : Hp} {l : List α} {v : Value} {k : Nat} {e : α} (hf : ∀ x, (f x).length = n) (hv : Sl h n l.length (l.flatMap f) v) (hk : l[k]? = some e) :
    ∃ a c b, v = .slice (some a) l.length c ∧ h.blks a.block = some b ∧ a.off + k * n + n ≤ b.cells.size ∧ b.cells.extract (a.off + k * n) (a.off + k * n + n) = (f e).toArray ∧ ∀ j, j < n → b.cells[a.off + k * n + j]? = (f e)[j]? := by
  have hlt : k < l.length := (List.getElem?_eq_some_iff.1 hk).1
  obtain ⟨h0, ⟨_, _, _, h1⟩ | ⟨a, c, b, rfl, h2, h3, h4⟩⟩ := hv
  · omega
  · have hm : k * n + n ≤ l.length * n := by rw [← Nat.succ_mul]; exact Nat.mul_le_mul_right n hlt
    have hat : ∀ j, j < n → b.cells[a.off + k * n + j]? = (f e)[j]? := fun j hj => by
      have := h4 (k * n + j) (by omega)
      rw [← Nat.add_assoc] at this
      rw [this]
      exact flat_at hf l k e hk j hj
    refine ⟨a, c, b, rfl, h2, by omega, ?_, hat⟩
    apply Array.ext_getElem?
    intro i
    rw [Array.getElem?_extract]
    by_cases hi : i < n
    · rw [if_pos (by omega), hat i hi]; simp
    · rw [if_neg (by omega)]
      symm
      simp [hf]
      omega

/-! ### Check, by definition -/
/-- The windows in order: the first that is wrong. -/
def runW (gs : Nat) : List Win → Nat → Nat
  | [], _ => 0
  | w :: l, all => if w.g ≠ 255 ∧ gs ≤ w.g then 6 else if w.s = 0 then 2 else if 1024 < all + w.s then 5 else runW gs l (all + w.s)
def there (l : List Win) (g : Nat) : Bool := l.any fun w => decide (w.g = g)
def checkW (l : List Win) (gs : Int) : Nat :=
  if gs < 1 ∨ 16 < gs then 2 else if l.length = 0 then 11 else if 32 < l.length then 5 else
    if runW gs.toNat l 0 ≠ 0 then runW gs.toNat l 0 else if (List.range gs.toNat).all (there l) then 0 else 11
theorem runW_step {gs : Nat} {l : List Win} {k all : Nat} {w : Win} (hx : l[k]? = some w) : runW gs (l.drop k) all = if w.g ≠ 255 ∧ gs ≤ w.g then 6 else if w.s = 0 then 2 else if 1024 < all + w.s then 5 else runW gs (l.drop (k + 1)) (all + w.s) := by
  obtain ⟨h1, h2⟩ := List.getElem?_eq_some_iff.1 hx
  rw [List.drop_eq_getElem_cons h1, h2]
  rfl

/-- What guests are there so far. -/
def hasC (m : Nat → Bool) : Array Value := #[.bool (m 0), .bool (m 1), .bool (m 2), .bool (m 3), .bool (m 4), .bool (m 5), .bool (m 6), .bool (m 7), .bool (m 8), .bool (m 9), .bool (m 10), .bool (m 11), .bool (m 12), .bool (m 13), .bool (m 14), .bool (m 15)]
@[simp] theorem hasC_size (m : Nat → Bool) : (hasC m).size = 16 := id rfl
theorem hasC_at (m : Nat → Bool) : ∀ k, k < 16 → (hasC m)[k]? = some (.bool (m k)) := by
  intro k hk
  have e : k = 0 ∨ k = 1 ∨ k = 2 ∨ k = 3 ∨ k = 4 ∨ k = 5 ∨ k = 6 ∨ k = 7 ∨ k = 8 ∨ k = 9 ∨ k = 10 ∨ k = 11 ∨ k = 12 ∨ k = 13 ∨ k = 14 ∨ k = 15 := by omega
  rcases e with rfl | rfl | rfl | rfl | rfl | rfl | rfl | rfl | rfl | rfl | rfl | rfl | rfl | rfl | rfl | rfl <;> rfl
theorem hasC_set (m m' : Nat → Bool) : ∀ k, k < 16 → (∀ i, m' i = (decide (i = k) || m i)) → (hasC m).setIfInBounds k (.bool true) = hasC m' := by
  intro k hk h
  have e : k = 0 ∨ k = 1 ∨ k = 2 ∨ k = 3 ∨ k = 4 ∨ k = 5 ∨ k = 6 ∨ k = 7 ∨ k = 8 ∨ k = 9 ∨ k = 10 ∨ k = 11 ∨ k = 12 ∨ k = 13 ∨ k = 14 ∨ k = 15 := by omega
  unfold hasC
  simp only [h]
  rcases e with rfl | rfl | rfl | rfl | rfl | rfl | rfl | rfl | rfl | rfl | rfl | rfl | rfl | rfl | rfl | rfl <;> rfl
theorem hasC_congr {m m' : Nat → Bool} (h : ∀ i, i < 16 → m i = m' i) : hasC m = hasC m' := by
  unfold hasC
  rw [h 0 (by omega), h 1 (by omega), h 2 (by omega), h 3 (by omega), h 4 (by omega), h 5 (by omega), h 6 (by omega), h 7 (by omega), h 8 (by omega), h 9 (by omega), h 10 (by omega), h 11 (by omega), h 12 (by omega), h 13 (by omega), h 14 (by omega), h 15 (by omega)]
theorem there_take {l : List Win} {k : Nat} {w : Win} (hx : l[k]? = some w) (i : Nat) : there (l.take (k + 1)) i = (decide (i = w.g) || there (l.take k) i) := by
  have e : l.take (k + 1) = l.take k ++ [w] := by rw [List.take_add_one, hx]; rfl
  unfold there
  rw [e, List.any_append, Bool.or_comm]
  simp [eq_comm]

section
variable {h : Hp} {K : Value → Hp → Prop}
set_option maxHeartbeats 1000000 in
theorem check_call {l : List Win} {v : Value} {gs : Int} (hok : ∀ w ∈ l, w.ok) (hv : Sl h 2 l.length (winsC l) v) (hl : l.length < 9223372036854775808) (hK : K (.int .i64 (checkW l gs)) h) : ACall prog 22 [v, .int .i64 gs] h K := by
  refine acallF_of tb0 func22 rfl rfl mixed (by kernel_rfl) fun hwf => ?_
  have hvb := sblk_lt (hwf.args v (by simp))
  obtain ⟨va, vc, rfl⟩ := hv.slice
  unfold checkW at hK
  by_cases c1 : gs < 1
  · rw [if_pos (.inl c1)] at hK
    simp -dsimp (disch := omega) [c1]
    exact RetF.same hwf (by simp) (Nat.zero_le _) (fun _ _ => rfl) hK
  by_cases c2 : 16 < gs
  · rw [if_pos (.inr c2)] at hK
    simp -dsimp (disch := omega) [c1, c2]
    exact RetF.same hwf (by simp) (Nat.zero_le _) (fun _ _ => rfl) hK
  rw [if_neg (by omega)] at hK
  obtain ⟨G, rfl⟩ : ∃ G : Nat, gs = G := ⟨gs.toNat, by omega⟩
  rw [Int.toNat_natCast] at hK
  obtain ⟨n, hn⟩ : ∃ n, n = l.length := ⟨_, rfl⟩
  rw [← hn] at hK
  by_cases c3 : n = 0
  · rw [if_pos c3] at hK
    simp -dsimp (disch := omega) [c1, c2, ← hn, c3]
    exact RetF.same hwf (by simp) (Nat.zero_le _) (fun _ _ => rfl) hK
  rw [if_neg c3] at hK
  by_cases c4 : 32 < n
  · have c4' : (32 : Int) < n := by omega
    rw [if_pos c4] at hK
    simp -dsimp (disch := omega) [c1, c2, ← hn, c3, c4, c4']
    exact RetF.same hwf (by simp) (Nat.zero_le _) (fun _ _ => rfl) hK
  rw [if_neg c4] at hK
  have c4' : ¬ (32 : Int) < n := by omega
  simp -dsimp (disch := omega) [c1, c2, ← hn, c3, c4, c4']
  refine awp_loop (fun t h' => h.next < h'.next ∧ (∀ i, i < h.next → h'.blks i = h.blks i) ∧ ∃ (k all : Nat), k ≤ n ∧ t 1 = .int .i64 G ∧ t 5 = .int .i64 all ∧ t 6 = ptr h.next ∧ t 26 = .slice va n vc ∧ t 27 = .int .i64 n ∧ t 28 = .int .i64 k ∧ h'.blks h.next = some ⟨hasC (there (l.take k)), 1, true⟩ ∧ all ≤ 1024 ∧ runW G l 0 = runW G (l.drop k) all) (fun t _ => n - ivN (t 28)) ?_ ?_
  · simp -dsimp (disch := omega)
    exact ⟨fun i hi he => absurd he (by omega), 0, by omega, 0, rfl, rfl, by simp [hasC, there], by omega, rfl⟩
  · rintro t h' ⟨hn1, hs, k, all, hk, g1, g5, g6, g26, g27, g28, hhas, hall, hrun⟩
    refine vcF_sound mixed (tb := tb0) _ (by kernel_rfl) ?_
    simp -dsimp (disch := omega) [g26, g27, g28]
    refine CondF_dec (fun hc => ?_) (fun hc => ?_)
    · have hkl : k < l.length := by omega
      obtain ⟨w, hx⟩ : ∃ w, l[k]? = some w := ⟨l[k], List.getElem?_eq_getElem hkl⟩
      obtain ⟨a', c, b', q2, fa, s1, x1, y1⟩ := sl_el (f := winC) (n := 2) winC_len hv hx
      cases q2
      have hab : a'.block < h.next := hvb _ rfl
      rw [← hs _ hab] at fa
      have wo := hok w (List.mem_of_getElem? hx)
      have hth := there_take hx
      rw [runW_step hx] at hrun
      have x1' : b'.cells.extract (a'.off + k * 2) (a'.off + k * 2 + 2) = #[.int .u8 w.g, .int .u16 w.s] := x1
      clear x1 y1
      obtain ⟨g, s⟩ := w
      obtain ⟨wo1, wo2⟩ := wo
      simp only at x1' hrun hth wo1 wo2
      by_cases d1 : g = 255
      · rw [if_neg (by omega)] at hrun
        by_cases d3 : s = 0
        · rw [if_pos d3] at hrun
          rw [hrun] at hK
          simp -dsimp (disch := omega) [g1, g26, g28, fa, s1, x1', d1, d3]
          exact RetF.same hwf (by simp) (Nat.zero_le _) (fun i hi => by simp (disch := omega) [hs i hi]) hK
        · rw [if_neg d3] at hrun
          by_cases d4 : 1024 < all + s
          · rw [if_pos d4] at hrun
            rw [hrun] at hK
            have d4' : (1024 : Int) < (all : Int) + s := by omega
            simp -dsimp (disch := omega) [g1, g5, g26, g28, fa, s1, x1', d1, d3, d4']
            exact RetF.same hwf (by simp) (Nat.zero_le _) (fun i hi => by simp (disch := omega) [hs i hi]) hK
          · rw [if_neg d4] at hrun
            have d4' : ¬ (1024 : Int) < (all : Int) + s := by omega
            simp -dsimp (disch := omega) [g1, g5, g6, g26, g27, g28, fa, s1, x1', d1, d3, d4']
            refine ⟨⟨by omega, fun i hi => by rw [if_neg (by omega)]; exact hs i hi, k + 1, by omega, all + s, by simp, by simp, ?_, by omega, hrun⟩, by simp [ivN]; omega⟩
            rw [hhas, hasC_congr (m := there (l.take k)) (m' := there (l.take (k + 1))) fun i hi => by rw [hth, decide_eq_false (by omega), Bool.false_or]]
      · by_cases d2 : G ≤ g
        · rw [if_pos ⟨d1, d2⟩] at hrun
          rw [hrun] at hK
          have d2' : (G : Int) ≤ g := by omega
          have d1' : ¬ (g : Int) = 255 := by omega
          simp -dsimp (disch := omega) [g1, g26, g28, fa, s1, x1', d1, d1', d2, d2']
          exact RetF.same hwf (by simp) (Nat.zero_le _) (fun i hi => by simp (disch := omega) [hs i hi]) hK
        · rw [if_neg (by omega)] at hrun
          have d1' : ¬ (g : Int) = 255 := by omega
          have d2' : ¬ (G : Int) ≤ g := by omega
          by_cases d3 : s = 0
          · rw [if_pos d3] at hrun
            rw [hrun] at hK
            simp -dsimp (disch := omega) [g1, g26, g28, fa, s1, x1', d1, d1', d2, d2', d3]
            exact RetF.same hwf (by simp) (Nat.zero_le _) (fun i hi => by simp (disch := omega) [hs i hi]) hK
          · rw [if_neg d3] at hrun
            by_cases d4 : 1024 < all + s
            · rw [if_pos d4] at hrun
              rw [hrun] at hK
              have d4' : (1024 : Int) < (all : Int) + s := by omega
              simp -dsimp (disch := omega) [g1, g5, g26, g28, fa, s1, x1', d1, d1', d2, d2', d3, d4']
              exact RetF.same hwf (by simp) (Nat.zero_le _) (fun i hi => by simp (disch := omega) [hs i hi]) hK
            · rw [if_neg d4] at hrun
              have d4' : ¬ (1024 : Int) < (all : Int) + s := by omega
              have hst := hasC_set (there (l.take k)) (there (l.take (k + 1))) g (by omega) hth
              simp -dsimp (disch := omega) [g1, g5, g6, g26, g27, g28, fa, s1, x1', d1, d1', d2, d2', d3, d4', hhas, hst]
              exact ⟨⟨by omega, fun i hi => by rw [if_neg (by omega), if_neg (by omega)]; exact hs i hi, k + 1, by omega, all + s, by simp, by simp, rfl, by omega, hrun⟩, by simp [ivN]; omega⟩
    · have hkn : k = n := by omega
      rw [hkn] at hrun hhas
      rw [hn, List.take_length] at hhas
      rw [hn, List.drop_length] at hrun
      have hrun : runW G l 0 = 0 := hrun
      rw [hrun, if_neg (by omega)] at hK
      have hsl : asliceRow ⟨h.next, 0, none⟩ 1 16 32 none (some (.int .i64 G)) none = some (.slice (some ⟨h.next, 0, none⟩) G 32) := by
        have b1 : bndD (some (.int .i64 G)) 16 16 = some G := by simp [bndD, bnd]; omega
        unfold asliceRow
        simp only [show (32 : Nat) / 2 = 16 from rfl, b1]
        rfl
      simp -dsimp (disch := omega) [g1, g6, g26, g27, g28, hhas, hsl]
      refine awp_loop (fun t h2 => h2 = h' ∧ ∃ k : Nat, k ≤ G ∧ t 62 = .slice (some ⟨h.next, 0, none⟩) G 32 ∧ t 63 = .int .i64 G ∧ t 64 = .int .i64 k ∧ ∀ i, i < k → there l i = true) (fun t _ => G - ivN (t 64)) ?_ ?_
      · simp -dsimp (disch := omega)
        exact ⟨0, by omega, rfl, fun i hi => by omega⟩
      · rintro t h2 ⟨rfl, k, hk, g62, g63, g64, hth⟩
        refine vcF_sound mixed (tb := tb0) _ (by kernel_rfl) ?_
        simp -dsimp (disch := omega) [g62, g63, g64]
        refine CondF_dec (fun hc => ?_) (fun hc => ?_)
        · have hat := hasC_at (there l) k (by omega)
          cases hb : there l k with
          | true =>
            rw [hb] at hat
            simp -dsimp (disch := omega) [g62, g63, g64, hhas, hat]
            exact ⟨⟨k + 1, by omega, by simp, fun i hi => by rcases Nat.lt_or_ge i k with h | h; exact hth i h; rw [show i = k by omega]; exact hb⟩, by simp [ivN]; omega⟩
          | false =>
            rw [hb] at hat
            have : (List.range G).all (there l) = false := by
              rw [List.all_eq_false]
              exact ⟨k, List.mem_range.2 (by omega), by simp [hb]⟩
            rw [this] at hK
            simp -dsimp (disch := omega) [g62, g63, g64, hhas, hat]
            exact RetF.same hwf (by simp) (Nat.zero_le _) hs hK
        · have : (List.range G).all (there l) = true := by
            rw [List.all_eq_true]
            intro i hi
            exact hth i (by have := List.mem_range.1 hi; omega)
          rw [this] at hK
          simp -dsimp (disch := omega) [g62, g63, g64]
          exact RetF.same hwf (by simp) (Nat.zero_le _) hs hK
end
end Go.Proofs.YtndnpmfoegkkeaaDoor
