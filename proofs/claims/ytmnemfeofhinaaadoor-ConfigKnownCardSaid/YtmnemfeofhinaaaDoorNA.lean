/-
  Windows; Check, both. The document's Check. New: a table. A table's length; a function over its windows. ahead, Budget, Owned, up.
-/
import Derived.Test.YtmnemfeofhinaaaDoorCA
import Derived.Test.YtmnemfeofhinaaaDoorM27
import Derived.Test.YtmnemfeofhinaaaDoorM19
set_option linter.unusedSimpArgs false
set_option linter.unusedVariables false
set_option linter.unusedSectionVars false

namespace Go.Proofs.YtmnemfeofhinaaaDoor
open Go Go.Mini Go.Proofs.Tryd
set_option maxRecDepth 100000

abbrev ptr (p : Nat) : Value := .pointer (some ⟨p, 0, none⟩)

structure Win where
  g : Nat
  s : Nat
def Win.ok (w : Win) : Prop := w.g < 256 ∧ w.s < 65536
def winC (w : Win) : List Value := [.int .u8 w.g, .int .u16 w.s]
def winsC (l : List Win) : List Value := l.flatMap winC
theorem winC_len (w : Win) : (winC w).length = 2 := rfl
theorem flat_at {α : Type} {f : α → List Value} {n : Nat} (hf : ∀ x, (f x).length = n) (l : List α) : ∀ (k : Nat) (e : α), l[k]? = some e → ∀ j, j < n → (l.flatMap f)[k * n + j]? = (f e)[j]? := by
  induction l with
  | nil => intro k e h; simp at h
  | cons x l ih =>
    intro k e h j hj
    have hx := hf x
    cases k with
    | zero =>
      simp only [List.getElem?_cons_zero, Option.some.injEq] at h
      subst h
      rw [List.flatMap_cons, Nat.zero_mul, Nat.zero_add, List.getElem?_append_left (by omega)]
    | succ k =>
      have := ih k e (by simpa using h) j hj
      rw [List.flatMap_cons, List.getElem?_append_right (by rw [hx, Nat.succ_mul]; omega), hx, Nat.succ_mul, show k * n + n + j - n = k * n + j from by omega, this]
theorem sl_el {α : Type} {f : α → List Value} {n : Nat} {h : Hp} {l : List α} {v : Value} {k : Nat} {e : α} (hf : ∀ x, (f x).length = n) (hv : Sl h n l.length (l.flatMap f) v) (hk : l[k]? = some e) :
    ∃ a c b, v = .slice (some a) l.length c ∧ h.blks a.block = some b ∧ a.off + k * n + n ≤ b.cells.size ∧ b.cells.extract (a.off + k * n) (a.off + k * n + n) = (f e).toArray ∧ ∀ j, j < n → b.cells[a.off + k * n + j]? = (f e)[j]? := by
  have hlt : k < l.length := (List.getElem?_eq_some_iff.1 hk).1
  obtain ⟨h0, ⟨_, _, _, h1⟩ | ⟨a, c, b, rfl, h2, h3, h4⟩⟩ := hv
  · omega
  · have hm : k * n + n ≤ l.length * n := by rw [← Nat.succ_mul]; exact Nat.mul_le_mul_right n hlt
    have hat : ∀ j, j < n → b.cells[a.off + k * n + j]? = (f e)[j]? := fun j hj => by
      have := h4 (k * n + j) (by omega)
      rw [← Nat.add_assoc] at this
      rw [this]
      exact flat_at hf l k e hk j hj
    refine ⟨a, c, b, rfl, h2, by omega, ?_, hat⟩
    apply Array.ext_getElem?
    intro i
    rw [Array.getElem?_extract]
    by_cases hi : i < n
    · rw [if_pos (by omega), hat i hi]; simp
    · rw [if_neg (by omega)]
      symm
      simp [hf]
      omega

/-! ### Check, by definition -/
/-- The windows in order: the first that is wrong. -/
def runW (gs : Nat) : List Win → Nat → Nat
  | [], _ => 0
  | w :: l, all => if w.g ≠ 255 ∧ gs ≤ w.g then 6 else if w.s = 0 then 2 else if 1024 < all + w.s then 5 else runW gs l (all + w.s)
def there (l : List Win) (g : Nat) : Bool := l.any fun w => decide (w.g = g)
def checkW (l : List Win) (gs : Int) : Nat :=
  if gs < 1 ∨ 16 < gs then 2 else if l.length = 0 then 11 else if 32 < l.length then 5 else
    if runW gs.toNat l 0 ≠ 0 then runW gs.toNat l 0 else if (List.range gs.toNat).all (there l) then 0 else 11
theorem runW_step {gs : Nat} {l : List Win} {k all : Nat} {w : Win} (hx : l[k]? = some w) : runW gs (l.drop k) all = if w.g ≠ 255 ∧ gs ≤ w.g then 6 else if w.s = 0 then 2 else if 1024 < all + w.s then 5 else runW gs (l.drop (k + 1)) (all + w.s) := by
  obtain ⟨h1, h2⟩ := List.getElem?_eq_some_iff.1 hx
  rw [List.drop_eq_getElem_cons h1, h2]
  rfl

/-- What guests are there so far. -/
def hasC (m : Nat → Bool) : Array Value := #[.bool (m 0), .bool (m 1), .bool (m 2), .bool (m 3), .bool (m 4), .bool (m 5), .bool (m 6), .bool (m 7), .bool (m 8), .bool (m 9), .bool (m 10), .bool (m 11), .bool (m 12), .bool (m 13), .bool (m 14), .bool (m 15)]
@[simp] theorem hasC_size (m : Nat → Bool) : (hasC m).size = 16 := id rfl
theorem hasC_at (m : Nat → Bool) : ∀ k, k < 16 → (hasC m)[k]? = some (.bool (m k)) := by
  intro k hk
  have e : k = 0 ∨ k = 1 ∨ k = 2 ∨ k = 3 ∨ k = 4 ∨ k = 5 ∨ k = 6 ∨ k = 7 ∨ k = 8 ∨ k = 9 ∨ k = 10 ∨ k = 11 ∨ k = 12 ∨ k = 13 ∨ k = 14 ∨ k = 15 := by omega
  rcases e with rfl | rfl | rfl | rfl | rfl | rfl | rfl | rfl | rfl | rfl | rfl | rfl | rfl | rfl | rfl | rfl <;> rfl
theorem hasC_set (m m' : Nat → Bool) : ∀ k, k < 16 → (∀ i, m' i = (decide (i = k) || m i)) → (hasC m).setIfInBounds k (.bool true) = hasC m' := by
  intro k hk h
  have e : k = 0 ∨ k = 1 ∨ k = 2 ∨ k = 3 ∨ k = 4 ∨ k = 5 ∨ k = 6 ∨ k = 7 ∨ k = 8 ∨ k = 9 ∨ k = 10 ∨ k = 11 ∨ k = 12 ∨ k = 13 ∨ k = 14 ∨ k = 15 := by omega
  unfold hasC
  simp only [h]
  rcases e with rfl | rfl | rfl | rfl | rfl | rfl | rfl | rfl | rfl | rfl | rfl | rfl | rfl | rfl | rfl | rfl <;> rfl
theorem hasC_congr {m m' : Nat → Bool} (h : ∀ i, i < 16 → m i = m' i) : hasC m = hasC m' := by
  unfold hasC
  rw [h 0 (by omega), h 1 (by omega), h 2 (by omega), h 3 (by omega), h 4 (by omega), h 5 (by omega), h 6 (by omega), h 7 (by omega), h 8 (by omega), h 9 (by omega), h 10 (by omega), h 11 (by omega), h 12 (by omega), h 13 (by omega), h 14 (by omega), h 15 (by omega)]
theorem there_take {l : List Win} {k : Nat} {w : Win} (hx : l[k]? = some w) (i : Nat) : there (l.take (k + 1)) i = (decide (i = w.g) || there (l.take k) i) := by
  have e : l.take (k + 1) = l.take k ++ [w] := by rw [List.take_add_one, hx]; rfl
  unfold there
  rw [e, List.any_append, Bool.or_comm]
  simp [eq_comm]

section
variable {h : Hp} {K : Value → Hp → Prop}
set_option maxHeartbeats 1000000 in
theorem check_call {l : List Win} {v : Value} {gs : Int} (hok : ∀ w ∈ l, w.ok) (hv : Sl h 2 l.length (winsC l) v) (hl : l.length < 9223372036854775808) (hK : K (.int .i64 (checkW l gs)) h) : ACall prog 57 [v, .int .i64 gs] h K := by
  refine acallF_of tb0 func57 rfl rfl mixed (by kernel_rfl) fun hwf => ?_
  have hvb := sblk_lt (hwf.args v (by simp))
  obtain ⟨va, vc, rfl⟩ := hv.slice
  unfold checkW at hK
  by_cases c1 : gs < 1
  · rw [if_pos (.inl c1)] at hK
    simp -dsimp (disch := omega) [c1]
    exact RetF.same hwf (by simp) (Nat.zero_le _) (fun _ _ => rfl) hK
  by_cases c2 : 16 < gs
  · rw [if_pos (.inr c2)] at hK
    simp -dsimp (disch := omega) [c1, c2]
    exact RetF.same hwf (by simp) (Nat.zero_le _) (fun _ _ => rfl) hK
  rw [if_neg (by omega)] at hK
  obtain ⟨G, rfl⟩ : ∃ G : Nat, gs = G := ⟨gs.toNat, by omega⟩
  rw [Int.toNat_natCast] at hK
  obtain ⟨n, hn⟩ : ∃ n, n = l.length := ⟨_, rfl⟩
  rw [← hn] at hK
  by_cases c3 : n = 0
  · rw [if_pos c3] at hK
    simp -dsimp (disch := omega) [c1, c2, ← hn, c3]
    exact RetF.same hwf (by simp) (Nat.zero_le _) (fun _ _ => rfl) hK
  rw [if_neg c3] at hK
  by_cases c4 : 32 < n
  · have c4' : (32 : Int) < n := by omega
    rw [if_pos c4] at hK
    simp -dsimp (disch := omega) [c1, c2, ← hn, c3, c4, c4']
    exact RetF.same hwf (by simp) (Nat.zero_le _) (fun _ _ => rfl) hK
  rw [if_neg c4] at hK
  have c4' : ¬ (32 : Int) < n := by omega
  simp -dsimp (disch := omega) [c1, c2, ← hn, c3, c4, c4']
  refine awp_loop (fun t h' => h.next < h'.next ∧ (∀ i, i < h.next → h'.blks i = h.blks i) ∧ ∃ (k all : Nat), k ≤ n ∧ t 1 = .int .i64 G ∧ t 5 = .int .i64 all ∧ t 6 = ptr h.next ∧ t 26 = .slice va n vc ∧ t 27 = .int .i64 n ∧ t 28 = .int .i64 k ∧ h'.blks h.next = some ⟨hasC (there (l.take k)), 1, true⟩ ∧ all ≤ 1024 ∧ runW G l 0 = runW G (l.drop k) all) (fun t _ => n - ivN (t 28)) ?_ ?_
  · simp -dsimp (disch := omega)
    exact ⟨fun i hi he => absurd he (by omega), 0, by omega, 0, rfl, rfl, by simp [hasC, there], by omega, rfl⟩
  · rintro t h' ⟨hn1, hs, k, all, hk, g1, g5, g6, g26, g27, g28, hhas, hall, hrun⟩
    refine vcF_sound mixed (tb := tb0) _ (by kernel_rfl) ?_
    simp -dsimp (disch := omega) [g26, g27, g28]
    refine CondF_dec (fun hc => ?_) (fun hc => ?_)
    · have hkl : k < l.length := by omega
      obtain ⟨w, hx⟩ : ∃ w, l[k]? = some w := ⟨l[k], List.getElem?_eq_getElem hkl⟩
      obtain ⟨a', c, b', q2, fa, s1, x1, y1⟩ := sl_el (f := winC) (n := 2) winC_len hv hx
      cases q2
      have hab : a'.block < h.next := hvb _ rfl
      rw [← hs _ hab] at fa
      have wo := hok w (List.mem_of_getElem? hx)
      have hth := there_take hx
      rw [runW_step hx] at hrun
      have x1' : b'.cells.extract (a'.off + k * 2) (a'.off + k * 2 + 2) = #[.int .u8 w.g, .int .u16 w.s] := x1
      clear x1 y1
      obtain ⟨g, s⟩ := w
      obtain ⟨wo1, wo2⟩ := wo
      simp only at x1' hrun hth wo1 wo2
      by_cases d1 : g = 255
      · rw [if_neg (by omega)] at hrun
        by_cases d3 : s = 0
        · rw [if_pos d3] at hrun
          rw [hrun] at hK
          simp -dsimp (disch := omega) [g1, g26, g28, fa, s1, x1', d1, d3]
          exact RetF.same hwf (by simp) (Nat.zero_le _) (fun i hi => by simp (disch := omega) [hs i hi]) hK
        · rw [if_neg d3] at hrun
          by_cases d4 : 1024 < all + s
          · rw [if_pos d4] at hrun
            rw [hrun] at hK
            have d4' : (1024 : Int) < (all : Int) + s := by omega
            simp -dsimp (disch := omega) [g1, g5, g26, g28, fa, s1, x1', d1, d3, d4']
            exact RetF.same hwf (by simp) (Nat.zero_le _) (fun i hi => by simp (disch := omega) [hs i hi]) hK
          · rw [if_neg d4] at hrun
            have d4' : ¬ (1024 : Int) < (all : Int) + s := by omega
            simp -dsimp (disch := omega) [g1, g5, g6, g26, g27, g28, fa, s1, x1', d1, d3, d4']
            refine ⟨⟨by omega, fun i hi => by rw [if_neg (by omega)]; exact hs i hi, k + 1, by omega, all + s, by simp, by simp, ?_, by omega, hrun⟩, by simp [ivN]; omega⟩
            rw [hhas, hasC_congr (m := there (l.take k)) (m' := there (l.take (k + 1))) fun i hi => by rw [hth, decide_eq_false (by omega), Bool.false_or]]
      · by_cases d2 : G ≤ g
        · rw [if_pos ⟨d1, d2⟩] at hrun
          rw [hrun] at hK
          have d2' : (G : Int) ≤ g := by omega
          have d1' : ¬ (g : Int) = 255 := by omega
          simp -dsimp (disch := omega) [g1, g26, g28, fa, s1, x1', d1, d1', d2, d2']
          exact RetF.same hwf (by simp) (Nat.zero_le _) (fun i hi => by simp (disch := omega) [hs i hi]) hK
        · rw [if_neg (by omega)] at hrun
          have d1' : ¬ (g : Int) = 255 := by omega
          have d2' : ¬ (G : Int) ≤ g := by omega
          by_cases d3 : s = 0
          · rw [if_pos d3] at hrun
            rw [hrun] at hK
            simp -dsimp (disch := omega) [g1, g26, g28, fa, s1, x1', d1, d1', d2, d2', d3]
            exact RetF.same hwf (by simp) (Nat.zero_le _) (fun i hi => by simp (disch := omega) [hs i hi]) hK
          · rw [if_neg d3] at hrun
            by_cases d4 : 1024 < all + s
            · rw [if_pos d4] at hrun
              rw [hrun] at hK
              have d4' : (1024 : Int) < (all : Int) + s := by omega
              simp -dsimp (disch := omega) [g1, g5, g26, g28, fa, s1, x1', d1, d1', d2, d2', d3, d4']
              exact RetF.same hwf (by simp) (Nat.zero_le _) (fun i hi => by simp (disch := omega) [hs i hi]) hK
            · rw [if_neg d4] at hrun
              have d4' : ¬ (1024 : Int) < (all : Int) + s := by omega
              have hst := hasC_set (there (l.take k)) (there (l.take (k + 1))) g (by omega) hth
              simp -dsimp (disch := omega) [g1, g5, g6, g26, g27, g28, fa, s1, x1', d1, d1', d2, d2', d3, d4', hhas, hst]
              exact ⟨⟨by omega, fun i hi => by rw [if_neg (by omega), if_neg (by omega)]; exact hs i hi, k + 1, by omega, all + s, by simp, by simp, rfl, by omega, hrun⟩, by simp [ivN]; omega⟩
    · have hkn : k = n := by omega
      rw [hkn] at hrun hhas
      rw [hn, List.take_length] at hhas
      rw [hn, List.drop_length] at hrun
      have hrun : runW G l 0 = 0 := hrun
      rw [hrun, if_neg (by omega)] at hK
      have hsl : asliceRow ⟨h.next, 0, none⟩ 1 16 32 none (some (.int .i64 G)) none = some (.slice (some ⟨h.next, 0, none⟩) G 32) := by
        have b1 : bndD (some (.int .i64 G)) 16 16 = some G := by simp [bndD, bnd]; omega
        unfold asliceRow
        simp only [show (32 : Nat) / 2 = 16 from rfl, b1]
        rfl
      simp -dsimp (disch := omega) [g1, g6, g26, g27, g28, hhas, hsl]
      refine awp_loop (fun t h2 => h2 = h' ∧ ∃ k : Nat, k ≤ G ∧ t 62 = .slice (some ⟨h.next, 0, none⟩) G 32 ∧ t 63 = .int .i64 G ∧ t 64 = .int .i64 k ∧ ∀ i, i < k → there l i = true) (fun t _ => G - ivN (t 64)) ?_ ?_
      · simp -dsimp (disch := omega)
        exact ⟨0, by omega, rfl, fun i hi => by omega⟩
      · rintro t h2 ⟨rfl, k, hk, g62, g63, g64, hth⟩
        refine vcF_sound mixed (tb := tb0) _ (by kernel_rfl) ?_
        simp -dsimp (disch := omega) [g62, g63, g64]
        refine CondF_dec (fun hc => ?_) (fun hc => ?_)
        · have hat := hasC_at (there l) k (by omega)
          cases hb : there l k with
          | true =>
            rw [hb] at hat
            simp -dsimp (disch := omega) [g62, g63, g64, hhas, hat]
            exact ⟨⟨k + 1, by omega, by simp, fun i hi => by rcases Nat.lt_or_ge i k with h | h; exact hth i h; rw [show i = k by omega]; exact hb⟩, by simp [ivN]; omega⟩
          | false =>
            rw [hb] at hat
            have : (List.range G).all (there l) = false := by
              rw [List.all_eq_false]
              exact ⟨k, List.mem_range.2 (by omega), by simp [hb]⟩
            rw [this] at hK
            simp -dsimp (disch := omega) [g62, g63, g64, hhas, hat]
            exact RetF.same hwf (by simp) (Nat.zero_le _) hs hK
        · have : (List.range G).all (there l) = true := by
            rw [List.all_eq_true]
            intro i hi
            exact hth i (by have := List.mem_range.1 hi; omega)
          rw [this] at hK
          simp -dsimp (disch := omega) [g62, g63, g64]
          exact RetF.same hwf (by simp) (Nat.zero_le _) hs hK
end
end Go.Proofs.YtmnemfeofhinaaaDoor
namespace Go.Proofs.YtmnemfeofhinaaaDoor
open Go Go.Mini Go.Proofs.Tryd
set_option maxRecDepth 100000

section
variable {h : Hp} {K : Value → Hp → Prop}
set_option maxHeartbeats 1000000 in
theorem refCheck_call {l : List Win} {v : Value} {gs : Int} (hok : ∀ w ∈ l, w.ok) (hv : Sl h 2 l.length (winsC l) v) (hl : l.length < 9223372036854775808) (hK : K (.int .i64 (checkW l gs)) h) : ACall prog 53 [v, .int .i64 gs] h K := by
  refine acallF_of tb0 func53 rfl rfl mixed (by kernel_rfl) fun hwf => ?_
  have hvb := sblk_lt (hwf.args v (by simp))
  obtain ⟨va, vc, rfl⟩ := hv.slice
  unfold checkW at hK
  by_cases c1 : gs < 1
  · rw [if_pos (.inl c1)] at hK
    simp -dsimp (disch := omega) [c1]
    exact RetF.same hwf (by simp) (Nat.zero_le _) (fun _ _ => rfl) hK
  by_cases c2 : 16 < gs
  · rw [if_pos (.inr c2)] at hK
    simp -dsimp (disch := omega) [c1, c2]
    exact RetF.same hwf (by simp) (Nat.zero_le _) (fun _ _ => rfl) hK
  rw [if_neg (by omega)] at hK
  obtain ⟨G, rfl⟩ : ∃ G : Nat, gs = G := ⟨gs.toNat, by omega⟩
  rw [Int.toNat_natCast] at hK
  obtain ⟨n, hn⟩ : ∃ n, n = l.length := ⟨_, rfl⟩
  rw [← hn] at hK
  by_cases c3 : n = 0
  · rw [if_pos c3] at hK
    simp -dsimp (disch := omega) [c1, c2, ← hn, c3]
    exact RetF.same hwf (by simp) (Nat.zero_le _) (fun _ _ => rfl) hK
  rw [if_neg c3] at hK
  by_cases c4 : 32 < n
  · have c4' : (32 : Int) < n := by omega
    rw [if_pos c4] at hK
    simp -dsimp (disch := omega) [c1, c2, ← hn, c3, c4, c4']
    exact RetF.same hwf (by simp) (Nat.zero_le _) (fun _ _ => rfl) hK
  rw [if_neg c4] at hK
  have c4' : ¬ (32 : Int) < n := by omega
  simp -dsimp (disch := omega) [c1, c2, ← hn, c3, c4, c4']
  refine awp_loop (fun t h' => h' = h ∧ ∃ (k all : Nat), k ≤ n ∧ t 0 = .slice va n vc ∧ t 1 = .int .i64 G ∧ t 5 = .int .i64 all ∧ t 6 = .int .i64 k ∧ all ≤ 1024 ∧ runW G l 0 = runW G (l.drop k) all) (fun t _ => n - ivN (t 6)) ?_ ?_
  · simp -dsimp (disch := omega)
    exact ⟨0, by omega, hn.symm, 0, rfl, rfl, by omega, rfl⟩
  · rintro t h' ⟨rfl, k, all, hk, g0, g1, g5, g6, hall, hrun⟩
    refine vcF_sound mixed (tb := tb0) _ (by kernel_rfl) ?_
    simp -dsimp (disch := omega) [g0, g1, g6]
    refine CondF_dec (fun hc => ?_) (fun hc => ?_)
    · have hkl : k < l.length := by omega
      obtain ⟨w, hx⟩ : ∃ w, l[k]? = some w := ⟨l[k], List.getElem?_eq_getElem hkl⟩
      obtain ⟨a', c, b', q2, fa, s1, x1, y1⟩ := sl_el (f := winC) (n := 2) winC_len hv hx
      cases q2
      have wo := hok w (List.mem_of_getElem? hx)
      rw [runW_step hx] at hrun
      have y0 : b'.cells[a'.off + k * 2]? = some (.int .u8 w.g) := y1 0 (by omega)
      have y2 : b'.cells[a'.off + k * 2 + 1]? = some (.int .u16 w.s) := y1 1 (by omega)
      clear x1 y1
      obtain ⟨g, s⟩ := w
      obtain ⟨wo1, wo2⟩ := wo
      simp only at y0 y2 hrun wo1 wo2
      by_cases d0 : g ≠ 255 ∧ G ≤ g
      · rw [if_pos d0] at hrun
        rw [hrun] at hK
        obtain ⟨d1, d2⟩ := d0
        have d2' : (G : Int) ≤ g := by omega
        have d1' : ¬ (g : Int) = 255 := by omega
        simp -dsimp (disch := omega) [g0, g1, g6, fa, y0, y2, d1, d1', d2, d2', -getElem?_pos]
        exact RetF.same hwf (by simp) (Nat.zero_le _) (fun i hi => rfl) hK
      · rw [if_neg d0] at hrun
        by_cases d3 : s = 0
        · rw [if_pos d3] at hrun
          rw [hrun] at hK
          by_cases d1 : g = 255
          · simp -dsimp (disch := omega) [g0, g1, g6, fa, y0, y2, d1, d3, -getElem?_pos]
            exact RetF.same hwf (by simp) (Nat.zero_le _) (fun i hi => rfl) hK
          · have d2 : ¬ G ≤ g := by omega
            have d2' : ¬ (G : Int) ≤ g := by omega
            have d1' : ¬ (g : Int) = 255 := by omega
            simp -dsimp (disch := omega) [g0, g1, g6, fa, y0, y2, d1, d1', d2, d2', d3, -getElem?_pos]
            exact RetF.same hwf (by simp) (Nat.zero_le _) (fun i hi => rfl) hK
        · rw [if_neg d3] at hrun
          by_cases d4 : 1024 < all + s
          · rw [if_pos d4] at hrun
            rw [hrun] at hK
            have d4' : (1024 : Int) < (all : Int) + s := by omega
            by_cases d1 : g = 255
            · simp -dsimp (disch := omega) [g0, g1, g5, g6, fa, y0, y2, d1, d3, d4', -getElem?_pos]
              exact RetF.same hwf (by simp) (Nat.zero_le _) (fun i hi => rfl) hK
            · have d2 : ¬ G ≤ g := by omega
              have d2' : ¬ (G : Int) ≤ g := by omega
              have d1' : ¬ (g : Int) = 255 := by omega
              simp -dsimp (disch := omega) [g0, g1, g5, g6, fa, y0, y2, d1, d1', d2, d2', d3, d4', -getElem?_pos]
              exact RetF.same hwf (by simp) (Nat.zero_le _) (fun i hi => rfl) hK
          · rw [if_neg d4] at hrun
            have d4' : ¬ (1024 : Int) < (all : Int) + s := by omega
            by_cases d1 : g = 255
            · simp -dsimp (disch := omega) [g0, g1, g5, g6, fa, y0, y2, d1, d3, d4', -getElem?_pos]
              exact ⟨⟨k + 1, by omega, all + s, by simp, by simp, by omega, hrun⟩, by simp [ivN]; omega⟩
            · have d2 : ¬ G ≤ g := by omega
              have d2' : ¬ (G : Int) ≤ g := by omega
              have d1' : ¬ (g : Int) = 255 := by omega
              simp -dsimp (disch := omega) [g0, g1, g5, g6, fa, y0, y2, d1, d1', d2, d2', d3, d4', -getElem?_pos]
              exact ⟨⟨k + 1, by omega, all + s, by simp, by simp, by omega, hrun⟩, by simp [ivN]; omega⟩
    · have hkn : k = n := by omega
      rw [hkn, hn, List.drop_length] at hrun
      have hrun : runW G l 0 = 0 := hrun
      rw [hrun, if_neg (by omega)] at hK
      simp -dsimp (disch := omega) [g0, g1, g6]
      refine awp_loop (fun t h2 => h2 = h' ∧ ∃ k : Nat, k ≤ G ∧ t 0 = .slice va n vc ∧ t 1 = .int .i64 G ∧ t 7 = .int .i64 k ∧ ∀ i, i < k → there l i = true) (fun t _ => G - ivN (t 7)) ?_ ?_
      · simp -dsimp (disch := omega) [g0, g1]
        exact ⟨0, by omega, rfl, fun i hi => by omega⟩
      · rintro t h2 ⟨rfl, g, hk2, g0, g1, g7o, hth⟩
        have g7 := g7o
        refine vcF_sound mixed (tb := tb0) _ (by kernel_rfl) ?_
        simp -dsimp (disch := omega) [g0, g1, g7]
        refine CondF_dec (fun hc2 => ?_) (fun hc2 => ?_)
        · simp -dsimp (disch := omega) [g0, g1, g7]
          refine awp_loop (fun t h3 => h3 = h2 ∧ ∃ k : Nat, k ≤ n ∧ t 0 = .slice va n vc ∧ t 1 = .int .i64 G ∧ t 7 = .int .i64 g ∧ t 9 = .int .i64 k ∧ t 8 = .bool (there (l.take k) g)) (fun t _ => n - ivN (t 9)) ?_ ?_
          · simp -dsimp (disch := omega) [g0, g1, g7]
            exact ⟨0, by omega, rfl, by simp [there]⟩
          · rintro t h3 ⟨rfl, k, hk, g0, g1, g7, g9, g8⟩
            refine vcF_sound mixed (tb := tb0) _ (by kernel_rfl) ?_
            simp -dsimp (disch := omega) [g0, g9]
            refine CondF_dec (fun hc3 => ?_) (fun hc3 => ?_)
            · have hkl : k < l.length := by omega
              obtain ⟨w, hx⟩ : ∃ w, l[k]? = some w := ⟨l[k], List.getElem?_eq_getElem hkl⟩
              obtain ⟨a', c, b', q2, fa, s1, x1, y1⟩ := sl_el (f := winC) (n := 2) winC_len hv hx
              cases q2
              have wo := (hok w (List.mem_of_getElem? hx)).1
              have y0 : b'.cells[a'.off + k * 2]? = some (.int .u8 w.g) := y1 0 (by omega)
              clear x1 y1
              have ht := there_take hx g
              cases hb : there (l.take k) g with
              | true =>
                rw [hb, Bool.or_true] at ht
                rw [hb] at g8
                simp -dsimp (disch := omega) [g0, g1, g7, g8, g9]
                exact ⟨⟨k + 1, by omega, by simp, ht⟩, by simp [ivN]; omega⟩
              | false =>
                rw [hb, Bool.or_false] at ht
                rw [hb] at g8
                simp -dsimp (disch := omega) [g0, g1, g7, g8, g9, fa, y0, -getElem?_pos]
                refine ⟨⟨k + 1, by omega, by simp, ?_⟩, by simp [ivN]; omega⟩
                rw [ht, decide_eq_decide]
                omega
            · have hkn : k = n := by omega
              rw [hkn, hn, List.take_length] at g8
              cases hb : there l g with
              | true =>
                rw [hb] at g8
                simp -dsimp (disch := omega) [g0, g1, g7, g8, g9]
                exact ⟨⟨g + 1, by omega, by simp, fun i hi => by rcases Nat.lt_or_ge i g with h | h; exact hth i h; rw [show i = g by omega]; exact hb⟩, by simp [ivN, g7o]; omega⟩
              | false =>
                rw [hb] at g8
                have : (List.range G).all (there l) = false := by
                  rw [List.all_eq_false]
                  exact ⟨g, List.mem_range.2 (by omega), by simp [hb]⟩
                rw [this] at hK
                simp -dsimp (disch := omega) [g0, g1, g7, g8, g9]
                exact RetF.same hwf (by simp) (Nat.zero_le _) (fun i hi => rfl) hK
        · have : (List.range G).all (there l) = true := by
            rw [List.all_eq_true]
            intro i hi
            exact hth i (by have := List.mem_range.1 hi; omega)
          rw [this] at hK
          simp -dsimp (disch := omega) [g0, g1, g7]
          exact RetF.same hwf (by simp) (Nat.zero_le _) (fun i hi => rfl) hK
end
end Go.Proofs.YtmnemfeofhinaaaDoor
namespace Go.Proofs.YtmnemfeofhinaaaDoor
open Go Go.Mini Go.Proofs.Tryd
set_option maxRecDepth 100000

theorem row_sl {m : Nat} {h : Hp} {esz n : Nat} {cs : List Value} {v : Value} (hr : Row m h esz n cs v) : Sl h esz n cs v := by
  obtain ⟨h0, ⟨rfl, rfl⟩ | ⟨b, h1, h2, rfl, h3⟩⟩ := hr
  · exact ⟨h0, .inl ⟨_, _, rfl, rfl⟩⟩
  · exact ⟨h0, .inr ⟨_, _, _, rfl, h3, by simp [h0], fun j _ => by simp⟩⟩
/-- Appending to a full one: what comes is a row of one's own. -/
theorem app_new {h : Hp} {esz bytes b0 n m : Nat} {cs : Array Value} {x : Value} {k : Nat} {new : Array Value} {K : Value → Hp → Prop} {u : Tag K} {e0 : Nat} {ow : Bool} (hb : h.blks b0 = some ⟨cs, e0, ow⟩) (hcs : cs.size = n * esz) (hm : m ≤ h.next) (hx : srcCells h esz x = some (k, new)) (hk : 0 < k) (hsz : new.size = k * esz) (room : (n + k) * bytes ≤ ROOM ∧ n + k ≤ ROOM)
    (hK : ∀ v' h', Row m h' esz (n + k) (cs.toList ++ new.toList) v' → h'.next = h.next + 1 → sblk v' = some h.next → (∀ i, i < h.next → h'.blks i = h.blks i) → K v' h') : OptF (aappend h esz bytes (.slice (some ⟨b0, 0, none⟩) n (2 * n)) x) K u := by
  have hr0 : Mini.rowAt h ⟨b0, 0, none⟩ (n * esz) = some cs := by
    unfold Mini.rowAt
    rw [hb]
    simp only
    rw [if_pos (by rw [Nat.zero_add, hcs]; exact Nat.le_refl _)]
    simp [← hcs]
  unfold aappend
  simp only [hx]
  rw [if_neg (by omega), if_pos (by omega), hr0]
  simp only
  unfold agrown
  rw [if_pos room]
  refine hK _ _ ⟨by simp [hcs, hsz, Nat.add_mul], .inr ⟨h.next, hm, by simp, by simp, by rw [blks_alloc_eq]; simp⟩⟩ rfl rfl (fun i hi => blks_alloc_ne _ _ _ (by omega))
/-- Appending to one that is full, or that is one's own. -/
theorem app_one {h : Hp} {esz bytes b0 n m c : Nat} {cs : Array Value} {x : Value} {k : Nat} {new : Array Value} {K : Value → Hp → Prop} {u : Tag K} (hb : h.blks b0 = some ⟨cs, esz, true⟩) (hc : c = 2 * n ∨ c = 2 * n + 1) (hlt : b0 < h.next) (hcs : cs.size = n * esz) (hm : m ≤ h.next) (hx : srcCells h esz x = some (k, new)) (hk : 0 < k) (hsz : new.size = k * esz) (room : (n + k) * bytes ≤ ROOM ∧ n + k ≤ ROOM)
    (hK : ∀ v' h', Row m h' esz (n + k) (cs.toList ++ new.toList) v' → h'.next = h.next + 1 → sblk v' = some h.next → (∀ i, i < h.next → i ≠ b0 → h'.blks i = h.blks i) → K v' h') : OptF (aappend h esz bytes (.slice (some ⟨b0, 0, none⟩) n c) x) K u := by
  rcases hc with rfl | rfl
  · exact app_new hb hcs hm hx hk hsz room fun v' h' r1 r2 r3 r4 => hK v' h' r1 r2 r3 fun i hi _ => r4 i hi
  · have hr : Row 0 h esz n cs.toList (.slice (some ⟨b0, 0, none⟩) n (2 * n + 1)) := ⟨by simpa using hcs, .inr ⟨b0, Nat.zero_le _, hlt, rfl, by simpa using hb⟩⟩
    refine app_row hr (Nat.zero_le _) hx hk hsz room fun v' h' r1 r2 r3 r4 => hK v' h' ?_ r2 r3 fun i hi hn => r4 i hi (by simp [sblk]; omega)
    obtain ⟨r0, ⟨rfl, z⟩ | ⟨b, y1, y2, rfl, y3⟩⟩ := r1
    · omega
    · have : b = h.next := by simpa [sblk] using r3
      exact ⟨r0, .inr ⟨b, by omega, y2, rfl, y3⟩⟩

theorem app_w {H : Hp} {esz bytes m k n : Nat} {cs : List Value} {vl x : Value} {new : Array Value} {K : Value → Hp → Prop} {u : Tag K} (hP : (vl = .slice none 0 0 ∧ k = 0) ∨ ∃ bl, vl = .slice (some ⟨bl, 0, none⟩) k (2 * k) ∧ H.blks bl = some ⟨cs.toArray, esz, true⟩) (hcs : cs.length = k * esz) (hm : m ≤ H.next) (hx : srcCells H esz x = some (n, new)) (hn : 0 < n) (hsz : new.size = n * esz) (room : (k + n) * bytes ≤ ROOM ∧ k + n ≤ ROOM)
    (hK : ∀ v' h', Row m h' esz (k + n) (cs ++ new.toList) v' → h'.next = H.next + 1 → sblk v' = some H.next → (∀ i, i < H.next → h'.blks i = H.blks i) → K v' h') : OptF (aappend H esz bytes vl x) K u := by
  rcases hP with ⟨rfl, rfl⟩ | ⟨bl, rfl, hb⟩
  · have : cs = [] := List.length_eq_zero_iff.1 (by omega)
    subst this
    exact app_row (Row.nil m H esz) hm hx hn hsz room fun v' h' r1 r2 r3 r4 => hK v' h' r1 r2 r3 fun i hi => r4 i hi (by simp [sblk])
  · exact app_new hb (by simpa using hcs) hm hx hn hsz room fun v' h' r1 r2 r3 r4 => hK v' h' (by simpa using r1) r2 r3 r4

def sumS (l : List Win) : Nat := (l.map (·.s)).sum
def begK (l : List Win) (k : Nat) : List Value := (List.range (k + 1)).map fun i => .int .u64 (sumS (l.take i))
theorem begK_succ (l : List Win) (k : Nat) : begK l (k + 1) = begK l k ++ [.int .u64 (sumS (l.take (k + 1)))] := by
  unfold begK; rw [List.range_succ, List.map_append]; rfl
theorem begK_len (l : List Win) (k : Nat) : (begK l k).length = k + 1 := by simp [begK]
theorem begK_at (l : List Win) {k i : Nat} (h : i ≤ k) : (begK l k)[i]? = some (.int .u64 (sumS (l.take i))) := by
  unfold begK
  rw [List.getElem?_map, List.getElem?_range (by omega)]
  rfl
theorem sumS_succ {l : List Win} {k : Nat} {w : Win} (hx : l[k]? = some w) : sumS (l.take (k + 1)) = sumS (l.take k) + w.s := by
  have e : l.take (k + 1) = l.take k ++ [w] := by rw [List.take_add_one, hx]; rfl
  rw [e]; simp [sumS]
theorem winsC_succ {l : List Win} {k : Nat} {w : Win} (hx : l[k]? = some w) : winsC (l.take (k + 1)) = winsC (l.take k) ++ winC w := by
  have e : l.take (k + 1) = l.take k ++ [w] := by rw [List.take_add_one, hx]; rfl
  rw [e]; simp [winsC]
theorem winsC_len (l : List Win) : (winsC l).length = 2 * l.length := by
  induction l with
  | nil => rfl
  | cons w l ih => rw [winsC, List.flatMap_cons, List.length_append, ← winsC, ih, winC_len, List.length_cons]; omega
theorem sumS_le {l : List Win} (hok : ∀ w ∈ l, w.ok) : ∀ k, sumS (l.take k) ≤ 65536 * k := by
  intro k
  induction k with
  | zero => simp [sumS]
  | succ k ih =>
    cases hx : l[k]? with
    | none =>
      have : l.length ≤ k := List.getElem?_eq_none_iff.1 hx
      rw [List.take_of_length_le (by omega)] at ih ⊢
      omega
    | some w =>
      rw [sumS_succ hx]
      have := (hok w (List.mem_of_getElem? hx)).2
      omega

/-- A table of these windows. -/
def Tab (h : Hp) (p : Nat) (l : List Win) : Prop :=
  ∃ vl vb, h.blks p = some ⟨#[vl, vb], 1, true⟩ ∧ Sl h 2 l.length (winsC l) vl ∧ Sl h 1 (l.length + 1) (begK l l.length) vb ∧ p < h.next ∧ (∀ b, sblk vl = some b → b < h.next) ∧ (∀ b, sblk vb = some b → b < h.next)
theorem Tab.mono {h h' : Hp} {p : Nat} {l : List Win} (t : Tab h p l) (e : Ext h h') : Tab h' p l := by
  obtain ⟨vl, vb, t1, t2, t3, t4, t5, t6⟩ := t
  have := e.le
  exact ⟨vl, vb, by rw [e.same _ t4]; exact t1, t2.mono fun b hb => e.same _ (t5 b hb), t3.mono fun b hb => e.same _ (t6 b hb), by omega, fun b hb => by have := t5 b hb; omega, fun b hb => by have := t6 b hb; omega⟩
section
variable {h : Hp} {K : Value → Hp → Prop}
set_option maxHeartbeats 1000000 in
theorem new_call {l : List Win} {v : Value} {gs : Int} (hok : ∀ w ∈ l, w.ok) (hv : Sl h 2 l.length (winsC l) v) (hl : l.length < 9223372036854775808) (k0 : checkW l gs ≠ 0 → K (.tuple #[.pointer none, .int .i64 (checkW l gs)]) h)
    (k1 : checkW l gs = 0 → l.length ≤ 32 → ∀ h' p, Ext h h' → h.next ≤ p → Tab h' p l → K (.tuple #[ptr p, .int .i64 0]) h') : ACall prog 21 [v, .int .i64 gs] h K := by
  refine acallF_of tb0 func21 rfl rfl mixed (by kernel_rfl) fun hwf => ?_
  have hvb := sblk_lt (hwf.args v (by simp))
  obtain ⟨va, vc, rfl⟩ := hv.slice
  simp -dsimp (disch := omega)
  refine check_call hok hv hl ?_
  by_cases hc0 : checkW l gs = 0
  · have k1 := k1 hc0
    have hl32 : l.length ≤ 32 := by
      unfold checkW at hc0
      split at hc0
      · omega
      · split at hc0
        · omega
        · split at hc0
          · omega
          · omega
    have k1 := k1 hl32
    rw [hc0]
    obtain ⟨n, hn⟩ : ∃ n, n = l.length := ⟨_, rfl⟩
    simp -dsimp (disch := omega) [← hn]
    refine awp_loop (fun t h' => h.next + 2 ≤ h'.next ∧ (∀ i, i < h.next → h'.blks i = h.blks i) ∧ ∃ (k : Nat) (vl : Value) (bb cb : Nat), k ≤ n ∧ t 7 = ptr (h.next + 1) ∧ t 19 = .slice va n vc ∧ t 20 = .int .i64 n ∧ t 21 = .int .i64 k ∧ h'.blks (h.next + 1) = some ⟨#[vl, .slice (some ⟨bb, 0, none⟩) (k + 1) cb], 1, true⟩ ∧ Row (h.next + 2) h' 2 k (winsC (l.take k)) vl ∧
      h'.blks bb = some ⟨(begK l k).toArray, 1, true⟩ ∧ (cb = 2 * (k + 1) ∨ cb = 2 * (k + 1) + 1) ∧ bb ≠ h.next + 1 ∧ h.next ≤ bb ∧ bb < h'.next ∧ sblk vl ≠ some bb ∧ (k = 0 → vl = .slice none 0 0)) (fun t _ => n - ivN (t 21)) ?_ ?_
    · simp -dsimp (disch := omega)
      exact ⟨fun i hi => by rw [if_neg (by omega), if_neg (by omega)], 0, by omega, rfl, _, _, _, ⟨rfl, rfl, rfl, rfl⟩, Row.nil _ _ _, by rw [if_neg (by omega), if_pos rfl]; simp [begK, sumS], by omega, by omega, by omega, by omega, by simp [sblk], fun _ => rfl⟩
    · rintro t h' ⟨hn1, hs, k, vl, bb, cb, hk, g7, g19, g20, g21, hp, hrow, hbb, hcb, bb1, bb2, bb3, hvl, hv0⟩
      refine vcF_sound mixed (tb := tb0) _ (by kernel_rfl) ?_
      simp -dsimp (disch := omega) [g19, g20, g21]
      refine CondF_dec (fun hc => ?_) (fun hc => ?_)
      · have hkl : k < l.length := by omega
        obtain ⟨w, hx⟩ : ∃ w, l[k]? = some w := ⟨l[k], List.getElem?_eq_getElem hkl⟩
        obtain ⟨a', c, b', q2, fa, s1, x1, y1⟩ := sl_el (f := winC) (n := 2) winC_len hv hx
        cases q2
        have hab : a'.block < h.next := hvb _ rfl
        rw [← hs _ hab] at fa
        have wo := hok w (List.mem_of_getElem? hx)
        have hwc := winsC_succ hx
        have hbc := begK_succ l k
        have hsc := sumS_succ hx
        have hsl := sumS_le hok k
        have hba := begK_at l (Nat.le_refl k)
        have x1' : b'.cells.extract (a'.off + k * 2) (a'.off + k * 2 + 2) = #[.int .u8 w.g, .int .u16 w.s] := x1
        clear x1 y1
        have hwl := winsC_len (l.take k)
        rw [List.length_take, Nat.min_eq_left (by omega)] at hwl
        obtain ⟨vl', hsl', hP⟩ : ∃ vl', aslice prog 24 vl none (some (.int .i64 k)) (some (.int .i64 k)) = some vl' ∧ ((vl' = .slice none 0 0 ∧ k = 0) ∨ ∃ bl, vl' = .slice (some ⟨bl, 0, none⟩) k (2 * k) ∧ h'.blks bl = some ⟨(winsC (l.take k)).toArray, 2, true⟩ ∧ bl < h'.next) := by
          obtain ⟨r0, ⟨rfl, z⟩ | ⟨bl, y1, y2, rfl, y3⟩⟩ := hrow
          · subst z
            exact ⟨.slice none 0 0, by kernel_rfl, .inl ⟨rfl, rfl⟩⟩
          · rcases Nat.eq_zero_or_pos k with rfl | hk0
            · cases hv0 rfl
            · refine ⟨_, ?_, .inr ⟨bl, rfl, y3, y2⟩⟩
              have hsr : asliceRow ⟨bl, 0, none⟩ 2 k (2 * k + 1) none (some (.int .i64 k)) (some (.int .i64 k)) = some (.slice (some ⟨bl, 0, none⟩) k (2 * k)) := by
                have b1 : bnd (.int .i64 k) ((2 * k + 1) / 2) = some k := by simp [bnd]; omega
                have b2 : bnd (.int .i64 k) k = some k := by simp [bnd]
                unfold asliceRow
                simp only [b1, b2]
                simp [bndD]
              simp [hsr]
        obtain ⟨g, s⟩ := w
        obtain ⟨wo1, wo2⟩ := wo
        simp only at x1' hsc wo1 wo2
        simp -dsimp (disch := omega) [g7, g19, g20, g21, fa, s1, x1', hp, hsl']
        refine app_w (m := h.next + 2) (k := k) (cs := winsC (l.take k)) (new := #[.int .u8 g, .int .u16 s]) ?_ (by omega) (by simp; omega) (src_slice _ _ _ _ _ #[.int .u8 g, .int .u16 s] (by simp (disch := omega))) (by omega) (by simp) (by unfold ROOM; omega) ?_
        · rcases hP with hP | ⟨bl, e1, e2, e3⟩
          · exact .inl hP
          · exact .inr ⟨bl, e1, by simp (disch := omega) [e2]⟩
        intro v1 h1 r1 r2 r3 r4
        have r2' : h1.next = h'.next + 3 := by rw [r2]; simp
        obtain ⟨va1, vc1, rfl⟩ := r1.slice
        have hp1 : h1.blks (h.next + 1) = some ⟨#[vl, .slice (some ⟨bb, 0, none⟩) (k + 1) cb], 1, true⟩ := by rw [r4 _ (by simp; omega)]; simp (disch := omega) [hp]
        have hbb1 : h1.blks bb = some ⟨(begK l k).toArray, 1, true⟩ := by rw [r4 _ (by simp; omega)]; simp (disch := omega) [hbb]
        have hw1 : h1.blks h'.next = some ⟨#[.int .u8 g, .int .u16 s], 1, true⟩ := by rw [r4 _ (by simp; omega)]; simp (disch := omega)
        have hs1 : ∀ i, i < h.next → h1.blks i = h.blks i := fun i hi => by rw [r4 _ (by simp; omega)]; simp (disch := omega) [hs i hi]
        have hbz : (begK l k).toArray.size = k + 1 := by simp [begK_len]
        have hba' : (begK l k).toArray[k]? = some (.int .u64 (sumS (l.take k))) := by rw [List.getElem?_toArray]; exact hba
        have hBl : (begK l k).toArray.toList = begK l k := rfl
        obtain ⟨BA, hBA⟩ : ∃ BA, BA = (begK l k).toArray := ⟨_, rfl⟩
        rw [← hBA] at hbb1 hbz hba' hBl
        have hkz : k < BA.size := by omega
        simp -dsimp (disch := omega) [g7, g19, g20, g21, hp1, hbb1, hw1, hba', hbz, hkz, -getElem?_pos]
        refine app_one (n := k + 1) (m := h.next + 2) (b0 := bb) (cs := BA) (new := #[.int .u64 (sumS (l.take k) + s : Nat)]) (by simp (disch := omega) [hbb1]) hcb (by simp; omega) (by omega) (by simp; omega) (src_slice _ _ _ _ _ _ (by simp (disch := omega))) (by omega) (by simp) (by unfold ROOM; omega) ?_
        intro v2 h2 z1 z2 z3 z4
        have z2' : h2.next = h1.next + 2 := by rw [z2]; simp
        have hp2 : h2.blks (h.next + 1) = some ⟨#[.slice va1 (k + 1) vc1, .slice (some ⟨bb, 0, none⟩) (k + 1) cb], 1, true⟩ := by rw [z4 _ (by simp; omega) (by omega)]; simp (disch := omega)
        have hr2 : Row (h.next + 2) h2 2 (k + 1) (winsC (l.take (k + 1))) (.slice va1 (k + 1) vc1) := by
          rw [hwc]
          refine r1.mono (by omega) fun x hx => ?_
          have e : x = h'.next + 2 := by rw [r3] at hx; simp at hx; omega
          rw [z4 x (by simp; omega) (by omega)]
          simp (disch := omega)
        obtain ⟨y0, ⟨_, y⟩ | ⟨b2, y1, y2, rfl, y3⟩⟩ := z1
        · omega
        have hb2 : b2 = h1.next + 1 := by simpa [sblk] using z3
        have hvn : sblk (.slice va1 (k + 1) vc1) ≠ some b2 := fun e => by have := (r1.blk _ e).2; omega
        rw [hBl] at y3
        simp -dsimp (disch := omega) [g7, g19, g20, g21, hp2]
        refine ⟨⟨by omega, fun i hi => ?_, k + 1, by omega, by simp, _, _, _, ⟨rfl, rfl, rfl, rfl⟩, hr2.set _ _ (fun e => by have := (hr2.blk _ e).1; omega), ?_, by omega, by omega, by omega, by omega, hvn, by omega⟩, by simp [ivN]; omega⟩
        · rw [if_neg (by omega), z4 i (by simp; omega) (by omega)]
          simp (disch := omega) [hs1 i hi]
        · rw [if_neg (by omega), y3, hbc, hsc]
      · have hkn : k = n := by omega
        subst hkn
        simp -dsimp (disch := omega) [g7, g19, g20, g21]
        rw [hn, List.take_length] at hrow
        rw [hn] at hp hbb
        refine RetF.all (by simp [g7]) (k1 h' (h.next + 1) ⟨by omega, hs⟩ (by omega) ⟨_, _, hp, row_sl hrow, ⟨by rw [begK_len, Nat.mul_one], .inr ⟨_, _, _, rfl, hbb, by simp [begK_len], fun j hj => by simp⟩⟩, by omega, fun b hb => (hrow.blk b hb).2, fun b hb => by simp [sblk] at hb; omega⟩)
  · have k0 := k0 hc0
    have hc0' : ¬ (checkW l gs : Int) = 0 := by omega
    simp -dsimp (disch := omega) [hc0, hc0']
    exact RetF.same hwf (by simp) (Nat.zero_le _) (fun _ _ => rfl) k0
end
end Go.Proofs.YtmnemfeofhinaaaDoor
namespace Go.Proofs.YtmnemfeofhinaaaDoor
open Go Go.Mini Go.Proofs.Tryd
set_option maxRecDepth 100000

@[simp] theorem apQ_round_normal (K : Value → Hp → Prop) (t : Tm) (h : Hp) (u : Tag (roundQ K, t, h)) : apQ (roundQ K) .normal t h u = K (.bool true) h := _root_.id rfl
@[simp] theorem apQ_round_ret (K : Value → Hp → Prop) (t : Tm) (h : Hp) (u : Tag (roundQ K, t, h)) : apQ (roundQ K) .ret t h u = K (.bool false) { h with jump := some .ret } := _root_.id rfl

section
variable {P : Program} {n : Nat}
/-- A loop over a function that may be left by a return. -/
theorem awp_rangeJ (R : List Value → Hp → (Value → Hp → Prop) → Prop) (I J : Hp → Prop) {g : Operand} {ps : Array Tmp} {assign body : Code} {Q : APost} {t : Tm} {h : Hp} {gf : FuncId} {caps : Array Value} (hg : ev t g = .func (.func gf) #[] caps) (okg : okOpnd n g = true) (hps : ∀ p ∈ ps.toList, p < n) (na : hasRange assign = false) (nb : hasRange body = false)
    (HR : ∀ args hh K, R args hh K → (hh.jump = none ∧ h.next < hh.next ∧ args.length = ps.size) ∧ @Awp noEnv P n assign (thenQ (fun t1 hA => @Awp noEnv P n body (roundQ K) t1 hA) (fun _ _ _ => False)) (setPs t ps.toList args) hh)
    (HE : ∀ h', I h' → h'.jump = none ∧ apQ Q .normal t { h' with jump := h.jump } (.mk _)) (HJ : ∀ h', J h' → h'.jump = some .ret ∧ apQ Q .ret t { h' with jump := h.jump } (.mk _))
    (HC : ∀ E1 : REnv, E1.can = true → (∀ args hh K, R args hh K → @YCall E1 P h.next args hh K) → @ACall E1 P gf (.func (.yield h.next) #[] #[] :: caps.toList) ⟨h.next + 1, h.blks, none⟩ (fun _ h' => I h' ∨ J h')) : Awp P n (.rangeFunc g ps assign body) Q t h :=
  awp_rangeR R hg okg hps na nb HR fun E1 hcan hY => (HC E1 hcan hY).mono fun r h' hi => by
    unfold rangeQ
    rcases hi with hi | hi
    · obtain ⟨h1, h2⟩ := HE h' hi
      rw [h1]
      exact h2
    · obtain ⟨h1, h2⟩ := HJ h' hi
      rw [h1]
      exact h2
end

section
variable {h : Hp} {K : Value → Hp → Prop} {p : Nat} {l : List Win}
theorem is_call (q : Tab h p l) (hl : 0 < l.length) (hK : K (.bool true) h) : ACall prog 78 [ptr p] h K := by
  refine acallF_of tb0 func78 rfl rfl mixed (by kernel_rfl) fun hwf => ?_
  obtain ⟨vl, vb, t1, t2, t3, t4, t5, t6⟩ := q
  obtain ⟨va, vc, rfl⟩ := t2.slice
  have hl' : (0 : Int) < l.length := by omega
  simp -dsimp (disch := omega) [t1, hl, hl']
  exact RetF.same hwf (by simp) (Nat.zero_le _) (fun _ _ => rfl) hK
theorem length_call (q : Tab h p l) (hl : 0 < l.length) (hK : K (.int .u64 (sumS l : Nat)) h) : ACall prog 59 [ptr p] h K := by
  refine acallF_of tb0 func59 rfl rfl mixed (by kernel_rfl) fun hwf => ?_
  simp -dsimp (disch := omega)
  refine is_call q hl ?_
  obtain ⟨vl, vb, t1, t2, t3, t4, t5, t6⟩ := q
  obtain ⟨va, vc, rfl⟩ := t2.slice
  obtain ⟨z1, ⟨_, _, _, z2⟩ | ⟨a, c, b', rfl, z3, z4, z5⟩⟩ := t3
  · omega
  have z6 := z5 l.length (by omega)
  rw [begK_at l (Nat.le_refl _), List.take_length] at z6
  have z7 : a.off + l.length < b'.cells.size := by omega
  clear z5
  simp -dsimp (disch := omega) [t1, z3, z6, z7, -getElem?_pos]
  exact RetF.same hwf (by simp) (Nat.zero_le _) (fun _ _ => rfl) hK
theorem windows_call (hK : K (.func (.func 86) #[] #[ptr h.next]) (h.alloc ⟨#[ptr p], 1, true⟩)) : ACall prog 77 [ptr p] h K := by
  refine acallF_of tb0 func77 rfl rfl mixed (by kernel_rfl) fun hwf => ?_
  simp -dsimp (disch := omega)
  exact RetF.all (by simp) hK
/-- The same, with its slices. -/
def TabV (h : Hp) (p : Nat) (l : List Win) (vl vb : Value) : Prop :=
  h.blks p = some ⟨#[vl, vb], 1, true⟩ ∧ Sl h 2 l.length (winsC l) vl ∧ Sl h 1 (l.length + 1) (begK l l.length) vb ∧ p < h.next ∧ (∀ b, sblk vl = some b → b < h.next) ∧ (∀ b, sblk vb = some b → b < h.next)
theorem TabV.mono {h h' : Hp} {p : Nat} {l : List Win} {vl vb : Value} (t : TabV h p l vl vb) (hn : h.next ≤ h'.next) (hs : ∀ i, i < h.next → h'.blks i = h.blks i) : TabV h' p l vl vb := by
  obtain ⟨t1, t2, t3, t4, t5, t6⟩ := t
  exact ⟨by rw [hs _ t4]; exact t1, t2.mono fun b hb => hs _ (t5 b hb), t3.mono fun b hb => hs _ (t6 b hb), by omega, fun b hb => by have := t5 b hb; omega, fun b hb => by have := t6 b hb; omega⟩
set_option maxHeartbeats 1000000 in
/-- The windows, one behind the other. -/
theorem each_call [E : REnv] {L c : Nat} {vl vb : Value} (hcan : E.can = true) (J : Nat → Hp → Prop) (Jx : Hp → Prop) (q : TabV h p l vl vb) (hl : 0 < l.length) (hl2 : l.length ≤ 32) (hp : h.blks c = some ⟨#[ptr p], 1, true⟩)
    (hJ : ∀ k hh, J k hh → TabV hh p l vl vb ∧ hh.blks c = some ⟨#[ptr p], 1, true⟩ ∧ c < hh.next) (h0 : J 0 h)
    (hJa : ∀ k hh b, J k hh → J k (hh.alloc b))
    (hY : ∀ k hh w, l[k]? = some w → J k hh → YCall prog L [.int .u64 (sumS (l.take k) : Nat), .agg #[.int .u8 w.g, .int .u16 w.s]] hh (fun r h' => (r = .bool true ∧ J (k + 1) h') ∨ (r = .bool false ∧ Jx h')))
    (hK : ∀ h', J l.length h' ∨ Jx h' → K (.tuple #[]) h') : ACall prog 86 [.func (.yield L) #[] #[], ptr c] h K := by
  refine acallF_of tb0 func86 rfl rfl mixed (by kernel_rfl) fun hwf => ?_
  simp -dsimp (disch := omega) [hp]
  refine ACall.any (is_call ⟨vl, vb, q⟩ hl ?_)
  have q0 := q
  obtain ⟨t1, t2, t3, t4, t5, t6⟩ := q
  obtain ⟨va, vc, rfl⟩ := t2.slice
  obtain ⟨n, hn⟩ : ∃ n, n = l.length := ⟨_, rfl⟩
  rw [← hn] at t1
  simp -dsimp (disch := omega) [hp, t1]
  refine awp_loop (fun t h' => ∃ k : Nat, k ≤ n ∧ t 0 = .func (.yield L) #[] #[] ∧ t 1 = ptr c ∧ t 11 = .slice va n vc ∧ t 12 = .int .i64 n ∧ t 13 = .int .i64 k ∧ J k h') (fun t _ => n - ivN (t 13)) ?_ ?_
  · simp -dsimp (disch := omega)
    exact ⟨0, by omega, rfl, h0⟩
  · rintro t h' ⟨k, hk, g0, g1, g11, g12, g13, hj⟩
    refine vcF_sound mixed (tb := tb0) _ (by kernel_rfl) ?_
    simp -dsimp (disch := omega) [g11, g12, g13]
    refine CondF_dec (fun hc => ?_) (fun hc => ?_)
    · have hkl : k < l.length := by omega
      obtain ⟨w, hx⟩ : ∃ w, l[k]? = some w := ⟨l[k], List.getElem?_eq_getElem hkl⟩
      obtain ⟨⟨u1, u2, u3, u4, u5, u6⟩, u7, u8⟩ := hJ k h' hj
      rw [← hn] at u1
      obtain ⟨a', c', b', q2, fa, s1, x1, y1⟩ := sl_el (f := winC) (n := 2) winC_len u2 hx
      cases q2
      have hab := u5 _ rfl
      have x1' : b'.cells.extract (a'.off + k * 2) (a'.off + k * 2 + 2) = #[.int .u8 w.g, .int .u16 w.s] := x1
      clear x1 y1
      have hyc := hY k _ w hx (hJa k h' ⟨#[.int .u8 w.g, .int .u16 w.s], 1, true⟩ hj)
      have hja := hJa k h' ⟨#[.int .u8 w.g, .int .u16 w.s], 1, true⟩ hj
      obtain ⟨g, s⟩ := w
      simp only at x1' hyc hja
      obtain ⟨z1, ⟨_, _, _, z2⟩ | ⟨a, cb, bb, rfl, z3, z4, z5⟩⟩ := u3
      · omega
      have z6 := z5 k (by omega)
      rw [begK_at l (by omega)] at z6
      have z7 : a.off + k < bb.cells.size := by omega
      have z8 := u6 _ rfl
      clear z5
      simp -dsimp (disch := omega) [g0, g1, g11, g13, fa, s1, x1', u1, u7, z3, z6, z7, -getElem?_pos]
      refine ⟨hcan, YCall.mono hyc ?_⟩
      rintro r h2 (⟨rfl, hj2⟩ | ⟨rfl, hj2⟩)
      · simp -dsimp (disch := omega) [g0, g1, g11, g12, g13]
        exact ⟨⟨k + 1, by omega, by simp, hj2⟩, by simp [ivN]; omega⟩
      · simp -dsimp (disch := omega) [g0, g1, g11, g12, g13]
        exact RetF.all (by simp) (hK h2 (.inr hj2))
    · have : k = n := by omega
      subst this
      simp -dsimp (disch := omega) [g11, g12, g13]
      exact RetF.all (by simp) (hK h' (.inl (hn ▸ hj)))
end
end Go.Proofs.YtmnemfeofhinaaaDoor
namespace Go.Proofs.YtmnemfeofhinaaaDoor
open Go Go.Mini Go.Proofs.Tryd
set_option maxRecDepth 100000

def aheadK (l : List Win) (g pl : Nat) : Nat → Nat
  | 0 => 0
  | k + 1 => aheadK l g pl k + match l[k]? with
    | some w => if w.g = g ∧ sumS (l.take k) < pl then min w.s (pl - sumS (l.take k)) else 0
    | none => 0
def aheadF (l : List Win) (g pl : Nat) : Nat := aheadK l g pl l.length
theorem aheadK_succ {l : List Win} {g pl k : Nat} {w : Win} (hx : l[k]? = some w) : aheadK l g pl (k + 1) = aheadK l g pl k + if w.g = g ∧ sumS (l.take k) < pl then min w.s (pl - sumS (l.take k)) else 0 := by
  simp only [aheadK, hx]
theorem aheadK_le {l : List Win} {g pl : Nat} : ∀ k, aheadK l g pl k ≤ sumS (l.take k) := by
  intro k
  induction k with
  | zero => simp [aheadK]
  | succ k ih =>
    cases hx : l[k]? with
    | none =>
      have hl : l.length ≤ k := List.getElem?_eq_none_iff.1 hx
      simp only [aheadK, hx]
      rw [List.take_of_length_le (by omega)] at ih ⊢
      omega
    | some w =>
      rw [aheadK_succ hx, sumS_succ hx]
      split <;> omega

section
variable {h : Hp} {K : Value → Hp → Prop} {p : Nat} {l : List Win}
set_option maxHeartbeats 1000000 in
theorem ahead_call {g pl : Nat} (q : Tab h p l) (hok : ∀ w ∈ l, w.ok) (hl : 0 < l.length) (hl2 : l.length ≤ 32) (hpl : pl < 18446744073709551616) (hK : K (.int .u64 (aheadF l g pl : Nat)) h) : ACall prog 58 [ptr p, .int .u8 g, .int .u64 pl] h K := by
  refine acallF_of tb0 func58 rfl rfl mixed (by kernel_rfl) fun hwf => ?_
  simp -dsimp (disch := omega)
  refine windows_call ?_
  simp -dsimp (disch := omega)
  refine awpF_gen fun T G hT hG => ?_
  obtain ⟨vl, vb, q⟩ := q
  have q : TabV h p l vl vb := q
  have gn : G.next = h.next + 4 := by rw [hG]; simp
  have gs : ∀ i, i < h.next → G.blks i = h.blks i := fun i hi => by rw [hG]; simp (disch := omega)
  have g0 : G.blks h.next = some ⟨#[.int .u8 g], 1, true⟩ := by rw [hG]; simp (disch := omega)
  have g1 : G.blks (h.next + 1) = some ⟨#[.int .u64 pl], 1, true⟩ := by rw [hG]; simp (disch := omega)
  have g2 : G.blks (h.next + 2) = some ⟨#[.int .u64 0], 1, true⟩ := by rw [hG]; simp (disch := omega)
  have g3 : G.blks (h.next + 3) = some ⟨#[ptr p], 1, true⟩ := by rw [hG]; simp (disch := omega)
  have T10 : T 10 = .func (.func 86) #[] #[ptr (h.next + 3)] := by rw [hT]; rfl
  have T4 : T 4 = ptr h.next := by rw [hT]; rfl
  have T5 : T 5 = ptr (h.next + 1) := by rw [hT]; rfl
  have T6 : T 6 = ptr (h.next + 2) := by rw [hT]; rfl
  clear hT hG
  obtain ⟨J, hJ⟩ : ∃ J : Nat → Hp → Prop, J = fun k hh => hh.jump = none ∧ h.next + 5 ≤ hh.next ∧ (∀ i, i < h.next → hh.blks i = h.blks i) ∧ hh.blks h.next = some ⟨#[.int .u8 g], 1, true⟩ ∧ hh.blks (h.next + 1) = some ⟨#[.int .u64 pl], 1, true⟩ ∧ hh.blks (h.next + 2) = some ⟨#[.int .u64 (aheadK l g pl k : Nat)], 1, true⟩ ∧ hh.blks (h.next + 3) = some ⟨#[ptr p], 1, true⟩ := ⟨_, rfl⟩
  refine awp_rangeN (fun args hh K => ∃ k w, l[k]? = some w ∧ J k hh ∧ args = [.int .u64 (sumS (l.take k) : Nat), .agg #[.int .u8 w.g, .int .u16 w.s]] ∧ K = fun r h' => (r = .bool true ∧ J (k + 1) h') ∨ (r = .bool false ∧ False)) (J l.length) T10 (by kernel_rfl) (by simp) rfl rfl ?_ ?_ ?_
  · rintro args hh K ⟨k, w, hx, hj, rfl, rfl⟩
    have hj' := hj
    rw [hJ] at hj'
    obtain ⟨j1, j2, j3, j4, j5, j6, j7⟩ := hj'
    refine ⟨⟨j1, by omega, rfl⟩, ?_⟩
    have hkl : k < l.length := (List.getElem?_eq_some_iff.1 hx).1
    have hsk := sumS_le hok k
    have hak := aheadK_le (l := l) (g := g) (pl := pl) k
    have has := aheadK_succ (g := g) (pl := pl) hx
    have wo := hok w (List.mem_of_getElem? hx)
    obtain ⟨wg, ws⟩ := w
    obtain ⟨wo1, wo2⟩ := wo
    simp only at has wo1 wo2
    generalize sumS (l.take k) = b0 at *
    refine vcF_sound mixed (tb := tb0) _ (by kernel_rfl) ?_
    simp -dsimp (disch := omega) [setPs]
    refine vcF_sound mixed (tb := tb0) _ (by kernel_rfl) ?_
    by_cases c1 : wg = g
    · subst c1
      by_cases c2 : b0 < pl
      · have c2' : (b0 : Int) < pl := by omega
        rw [if_pos ⟨rfl, c2⟩] at has
        have e1 : ((pl : Int) - b0) = ((pl - b0 : Nat) : Int) := by omega
        simp -dsimp (disch := omega) [T4, T5, T6, j4, j5, j6, c2, c2']
        rw [hJ]; dsimp only; rw [has]
        refine ⟨j1, by simp; omega, fun i hi => ?_, ?_, ?_, ?_, ?_⟩
        · simp (disch := omega) [j3 i hi]
        · simp (disch := omega) [j4]
        · simp (disch := omega) [j5]
        · simp (disch := omega)
          split <;> omega
        · simp (disch := omega) [j7]
      · have c2' : ¬ (b0 : Int) < pl := by omega
        rw [if_neg (by omega)] at has
        simp -dsimp (disch := omega) [T4, T5, T6, j4, j5, j6, c2, c2']
        rw [hJ]; dsimp only; rw [has, Nat.add_zero]
        exact ⟨j1, by simp; omega, fun i hi => by rw [blks_alloc_ne _ _ _ (by omega)]; exact j3 i hi, by rw [blks_alloc_ne _ _ _ (by omega)]; exact j4, by rw [blks_alloc_ne _ _ _ (by omega)]; exact j5, by rw [blks_alloc_ne _ _ _ (by omega)]; exact j6, by rw [blks_alloc_ne _ _ _ (by omega)]; exact j7⟩
    · have c1' : ¬ (wg : Int) = g := by omega
      rw [if_neg (by omega)] at has
      simp -dsimp (disch := omega) [T4, T5, T6, j4, j5, j6, c1, c1']
      rw [hJ]; dsimp only; rw [has, Nat.add_zero]
      exact ⟨j1, by simp; omega, fun i hi => by rw [blks_alloc_ne _ _ _ (by omega)]; exact j3 i hi, by rw [blks_alloc_ne _ _ _ (by omega)]; exact j4, by rw [blks_alloc_ne _ _ _ (by omega)]; exact j5, by rw [blks_alloc_ne _ _ _ (by omega)]; exact j6, by rw [blks_alloc_ne _ _ _ (by omega)]; exact j7⟩
  · intro h' hj
    rw [hJ] at hj
    obtain ⟨j1, j2, j3, j4, j5, j6, j7⟩ := hj
    refine ⟨j1, ?_⟩
    simp -dsimp (disch := omega) [T6, j6]
    exact RetF.same hwf (by simp (disch := omega) [T6]; rfl) (Nat.zero_le _) (fun i hi => by simp (disch := omega) [j3 i hi]) hK
  · intro E1 hcan hY
    refine each_call hcan J (fun _ => False) (q.mono (by show h.next ≤ G.next + 1; omega) (fun i hi => gs i hi)) hl hl2 g3 ?_ ?_ ?_ ?_ ?_
    · intro k hh hj
      rw [hJ] at hj
      obtain ⟨j1, j2, j3, j4, j5, j6, j7⟩ := hj
      exact ⟨q.mono (by omega) j3, j7, by omega⟩
    · rw [hJ]
      exact ⟨rfl, by show h.next + 5 ≤ G.next + 1; omega, gs, g0, g1, g2, g3⟩
    · intro k hh b hj
      rw [hJ] at hj ⊢
      obtain ⟨j1, j2, j3, j4, j5, j6, j7⟩ := hj
      exact ⟨j1, by simp; omega, fun i hi => by rw [blks_alloc_ne _ _ _ (by omega)]; exact j3 i hi, by rw [blks_alloc_ne _ _ _ (by omega)]; exact j4, by rw [blks_alloc_ne _ _ _ (by omega)]; exact j5, by rw [blks_alloc_ne _ _ _ (by omega)]; exact j6, by rw [blks_alloc_ne _ _ _ (by omega)]; exact j7⟩
    · intro k hh w hx hj
      exact hY _ _ _ ⟨k, w, hx, hj, rfl, rfl⟩
    · rintro h' (hj | hj)
      · exact hj
      · exact hj.elim
theorem budget_call {g : Nat} (q : Tab h p l) (hok : ∀ w ∈ l, w.ok) (hl : 0 < l.length) (hl2 : l.length ≤ 32) (hs : sumS l < 18446744073709551616) (hK : K (.int .u64 (aheadF l g (sumS l) : Nat)) h) : ACall prog 22 [ptr p, .int .u8 g] h K := by
  refine acallF_of tb0 func22 rfl rfl mixed (by kernel_rfl) fun hwf => ?_
  simp -dsimp (disch := omega)
  refine length_call q hl ?_
  simp -dsimp (disch := omega)
  refine ahead_call q hok hl hl2 hs ?_
  simp -dsimp (disch := omega)
  exact RetF.same hwf (by simp) (Nat.zero_le _) (fun _ _ => rfl) hK
def tb13 : Nat → Marks := fun k => ⟨[], fun _ => True⟩
theorem wrap64 (n : Int) : IntKind.u64.wrap n = n % 18446744073709551616 := by simp [IntKind.wrap, IntKind.bits, IntKind.signed]
end
end Go.Proofs.YtmnemfeofhinaaaDoor
