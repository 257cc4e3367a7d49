/-
  FrameKnown: the examples.
-/
import Derived.Test.YtndnpmfoegkkeaaDoorR6
import Derived.Test.YtndnpmfoegkkeaaDoorR7
set_option linter.unusedSimpArgs false
set_option linter.unusedVariables false
set_option linter.unusedSectionVars false
namespace Go.Proofs.YtndnpmfoegkkeaaDoor
open Go Go.Mini Go.Proofs.Tryd
set_option maxRecDepth 100000

def badW : List Win := [⟨0, 2⟩, ⟨1, 0⟩, ⟨255, 1⟩, ⟨0, 1⟩]
def longW : List Win := [⟨0, 1000⟩, ⟨0, 25⟩]
def manyW : List Win := List.replicate 33 ⟨0, 0⟩
theorem badW_ok : ∀ w ∈ badW, w.ok := by unfold badW Win.ok; decide
theorem longW_ok : ∀ w ∈ longW, w.ok := by unfold longW Win.ok; decide
theorem manyW_ok : ∀ w ∈ manyW, w.ok := fun w hw => by rw [List.eq_of_mem_replicate hw]; exact ⟨by decide, by decide⟩
theorem wins_text : textK wins wins.length = [48, 58, 50, 32, 49, 58, 49, 32, 45, 58, 49, 32, 48, 58, 49] := by
  simp [textK, piecesK, piece, wins, Lib.decDigits, Lib.join_cons, Lib.joinTail]
theorem next_is {g step b0 : Nat} {R : Nat × Bool} (h : NextR wins g step R) (hb : b0 < 5) (h1 : (frL wins)[(step + b0) % 5]? = some g) (h2 : ∀ m, m < b0 → (frL wins)[(step + m) % 5]? ≠ some g) : R = (upA step b0, upB step b0) := by
  rcases h with ⟨_, h⟩ | ⟨b, hf, rfl⟩
  · exact absurd rfl (h g (List.mem_of_getElem? h1))
  · obtain ⟨c1, c2, c3⟩ := found_at (by rw [sw]; omega) hf
    rw [sw] at c1 c2 c3
    have : b = b0 := by
      rcases Nat.lt_trichotomy b b0 with h | h | h
      · exact absurd c2 (h2 b h)
      · exact h
      · exact absurd rfl (c3 b0 h g h1)
    rw [this]
theorem next_no2 {R : Nat × Bool} {step : Nat} (h : NextR wins 2 step R) : R = (0, false) := by
  rcases h with ⟨h, _⟩ | ⟨b, hf, rfl⟩
  · exact h
  · obtain ⟨_, c2, _⟩ := found_at (by rw [sw]; omega) hf
    exact absurd (List.mem_of_getElem? c2) (by decide)
section
variable {h : Hp} {K : Value → Hp → Prop} {p : Nat}
theorem ownW_call {x g : Nat} (q : Tab h p wins) (hx : x < 18446744073709551616) (hg : (frL wins)[x % 5]? = some g) (hK : K (.int .u8 g) h) : ACall prog 14 [ptr p, .int .u64 x] h K := by
  refine owner_call q wins_ok (by decide) (by decide) (by rw [sw]; omega) (by rw [sw]; omega) hx (fun k w hw a b => ?_)
  have e := frL_at hw a b
  rw [sw, hg] at e
  rw [← Option.some.inj e]; exact hK
theorem budW_call {g n : Nat} (q : Tab h p wins) (hn : aheadF wins g (sumS wins) = n) (hK : K (.int .u64 n) h) : ACall prog 15 [ptr p, .int .u8 g] h K :=
  budget_call q wins_ok (by decide) (by decide) (by rw [sw]; omega) (by rw [hn]; exact hK)
theorem ownedW_call {g x : Nat} {n : Int} (q : Tab h p wins) (hx : x < 18446744073709551616) (hn : ownV wins g x = n) (hK : K (.int .u64 n) h) : ACall prog 17 [ptr p, .int .u8 g, .int .u64 x] h K :=
  owned2_call q wins_ok (by decide) (by decide) (by rw [sw]; omega) (by rw [sw]; omega) hx (by rw [hn]; exact hK)
theorem winsPos : ∀ w ∈ wins, 0 < w.s := by unfold wins; decide
theorem nextW_call {g step : Nat} {R : Nat × Bool} (q : Tab h p wins) (hx : step < 18446744073709551616) (hR : ∀ R', NextR wins g step R' → R' = R) (hK : K (.tuple #[.int .u64 (R.1 : Nat), .bool R.2]) h) : ACall prog 12 [ptr p, .int .u8 g, .int .u64 step] h K :=
  next2_call q wins_ok (by decide) (by decide) (by rw [sw]; omega) (by rw [sw]; omega) winsPos hx (fun R' h' => by rw [hR R' h']; exact hK)
theorem lawNext_call {g step want : Nat} (q : Tab h p wins) (hx : step < 18446744073709551616) (hR : ∀ R', NextR wins g step R' → R' = (want, true)) (hK : K (.bool true) h) : ACall prog 21 [ptr p, .int .u8 g, .int .u64 step, .int .u64 want] h K := by
  refine acallF_of tb0 func21 rfl rfl mixed (by kernel_rfl) fun hwf => ?_
  simp -dsimp (disch := omega)
  refine nextW_call q hx hR ?_
  simp -dsimp (disch := omega)
  exact RetF.same hwf (by simp) (Nat.zero_le _) (fun _ _ => rfl) hK
theorem textW_call (q : Tab h p wins) (ht : PowAt h) (hK : K (.string ⟨#[48, 58, 50, 32, 49, 58, 49, 32, 45, 58, 49, 32, 48, 58, 49]⟩) h) : ACall prog 10 [ptr p] h K :=
  text_call q wins_ok (by decide) (by decide) ht (by rw [wins_text]; exact hK)
def winA : Array Value := #[.int .u8 0, .int .u16 2, .int .u8 1, .int .u16 1, .int .u8 255, .int .u16 1, .int .u8 0, .int .u16 1]
theorem chkG {n : Nat} {g : Int} {c : Nat} (hb : h.blks n = some ⟨winA, 2, true⟩) (hc : checkW wins g = c) (hK : K (.int .i64 c) h) : ACall prog 22 [.slice (some ⟨n, 0, none⟩) 4 8, .int .i64 g] h K :=
  check_call (l := wins) wins_ok ⟨rfl, .inr ⟨_, _, _, rfl, hb, by simp [wins, winA], fun j _ => by simp [winA, wins, winsC, winC]⟩⟩ (by decide) (by rw [hc]; exact hK)
theorem chkBad {n : Nat} (hb : h.blks n = some ⟨#[.int .u8 0, .int .u16 2, .int .u8 1, .int .u16 0, .int .u8 255, .int .u16 1, .int .u8 0, .int .u16 1], 2, true⟩) (hK : K (.int .i64 2) h) : ACall prog 22 [.slice (some ⟨n, 0, none⟩) 4 8, .int .i64 2] h K :=
  check_call (l := badW) badW_ok ⟨rfl, .inr ⟨_, _, _, rfl, hb, by simp [badW], fun j _ => by simp [badW, winsC, winC]⟩⟩ (by decide) (by rw [show checkW badW 2 = 2 from by decide]; exact hK)
theorem chkLong {n : Nat} (hb : h.blks n = some ⟨#[.int .u8 0, .int .u16 1000, .int .u8 0, .int .u16 25], 2, true⟩) (hK : K (.int .i64 5) h) : ACall prog 22 [.slice (some ⟨n, 0, none⟩) 2 4, .int .i64 1] h K :=
  check_call (l := longW) longW_ok ⟨rfl, .inr ⟨_, _, _, rfl, hb, by simp [longW], fun j _ => by simp [longW, winsC, winC]⟩⟩ (by decide) (by rw [show checkW longW 1 = 5 from by decide]; exact hK)
theorem many_row : (zeroRow #[.int .u8 0, .int .u16 0] 66).toList = winsC manyW := by kernel_rfl
theorem chkMany {n : Nat} (hb : h.blks n = some ⟨zeroRow #[.int .u8 0, .int .u16 0] 66, 2, true⟩) (hK : K (.int .i64 5) h) : ACall prog 22 [.slice (some ⟨n, 0, none⟩) 33 66, .int .i64 1] h K :=
  check_call (l := manyW) manyW_ok ⟨by simp [manyW, winsC, winC], .inr ⟨_, _, _, rfl, hb, by have e := congrArg List.length many_row; rw [Array.length_toList] at e; rw [e]; show 0 + manyW.length * 2 ≤ (winsC manyW).length; decide, fun j _ => by rw [← many_row, Array.getElem?_toList]; simp⟩⟩ (by decide) (by rw [show checkW manyW 1 = 5 from by decide]; exact hK)
theorem chkNil (hK : K (.int .i64 11) h) : ACall prog 22 [.slice none 0 0, .int .i64 1] h K :=
  check_call (l := []) (fun w hw => by cases hw) ⟨rfl, .inl ⟨_, _, rfl, rfl⟩⟩ (by decide) (by rw [show checkW [] 1 = 11 from by decide]; exact hK)
end
end Go.Proofs.YtndnpmfoegkkeaaDoor
