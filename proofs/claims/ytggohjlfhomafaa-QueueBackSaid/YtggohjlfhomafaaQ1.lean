/-
  A queue: its block, and the small functions.
-/
import Derived.Test.YtggohjlfhomafaaC1
set_option linter.unusedSimpArgs false
set_option linter.unusedVariables false
set_option linter.unusedSectionVars false
namespace Go.Proofs.Ytggohjlfhomafaa
open Go Go.Mini Go.Proofs.Try

/-- A queue's cells. -/
def qC (rg : Nat → ByteArray) (f m d o : Int) : Array Value := #[.string (rg 0), .string (rg 1), .string (rg 2), .string (rg 3), .string (rg 4), .string (rg 5), .string (rg 6), .string (rg 7), .string (rg 8), .string (rg 9), .string (rg 10), .string (rg 11), .string (rg 12), .string (rg 13), .string (rg 14), .string (rg 15), .int .i64 f, .int .i64 m, .int .i64 d, .int .i64 o]
def updR (rg : Nat → ByteArray) (k : Nat) (s : ByteArray) : Nat → ByteArray := fun i => if i = k then s else rg i
section
variable (rg : Nat → ByteArray) (f m d o : Int)
@[simp] theorem qC_size : (qC rg f m d o).size = 20 := id rfl
@[simp] theorem qC_16 : (qC rg f m d o)[16]? = some (.int .i64 f) := id rfl
@[simp] theorem qC_17 : (qC rg f m d o)[17]? = some (.int .i64 m) := id rfl
@[simp] theorem qC_18 : (qC rg f m d o)[18]? = some (.int .i64 d) := id rfl
@[simp] theorem qC_19 : (qC rg f m d o)[19]? = some (.int .i64 o) := id rfl
theorem qC_at : ∀ k, k < 16 → (qC rg f m d o)[k]? = some (.string (rg k)) := by
  intro k hk
  have e : k = 0 ∨ k = 1 ∨ k = 2 ∨ k = 3 ∨ k = 4 ∨ k = 5 ∨ k = 6 ∨ k = 7 ∨ k = 8 ∨ k = 9 ∨ k = 10 ∨ k = 11 ∨ k = 12 ∨ k = 13 ∨ k = 14 ∨ k = 15 := by omega
  rcases e with rfl | rfl | rfl | rfl | rfl | rfl | rfl | rfl | rfl | rfl | rfl | rfl | rfl | rfl | rfl | rfl <;> rfl
theorem qC_all : (qC rg f m d o).extract 0 20 = qC rg f m d o := by
  show (qC rg f m d o).extract 0 (qC rg f m d o).size = _
  exact Array.extract_size
@[simp] theorem qC_set16 (x : Int) : (qC rg f m d o).setIfInBounds 16 (.int .i64 x) = qC rg x m d o := id rfl
@[simp] theorem qC_set17 (x : Int) : (qC rg f m d o).setIfInBounds 17 (.int .i64 x) = qC rg f x d o := id rfl
theorem qC_set (s : ByteArray) : ∀ k, k < 16 → (qC rg f m d o).setIfInBounds k (.string s) = qC (updR rg k s) f m d o := by
  intro k hk
  have e : k = 0 ∨ k = 1 ∨ k = 2 ∨ k = 3 ∨ k = 4 ∨ k = 5 ∨ k = 6 ∨ k = 7 ∨ k = 8 ∨ k = 9 ∨ k = 10 ∨ k = 11 ∨ k = 12 ∨ k = 13 ∨ k = 14 ∨ k = 15 := by omega
  rcases e with rfl | rfl | rfl | rfl | rfl | rfl | rfl | rfl | rfl | rfl | rfl | rfl | rfl | rfl | rfl | rfl <;> rfl
end
def qB (rg : Nat → ByteArray) (f m d o : Int) : Blk := ⟨qC rg f m d o, 1, true⟩

section
variable {h : Hp} {K : Value → Hp → Prop} {p : Nat} {rg : Nat → ByteArray} {f m d o : Int}
theorem isq_call (hb : h.blks p = some (qB rg f m d o)) (hd : 0 < d) (hK : K (.bool true) h) : ACall prog 25 [.pointer (some ⟨p, 0, none⟩)] h K := by
  refine acallF_of tb0 func25 rfl rfl mixed (by kernel_rfl) fun hwf => ?_
  unfold qB at hb
  simp -dsimp (disch := omega) [hb, hd]
  exact RetF.same hwf (by simp) (Nat.zero_le _) (fun _ _ => rfl) hK
theorem room_call (hb : h.blks p = some (qB rg f m d o)) (hd : 0 < d) (hd2 : d ≤ 16) (hm : 0 ≤ m) (hm2 : m ≤ d) (hK : K (.int .i64 (d - m)) h) : ACall prog 10 [.pointer (some ⟨p, 0, none⟩)] h K := by
  refine acallF_of tb0 func10 rfl rfl mixed (by kernel_rfl) fun hwf => ?_
  simp -dsimp (disch := omega)
  refine isq_call hb hd ?_
  unfold qB at hb
  simp -dsimp (disch := omega) [hb]
  exact RetF.same hwf (by simp) (Nat.zero_le _) (fun _ _ => rfl) hK
theorem waiting_call (hb : h.blks p = some (qB rg f m d o)) (hd : 0 < d) (hK : K (.int .i64 m) h) : ACall prog 13 [.pointer (some ⟨p, 0, none⟩)] h K := by
  refine acallF_of tb0 func13 rfl rfl mixed (by kernel_rfl) fun hwf => ?_
  simp -dsimp (disch := omega)
  refine isq_call hb hd ?_
  unfold qB at hb
  simp -dsimp (disch := omega) [hb]
  exact RetF.same hwf (by simp) (Nat.zero_le _) (fun _ _ => rfl) hK
end
end Go.Proofs.Ytggohjlfhomafaa
