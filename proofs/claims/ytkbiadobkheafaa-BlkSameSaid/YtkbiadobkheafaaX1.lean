/-
  The document's device: its cells; Read, Write, Reset, Bytes.
-/
import Derived.Test.YtkbiadobkheafaaV4
import Derived.Test.YtkbiadobkheafaaGB
set_option linter.unusedSimpArgs false
set_option linter.unusedVariables false
set_option linter.unusedSectionVars false
namespace Go.Proofs.Ytkbiadobkheafaa
open Go Go.Mini Go.Proofs.Try
set_option maxRecDepth 100000

/-- Registers; how it stands; the command that runs; ticks left, delay; what was written to the sectors. -/
structure Rd where
  se : Nat
  cm : Nat
  ad : Nat
  st : Nat
  wh : Nat
  wt : Nat
  we : Nat
  lf : Nat
  dl : Nat
  L : Nat → List UInt8
structure Rd.ok (r : Rd) : Prop where
  se : r.se < 4294967296
  cm : r.cm < 4294967296
  ad : r.ad < 18446744073709551616
  st : r.st < 4
  wh : r.wh < 4294967296
  wt : r.wt < 4294967296
  we : r.we < 18446744073709551616
  lf : r.lf < 4294967296
  dl : r.dl < 4294967296
  L : ∀ n, r.L n = [] ∨ (r.L n).length = 64
def rcell (r : Rd) (i : Nat) : Value :=
  if i = 0 then .int .u32 r.se else if i = 1 then .int .u32 r.cm else if i = 2 then .int .u64 r.ad else if i = 3 then .int .i64 r.st
  else if i = 4 then .int .u32 r.wh else if i = 5 then .int .u32 r.wt else if i = 6 then .int .u64 r.we else if i = 7 then .int .u32 r.lf
  else if i = 8 then .int .u32 r.dl else .string (txt (r.L (i - 9)))
def refC (r : Rd) : Array Value := ((List.range 41).map (rcell r)).toArray
@[simp] theorem refC_size (r : Rd) : (refC r).size = 41 := by simp [refC]
theorem refC_at (r : Rd) {i : Nat} (h : i < 41) : (refC r)[i]? = some (rcell r i) := by
  unfold refC
  rw [List.getElem?_toArray, List.getElem?_map, List.getElem?_range h]
  rfl
theorem refC_L (r : Rd) {n : Nat} (h : n < 32) : (refC r)[9 + n]? = some (.string (txt (r.L n))) := by
  rw [refC_at r (by omega)]; unfold rcell
  rw [if_neg (by omega), if_neg (by omega), if_neg (by omega), if_neg (by omega), if_neg (by omega), if_neg (by omega), if_neg (by omega), if_neg (by omega), if_neg (by omega), show 9 + n - 9 = n by omega]
theorem refC_ext {r : Rd} {a : Array Value} (hs : a.size = 41) (h : ∀ i, i < 41 → a[i]? = some (rcell r i)) : a = refC r := by
  apply Array.ext_getElem?
  intro i
  rcases Nat.lt_or_ge i 41 with hi | hi
  · rw [h i hi, refC_at r hi]
  · rw [Array.getElem?_eq_none (by omega), Array.getElem?_eq_none (by simp; omega)]
theorem refC_set {r r' : Rd} {k : Nat} {v : Value} (hk : k < 41) (hv : rcell r' k = v) (h : ∀ i, i < 41 → i ≠ k → rcell r' i = rcell r i) : (refC r).setIfInBounds k v = refC r' := by
  refine refC_ext (by simp) fun i hi => ?_
  rw [Array.getElem?_setIfInBounds]
  split
  · rename_i e
    subst e
    rw [if_pos (by simpa using hk), hv]
  · rename_i e
    rw [refC_at r hi, h i hi (fun e' => e e'.symm)]
theorem refC_s0 (r : Rd) (n : Nat) : (refC r).setIfInBounds 0 (.int .u32 n) = refC { r with se := n } := refC_set (by omega) rfl fun i _ h => by unfold rcell; (repeat' split) <;> first | rfl | omega
theorem refC_s1 (r : Rd) (n : Nat) : (refC r).setIfInBounds 1 (.int .u32 n) = refC { r with cm := n } := refC_set (by omega) rfl fun i _ h => by unfold rcell; (repeat' split) <;> first | rfl | omega
theorem refC_s2 (r : Rd) (n : Nat) : (refC r).setIfInBounds 2 (.int .u64 n) = refC { r with ad := n } := refC_set (by omega) rfl fun i _ h => by unfold rcell; (repeat' split) <;> first | rfl | omega
theorem refC_s3 (r : Rd) (n : Nat) : (refC r).setIfInBounds 3 (.int .i64 n) = refC { r with st := n } := refC_set (by omega) rfl fun i _ h => by unfold rcell; (repeat' split) <;> first | rfl | omega
theorem refC_s4 (r : Rd) (n : Nat) : (refC r).setIfInBounds 4 (.int .u32 n) = refC { r with wh := n } := refC_set (by omega) rfl fun i _ h => by unfold rcell; (repeat' split) <;> first | rfl | omega
theorem refC_s5 (r : Rd) (n : Nat) : (refC r).setIfInBounds 5 (.int .u32 n) = refC { r with wt := n } := refC_set (by omega) rfl fun i _ h => by unfold rcell; (repeat' split) <;> first | rfl | omega
theorem refC_s6 (r : Rd) (n : Nat) : (refC r).setIfInBounds 6 (.int .u64 n) = refC { r with we := n } := refC_set (by omega) rfl fun i _ h => by unfold rcell; (repeat' split) <;> first | rfl | omega
theorem refC_s7 (r : Rd) (n : Nat) : (refC r).setIfInBounds 7 (.int .u32 n) = refC { r with lf := n } := refC_set (by omega) rfl fun i _ h => by unfold rcell; (repeat' split) <;> first | rfl | omega
theorem refC_s8 (r : Rd) (n : Nat) : (refC r).setIfInBounds 8 (.int .u32 n) = refC { r with dl := n } := refC_set (by omega) rfl fun i _ h => by unfold rcell; (repeat' split) <;> first | rfl | omega
def updL (L : Nat → List UInt8) (n : Nat) (s : List UInt8) : Nat → List UInt8 := fun i => if i = n then s else L i
theorem refC_sL (r : Rd) {n : Nat} (hn : n < 32) (s : List UInt8) : (refC r).setIfInBounds (9 + n) (.string (txt s)) = refC { r with L := updL r.L n s } := by
  refine refC_set (by omega) ?_ fun i hi h => ?_
  · unfold rcell updL
    rw [if_neg (by omega), if_neg (by omega), if_neg (by omega), if_neg (by omega), if_neg (by omega), if_neg (by omega), if_neg (by omega), if_neg (by omega), if_neg (by omega)]
    simp only
    rw [if_pos (by omega)]
  · rcases Nat.lt_or_ge i 9 with c | c
    · rcases (by omega : i = 0 ∨ i = 1 ∨ i = 2 ∨ i = 3 ∨ i = 4 ∨ i = 5 ∨ i = 6 ∨ i = 7 ∨ i = 8) with rfl | rfl | rfl | rfl | rfl | rfl | rfl | rfl | rfl <;> rfl
    · unfold rcell updL
      rw [if_neg (by omega), if_neg (by omega), if_neg (by omega), if_neg (by omega), if_neg (by omega), if_neg (by omega), if_neg (by omega), if_neg (by omega), if_neg (by omega), if_neg (by omega), if_neg (by omega), if_neg (by omega), if_neg (by omega), if_neg (by omega), if_neg (by omega), if_neg (by omega), if_neg (by omega), if_neg (by omega)]
      simp only
      rw [if_neg (by omega)]
/-- What is read. -/
def rreadR (r : Rd) (off : Nat) (w : Int) : Nat := if mayD off w = false then 0 else if off = 0 then r.se else if off = 8 then r.ad else if off = 16 then r.cm else if off = 20 then r.st else 0
def rbeginR (r : Rd) (c : Nat) : Rd := if r.st = 1 then r else { r with cm := c, wh := r.se, wt := c, we := r.ad, lf := r.dl, st := 1 }
def rackR (r : Rd) : Rd := if r.st = 2 ∨ r.st = 3 then { r with st := 0 } else r
def rwriteR (r : Rd) (off v : Nat) : Rd := if off = 0 then { r with se := v % 4294967296 } else if off = 8 then { r with ad := v } else if off = 16 then rbeginR r (v % 4294967296) else if off = 24 then rackR r else r
def r0 : Rd := ⟨0, 0, 0, 0, 0, 0, 0, 0, 0, fun _ => []⟩
def rresetR (r : Rd) : Rd := { r0 with dl := r.dl, L := r.L }
def rbytes (r : Rd) (n : Nat) : List UInt8 := if r.L n = [] then List.replicate 64 0 else r.L n
section
variable {h : Hp} {K : Value → Hp → Prop} {q : Nat} {r : Rd}
theorem rRead_call {off : Nat} {w : Int} (hb : h.blks q = some ⟨refC r, 1, true⟩) (hd : r.ok) (ho : off < 18446744073709551616) (hK : K (.tuple #[.int .u64 (rreadR r off w : Nat), .bool (mayD off w)]) h) : ACall prog 35 [ptr q, .int .u64 off, .int .i64 w] h K := by
  refine acallF_of tb0 func35 rfl rfl mixed (by kernel_rfl) fun hwf => ?_
  have b0 := refC_at r (i := 0) (by omega)
  have b1 := refC_at r (i := 1) (by omega)
  have b2 := refC_at r (i := 2) (by omega)
  have b3 := refC_at r (i := 3) (by omega)
  rw [show rcell r 0 = .int .u32 r.se from rfl] at b0
  rw [show rcell r 1 = .int .u32 r.cm from rfl] at b1
  rw [show rcell r 2 = .int .u64 r.ad from rfl] at b2
  rw [show rcell r 3 = .int .i64 r.st from rfl] at b3
  obtain ⟨c, hc⟩ : ∃ c, c = refC r := ⟨_, rfl⟩
  rw [← hc] at b0 b1 b2 b3 hb
  clear hc
  have h0 := hd.se
  have h1 := hd.cm
  have h3 := hd.st
  unfold rreadR mayD at hK
  by_cases c2 : off = 8 ∧ w = 8
  · have z1 : (off : Int) = 8 := by omega
    have z2 : w = 8 := c2.2
    simp -dsimp (disch := omega) [c2.1, z1, z2, hb, b2, -getElem?_pos]
    exact RetF.same (r := .tuple #[.int .u64 r.ad, .bool true]) hwf (by simp) (Nat.zero_le _) (fun _ _ => rfl) (by simpa [c2.1, c2.2] using hK)
  by_cases w4 : w = 4
  · subst w4
    have c2' : ¬ ((off : Int) = 8 ∧ (4 : Int) = 8) := by omega
    by_cases c1 : off = 0
    · simp -dsimp (disch := omega) [c1, hb, b0, -getElem?_pos]
      exact RetF.same (r := .tuple #[.int .u64 r.se, .bool true]) hwf (by simp) (Nat.zero_le _) (fun _ _ => rfl) (by simpa [c1] using hK)
    by_cases c3 : off = 16
    · have z1 : (off : Int) = 16 := by omega
      simp -dsimp (disch := omega) [c3, z1, hb, b1, -getElem?_pos]
      exact RetF.same (r := .tuple #[.int .u64 r.cm, .bool true]) hwf (by simp) (Nat.zero_le _) (fun _ _ => rfl) (by simpa [c3] using hK)
    by_cases c4 : off = 20
    · have z1 : (off : Int) = 20 := by omega
      simp -dsimp (disch := omega) [c4, z1, hb, b3, -getElem?_pos]
      exact RetF.same (r := .tuple #[.int .u64 r.st, .bool true]) hwf (by simp) (Nat.zero_le _) (fun _ _ => rfl) (by simpa [c4] using hK)
    by_cases c5 : off = 24
    · have z1 : (off : Int) = 24 := by omega
      simp -dsimp (disch := omega) [c5, z1, hb]
      exact RetF.same (r := .tuple #[.int .u64 0, .bool true]) hwf (by simp) (Nat.zero_le _) (fun _ _ => rfl) (by simpa [c5] using hK)
    have n1 : ¬ (off : Int) = 16 := by omega
    have n2 : ¬ (off : Int) = 20 := by omega
    have n3 : ¬ (off : Int) = 24 := by omega
    rw [decide_eq_false (by omega)] at hK
    by_cases c8 : off = 8
    · subst c8
      simp -dsimp (disch := omega) [hb]
      exact RetF.same (r := .tuple #[.int .u64 0, .bool false]) hwf (by simp) (Nat.zero_le _) (fun _ _ => rfl) (by simpa using hK)
    have n8 : ¬ (off : Int) = 8 := by omega
    simp -dsimp (disch := omega) [c1, n1, n2, n3, n8, c8, c3, c4, c5]
    exact RetF.same (r := .tuple #[.int .u64 0, .bool false]) hwf (by simp) (Nat.zero_le _) (fun _ _ => rfl) (by simpa using hK)
  · rw [decide_eq_false (by omega)] at hK
    by_cases c8 : off = 8
    · have w8 : ¬ w = 8 := fun e => c2 ⟨c8, e⟩
      have z1 : (off : Int) = 8 := by omega
      simp -dsimp (disch := omega) [c8, z1, w8, w4]
      exact RetF.same (r := .tuple #[.int .u64 0, .bool false]) hwf (by simp) (Nat.zero_le _) (fun _ _ => rfl) (by simpa using hK)
    have z1 : ¬ (off : Int) = 8 := by omega
    simp -dsimp (disch := omega) [c8, z1, w4]
    exact RetF.same (r := .tuple #[.int .u64 0, .bool false]) hwf (by simp) (Nat.zero_le _) (fun _ _ => rfl) (by simpa using hK)
end
end Go.Proofs.Ytkbiadobkheafaa
