/-
  A block device: its registers.
-/
import Derived.Test.YtkbiadobkheafaaF
import Derived.Test.YtkbiadobkheafaaM21
set_option linter.unusedSimpArgs false
set_option linter.unusedVariables false
set_option linter.unusedSectionVars false
namespace Go.Proofs.Ytkbiadobkheafaa
open Go Go.Mini Go.Proofs.Try
set_option maxRecDepth 100000

def tb0 : Nat → Marks := fun _ => ⟨[], fun _ => True⟩
@[simp] theorem tb0_l (k : Nat) : (tb0 k).l = [] := id rfl
abbrev ptr (p : Nat) : Value := .pointer (some ⟨p, 0, none⟩)
/-- Registers; the command that runs; how it stands, ticks left, delay; the bytes of all sectors. -/
structure Dev where
  rs : Nat
  rc : Nat
  ra : Nat
  us : Nat
  uc : Nat
  ua : Nat
  st : Nat
  lf : Nat
  dl : Nat
  S : Nat → Nat
structure Dev.ok (d : Dev) : Prop where
  rs : d.rs < 4294967296
  rc : d.rc < 4294967296
  ra : d.ra < 18446744073709551616
  us : d.us < 4294967296
  uc : d.uc < 4294967296
  ua : d.ua < 18446744073709551616
  st : d.st < 4
  lf : d.lf < 4294967296
  dl : d.dl < 4294967296
  S : ∀ i, d.S i < 256
  run : d.st = 1 → 0 < d.lf
def cell (d : Dev) (i : Nat) : Value :=
  if i = 0 then .bool true else if i = 1 then .int .u32 d.rs else if i = 2 then .int .u32 d.rc else if i = 3 then .int .u64 d.ra
  else if i = 4 then .int .u32 d.us else if i = 5 then .int .u32 d.uc else if i = 6 then .int .u64 d.ua else if i = 7 then .int .u8 d.st
  else if i = 8 then .int .u32 d.lf else if i = 9 then .int .u32 d.dl else .int .u8 (d.S (i - 10))
def devC (d : Dev) : Array Value := ((List.range 2058).map (cell d)).toArray
@[simp] theorem devC_size (d : Dev) : (devC d).size = 2058 := by simp [devC]
theorem devC_at (d : Dev) {i : Nat} (h : i < 2058) : (devC d)[i]? = some (cell d i) := by
  unfold devC
  rw [List.getElem?_toArray, List.getElem?_map, List.getElem?_range h]
  rfl
theorem devC_0 (d : Dev) : (devC d)[0]? = some (.bool true) := devC_at d (by omega)
theorem devC_1 (d : Dev) : (devC d)[1]? = some (.int .u32 d.rs) := devC_at d (by omega)
theorem devC_2 (d : Dev) : (devC d)[2]? = some (.int .u32 d.rc) := devC_at d (by omega)
theorem devC_3 (d : Dev) : (devC d)[3]? = some (.int .u64 d.ra) := devC_at d (by omega)
theorem devC_7 (d : Dev) : (devC d)[7]? = some (.int .u8 d.st) := devC_at d (by omega)
theorem devC_8 (d : Dev) : (devC d)[8]? = some (.int .u32 d.lf) := devC_at d (by omega)
theorem devC_9 (d : Dev) : (devC d)[9]? = some (.int .u32 d.dl) := devC_at d (by omega)
theorem devC_S (d : Dev) {i : Nat} (h : i < 2048) : (devC d)[10 + i]? = some (.int .u8 (d.S i)) := by
  rw [devC_at d (by omega)]; unfold cell
  rw [if_neg (by omega), if_neg (by omega), if_neg (by omega), if_neg (by omega), if_neg (by omega), if_neg (by omega), if_neg (by omega), if_neg (by omega), if_neg (by omega), if_neg (by omega), show 10 + i - 10 = i by omega]
/-- Cells are set. -/
theorem devC_ext {d : Dev} {a : Array Value} (hs : a.size = 2058) (h : ∀ i, i < 2058 → a[i]? = some (cell d i)) : a = devC d := by
  apply Array.ext_getElem?
  intro i
  by_cases hi : i < 2058
  · rw [h i hi, devC_at d hi]
  · rw [Array.getElem?_eq_none (by omega), Array.getElem?_eq_none (by simp; omega)]
theorem devC_set {d d' : Dev} {k : Nat} {v : Value} (hk : k < 2058) (hv : cell d' k = v) (h : ∀ i, i < 2058 → i ≠ k → cell d' i = cell d i) : (devC d).setIfInBounds k v = devC d' := by
  refine devC_ext (by simp) fun i hi => ?_
  rw [Array.getElem?_setIfInBounds]
  split
  · rename_i e
    subst e
    rw [if_pos (by simpa using hk), hv]
  · rename_i e
    rw [devC_at d hi, h i hi (fun e' => e e'.symm)]
theorem devC_set1 (d : Dev) (n : Nat) : (devC d).setIfInBounds 1 (.int .u32 n) = devC { d with rs := n } := devC_set (by omega) rfl fun i _ h => by unfold cell; (repeat' split) <;> first | rfl | omega
theorem devC_set2 (d : Dev) (n : Nat) : (devC d).setIfInBounds 2 (.int .u32 n) = devC { d with rc := n } := devC_set (by omega) rfl fun i _ h => by unfold cell; (repeat' split) <;> first | rfl | omega
theorem devC_set3 (d : Dev) (n : Nat) : (devC d).setIfInBounds 3 (.int .u64 n) = devC { d with ra := n } := devC_set (by omega) rfl fun i _ h => by unfold cell; (repeat' split) <;> first | rfl | omega
theorem devC_set7 (d : Dev) (n : Nat) : (devC d).setIfInBounds 7 (.int .u8 n) = devC { d with st := n } := devC_set (by omega) rfl fun i _ h => by unfold cell; (repeat' split) <;> first | rfl | omega
theorem devC_set8 (d : Dev) (n : Nat) : (devC d).setIfInBounds 8 (.int .u32 n) = devC { d with lf := n } := devC_set (by omega) rfl fun i _ h => by unfold cell; (repeat' split) <;> first | rfl | omega
theorem devC_set9 (d : Dev) (n : Nat) : (devC d).setIfInBounds 9 (.int .u32 n) = devC { d with dl := n } := devC_set (by omega) rfl fun i _ h => by unfold cell; (repeat' split) <;> first | rfl | omega

theorem set_same {h : Hp} {p : Nat} {b : Blk} (hb : h.blks p = some b) : h.set p b = h := by
  have : (h.set p b).blks = h.blks := by
    funext i
    rw [Hp.blks_set]
    split
    · rename_i e; rw [e, hb]
    · rfl
  cases h
  simp only [Hp.set] at this ⊢
  simp [this]
def mayD (off : Nat) (w : Int) : Bool := decide ((off = 0 ∧ w = 4) ∨ (off = 8 ∧ w = 8) ∨ (off = 16 ∧ w = 4) ∨ (off = 20 ∧ w = 4) ∨ (off = 24 ∧ w = 4))
def readD (d : Dev) (off : Nat) (w : Int) : Nat := if mayD off w = false then 0 else if off = 0 then d.rs else if off = 8 then d.ra else if off = 16 then d.rc else if off = 20 then d.st else 0
def beginD (d : Dev) (c : Nat) : Dev := if d.st = 1 then d else { d with rc := c, us := d.rs, uc := c, ua := d.ra, st := 1, lf := max d.dl 1 }
def ackD (d : Dev) : Dev := if d.st = 1 then d else { d with st := 0 }
def writeD (d : Dev) (off v : Nat) : Dev := if off = 0 then { d with rs := v % 4294967296 } else if off = 8 then { d with ra := v } else if off = 16 then beginD d (v % 4294967296) else if off = 24 then ackD d else d
section
variable {h : Hp} {K : Value → Hp → Prop} {p : Nat} {d : Dev}
theorem is_call (hb : h.blks p = some ⟨devC d, 1, true⟩) (hK : K (.bool true) h) : ACall prog 30 [ptr p] h K := by
  refine acallF_of tb0 func30 rfl rfl mixed (by kernel_rfl) fun hwf => ?_
  simp -dsimp (disch := omega) [hb, devC_0]
  exact RetF.same hwf (by simp) (Nat.zero_le _) (fun _ _ => rfl) hK
theorem read_call {off : Nat} {w : Int} (hb : h.blks p = some ⟨devC d, 1, true⟩) (hd : d.ok) (ho : off < 18446744073709551616) (hK : K (.tuple #[.int .u64 (readD d off w : Nat), .bool (mayD off w)]) h) : ACall prog 32 [ptr p, .int .u64 off, .int .i64 w] h K := by
  refine acallF_of tb0 func32 rfl rfl mixed (by kernel_rfl) fun hwf => ?_
  obtain ⟨d1, d2, d3, -, -, -, d7, -, -, -, -⟩ := hd
  simp -dsimp (disch := omega) [hb, devC_0]
  refine is_call hb ?_
  simp -dsimp (disch := omega) [hb]
  unfold readD mayD at hK
  by_cases c1 : off = 0 ∧ w = 4
  · have z1 : (off : Int) = 0 := by omega
    have z2 : w = 4 := c1.2
    simp -dsimp (disch := omega) [c1.1, z1, z2, hb, devC_1]
    exact RetF.same (r := .tuple #[.int .u64 d.rs, .bool true]) hwf (by simp) (Nat.zero_le _) (fun _ _ => rfl) (by simpa [c1.1, c1.2] using hK)
  by_cases c2 : off = 8 ∧ w = 8
  · have z1 : (off : Int) = 8 := by omega
    have z2 : w = 8 := c2.2
    simp -dsimp (disch := omega) [c2.1, z1, z2, hb, devC_3]
    exact RetF.same (r := .tuple #[.int .u64 d.ra, .bool true]) hwf (by simp) (Nat.zero_le _) (fun _ _ => rfl) (by simpa [c2.1, c2.2] using hK)
  by_cases c3 : off = 16 ∧ w = 4
  · have z1 : (off : Int) = 16 := by omega
    have z2 : w = 4 := c3.2
    simp -dsimp (disch := omega) [c3.1, z1, z2, hb, devC_2]
    exact RetF.same (r := .tuple #[.int .u64 d.rc, .bool true]) hwf (by simp) (Nat.zero_le _) (fun _ _ => rfl) (by simpa [c3.1, c3.2] using hK)
  by_cases c4 : off = 20 ∧ w = 4
  · have z1 : (off : Int) = 20 := by omega
    have z2 : w = 4 := c4.2
    simp -dsimp (disch := omega) [c4.1, z1, z2, hb, devC_7]
    exact RetF.same (r := .tuple #[.int .u64 d.st, .bool true]) hwf (by simp) (Nat.zero_le _) (fun _ _ => rfl) (by simpa [c4.1, c4.2] using hK)
  by_cases c5 : off = 24 ∧ w = 4
  · have z1 : (off : Int) = 24 := by omega
    have z2 : w = 4 := c5.2
    simp -dsimp (disch := omega) [c5.1, z1, z2, hb]
    exact RetF.same (r := .tuple #[.int .u64 0, .bool true]) hwf (by simp) (Nat.zero_le _) (fun _ _ => rfl) (by simpa [c5.1, c5.2] using hK)
  rw [decide_eq_false (by omega)] at hK
  by_cases w4 : w = 4
  · have n0 : ¬ off = 0 := fun e => c1 ⟨e, w4⟩
    have n1 : ¬ (off : Int) = 16 := fun e => c3 ⟨by omega, w4⟩
    have n2 : ¬ (off : Int) = 20 := fun e => c4 ⟨by omega, w4⟩
    have n3 : ¬ (off : Int) = 24 := fun e => c5 ⟨by omega, w4⟩
    have w8 : ¬ w = 8 := by omega
    simp -dsimp (disch := omega) [n0, n1, n2, n3, w4]
    exact RetF.same (r := .tuple #[.int .u64 0, .bool false]) hwf (by simp) (Nat.zero_le _) (fun _ _ => rfl) (by simpa using hK)
  by_cases w8 : w = 8
  · have n0 : ¬ (off : Int) = 8 := fun e => c2 ⟨by omega, w8⟩
    simp -dsimp (disch := omega) [n0, w8]
    exact RetF.same (r := .tuple #[.int .u64 0, .bool false]) hwf (by simp) (Nat.zero_le _) (fun _ _ => rfl) (by simpa using hK)
  simp -dsimp (disch := omega) [w4, w8]
  exact RetF.same (r := .tuple #[.int .u64 0, .bool false]) hwf (by simp) (Nat.zero_le _) (fun _ _ => rfl) (by simpa using hK)
theorem reads_call {off want : Nat} {w : Int} (hb : h.blks p = some ⟨devC d, 1, true⟩) (hd : d.ok) (ho : off < 18446744073709551616) (hK : K (.bool (mayD off w && decide (readD d off w = want))) h) : ACall prog 13 [ptr p, .int .u64 off, .int .i64 w, .int .u64 want] h K := by
  refine acallF_of tb0 func13 rfl rfl mixed (by kernel_rfl) fun hwf => ?_
  simp -dsimp (disch := omega)
  refine read_call hb hd ho ?_
  by_cases c : mayD off w = true
  · rw [c] at hK ⊢
    by_cases c2 : readD d off w = want
    · rw [decide_eq_true c2] at hK
      simp -dsimp (disch := omega) [c2]
      exact RetF.same hwf (by simp) (Nat.zero_le _) (fun _ _ => rfl) hK
    · have c2' : ¬ ((readD d off w : Nat) : Int) = want := by omega
      rw [decide_eq_false c2] at hK
      simp -dsimp (disch := omega) [c2, c2']
      exact RetF.same hwf (by simp) (Nat.zero_le _) (fun _ _ => rfl) hK
  · rw [Bool.not_eq_true] at c
    rw [c] at hK ⊢
    simp -dsimp (disch := omega)
    exact RetF.same hwf (by simp) (Nat.zero_le _) (fun _ _ => rfl) hK
theorem setDelay_call {n : Nat} (hb : h.blks p = some ⟨devC d, 1, true⟩) (hK : K (.tuple #[]) (h.set p ⟨devC { d with dl := n }, 1, true⟩)) : ACall prog 15 [ptr p, .int .u32 n] h K := by
  refine acallF_of tb0 func15 rfl rfl mixed (by kernel_rfl) fun hwf => ?_
  simp -dsimp (disch := omega)
  refine is_call hb ?_
  simp -dsimp (disch := omega) [hb, devC_set9]
  exact RetF.all (by simp) hK
theorem level_call (hb : h.blks p = some ⟨devC d, 1, true⟩) (hd : d.ok) (hK : K (.bool (decide (1 < d.st))) h) : ACall prog 19 [ptr p] h K := by
  refine acallF_of tb0 func19 rfl rfl mixed (by kernel_rfl) fun hwf => ?_
  simp -dsimp (disch := omega)
  refine is_call hb ?_
  have d7 := hd.st
  by_cases c2 : d.st = 2
  · rw [decide_eq_true (by omega)] at hK
    simp -dsimp (disch := omega) [hb, devC_7, c2]
    exact RetF.same hwf (by simp) (Nat.zero_le _) (fun _ _ => rfl) hK
  by_cases c3 : d.st = 3
  · rw [decide_eq_true (by omega)] at hK
    simp -dsimp (disch := omega) [hb, devC_7, c3]
    exact RetF.same hwf (by simp) (Nat.zero_le _) (fun _ _ => rfl) hK
  have c2' : ¬ (d.st : Int) = 2 := by omega
  have c3' : ¬ (d.st : Int) = 3 := by omega
  rw [decide_eq_false (by omega)] at hK
  simp -dsimp (disch := omega) [hb, devC_7, c2, c3, c2', c3']
  exact RetF.same hwf (by simp) (Nat.zero_le _) (fun _ _ => rfl) hK
theorem ack_call (hb : h.blks p = some ⟨devC d, 1, true⟩) (hK : K (.tuple #[]) (h.set p ⟨devC (ackD d), 1, true⟩)) : ACall prog 34 [ptr p] h K := by
  refine acallF_of tb0 func34 rfl rfl mixed (by kernel_rfl) fun hwf => ?_
  unfold ackD at hK
  by_cases c : d.st = 1
  · rw [if_pos c] at hK
    have e : h.set p ⟨devC d, 1, true⟩ = h := set_same hb
    rw [e] at hK
    simp -dsimp (disch := omega) [hb, devC_7, c]
    exact RetF.all (by simp) hK
  · rw [if_neg c] at hK
    have c' : ¬ (d.st : Int) = 1 := by omega
    have e := devC_set7 d 0
    simp -dsimp (disch := omega) [hb, devC_7, c, c', e]
    exact RetF.all (by simp) hK
end
end Go.Proofs.Ytkbiadobkheafaa
