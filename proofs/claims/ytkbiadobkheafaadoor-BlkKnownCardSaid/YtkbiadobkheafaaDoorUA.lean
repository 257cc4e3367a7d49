/-
  The zero of a device (2058 cells). A block device: its registers. A block device: a command begins; Write. A block device: New, Copy, Sector, Reset. A block device: Copy. A block device: Sector. A block device: Reset.
-/
import Derived.Test.YtkbiadobkheafaaDoorF
import Derived.Test.YtkbiadobkheafaaDoorM21
set_option linter.unusedSimpArgs false
set_option linter.unusedVariables false
set_option linter.unusedSectionVars false

namespace Go.Proofs.YtkbiadobkheafaaDoor
open Go Go.Mini Go.Proofs.Tryd
set_option maxRecDepth 100000

theorem zeroOf_of {P : Program} {ty : TypeId} {l : List Value} (h1 : (P.info? ty).bind (·.zero) = some (.agg l.toArray)) (h2 : ∀ v ∈ l, (vtop v == 0 && v.oneCell') = true) : zeroOf P ty = some l.toArray := by
  have e : okZero l.toArray = true := by
    unfold okZero
    rw [List.all_toArray]
    exact List.all_eq_true.2 h2
  unfold zeroOf
  rw [h1]
  show (if okZero l.toArray then some l.toArray else none) = _
  rw [if_pos e]
def zL : List Value := [.int .u32 0, .int .u32 0, .int .u64 0, .int .u32 0, .int .u32 0, .int .u64 0, .int .u8 0, .int .u32 0, .int .u32 0] ++ List.replicate 2048 (.int .u8 0)
theorem zL_ok : ∀ v ∈ zL, (vtop v == 0 && v.oneCell') = true := by
  intro v hv
  rcases List.mem_append.1 hv with h | h
  · simp only [List.mem_cons, List.not_mem_nil, or_false] at h
    rcases h with rfl | rfl | rfl | rfl | rfl | rfl | rfl | rfl | rfl <;> rfl
  · rw [List.eq_of_mem_replicate h]; rfl
theorem info_50 : (prog.info? 50).bind (·.zero) = some (.agg zL.toArray) := by kernel_rfl
@[simp] theorem zeroOf_50 : zeroOf prog 50 = some zL.toArray := zeroOf_of info_50 zL_ok
theorem info_52 : (prog.info? 52).bind (·.zero) = some (.agg (.bool false :: zL).toArray) := by kernel_rfl
@[simp] theorem zeroOf_52 : zeroOf prog 52 = some (.bool false :: zL).toArray := zeroOf_of info_52 fun v hv => by
  rcases List.mem_cons.1 hv with rfl | h
  · rfl
  · exact zL_ok v h
theorem zL_len : zL.length = 2057 := by simp [zL]
theorem zL_at {i : Nat} (h : i < 2048) : zL[9 + i]? = some (.int .u8 0) := by
  unfold zL
  rw [List.getElem?_append_right (by simp), List.getElem?_replicate]
  simp [h]
end Go.Proofs.YtkbiadobkheafaaDoor
namespace Go.Proofs.YtkbiadobkheafaaDoor
open Go Go.Mini Go.Proofs.Tryd
set_option maxRecDepth 100000

def tb0 : Nat → Marks := fun _ => ⟨[], fun _ => True⟩
@[simp] theorem tb0_l (k : Nat) : (tb0 k).l = [] := id rfl
abbrev ptr (p : Nat) : Value := .pointer (some ⟨p, 0, none⟩)
/-- Registers; the command that runs; how it stands, ticks left, delay; the bytes of all sectors. -/
structure Dev where
  rs : Nat
  rc : Nat
  ra : Nat
  us : Nat
  uc : Nat
  ua : Nat
  st : Nat
  lf : Nat
  dl : Nat
  S : Nat → Nat
structure Dev.ok (d : Dev) : Prop where
  rs : d.rs < 4294967296
  rc : d.rc < 4294967296
  ra : d.ra < 18446744073709551616
  us : d.us < 4294967296
  uc : d.uc < 4294967296
  ua : d.ua < 18446744073709551616
  st : d.st < 4
  lf : d.lf < 4294967296
  dl : d.dl < 4294967296
  S : ∀ i, d.S i < 256
  run : d.st = 1 → 0 < d.lf
def cell (d : Dev) (i : Nat) : Value :=
  if i = 0 then .bool true else if i = 1 then .int .u32 d.rs else if i = 2 then .int .u32 d.rc else if i = 3 then .int .u64 d.ra
  else if i = 4 then .int .u32 d.us else if i = 5 then .int .u32 d.uc else if i = 6 then .int .u64 d.ua else if i = 7 then .int .u8 d.st
  else if i = 8 then .int .u32 d.lf else if i = 9 then .int .u32 d.dl else .int .u8 (d.S (i - 10))
def devC (d : Dev) : Array Value := ((List.range 2058).map (cell d)).toArray
@[simp] theorem devC_size (d : Dev) : (devC d).size = 2058 := by simp [devC]
theorem devC_at (d : Dev) {i : Nat} (h : i < 2058) : (devC d)[i]? = some (cell d i) := by
  unfold devC
  rw [List.getElem?_toArray, List.getElem?_map, List.getElem?_range h]
  rfl
theorem devC_0 (d : Dev) : (devC d)[0]? = some (.bool true) := devC_at d (by omega)
theorem devC_1 (d : Dev) : (devC d)[1]? = some (.int .u32 d.rs) := devC_at d (by omega)
theorem devC_2 (d : Dev) : (devC d)[2]? = some (.int .u32 d.rc) := devC_at d (by omega)
theorem devC_3 (d : Dev) : (devC d)[3]? = some (.int .u64 d.ra) := devC_at d (by omega)
theorem devC_7 (d : Dev) : (devC d)[7]? = some (.int .u8 d.st) := devC_at d (by omega)
theorem devC_8 (d : Dev) : (devC d)[8]? = some (.int .u32 d.lf) := devC_at d (by omega)
theorem devC_9 (d : Dev) : (devC d)[9]? = some (.int .u32 d.dl) := devC_at d (by omega)
theorem devC_S (d : Dev) {i : Nat} (h : i < 2048) : (devC d)[10 + i]? = some (.int .u8 (d.S i)) := by
  rw [devC_at d (by omega)]; unfold cell
  rw [if_neg (by omega), if_neg (by omega), if_neg (by omega), if_neg (by omega), if_neg (by omega), if_neg (by omega), if_neg (by omega), if_neg (by omega), if_neg (by omega), if_neg (by omega), show 10 + i - 10 = i by omega]
/-- Cells are set. -/
theorem devC_ext {d : Dev} {a : Array Value} (hs : a.size = 2058) (h : ∀ i, i < 2058 → a[i]? = some (cell d i)) : a = devC d := by
  apply Array.ext_getElem?
  intro i
  by_cases hi : i < 2058
  · rw [h i hi, devC_at d hi]
  · rw [Array.getElem?_eq_none (by omega), Array.getElem?_eq_none (by simp; omega)]
theorem devC_set {d d' : Dev} {k : Nat} {v : Value} (hk : k < 2058) (hv : cell d' k = v) (h : ∀ i, i < 2058 → i ≠ k → cell d' i = cell d i) : (devC d).setIfInBounds k v = devC d' := by
  refine devC_ext (by simp) fun i hi => ?_
  rw [Array.getElem?_setIfInBounds]
  split
  · rename_i e
    subst e
    rw [if_pos (by simpa using hk), hv]
  · rename_i e
    rw [devC_at d hi, h i hi (fun e' => e e'.symm)]
theorem devC_set1 (d : Dev) (n : Nat) : (devC d).setIfInBounds 1 (.int .u32 n) = devC { d with rs := n } := devC_set (by omega) rfl fun i _ h => by unfold cell; (repeat' split) <;> first | rfl | omega
theorem devC_set2 (d : Dev) (n : Nat) : (devC d).setIfInBounds 2 (.int .u32 n) = devC { d with rc := n } := devC_set (by omega) rfl fun i _ h => by unfold cell; (repeat' split) <;> first | rfl | omega
theorem devC_set3 (d : Dev) (n : Nat) : (devC d).setIfInBounds 3 (.int .u64 n) = devC { d with ra := n } := devC_set (by omega) rfl fun i _ h => by unfold cell; (repeat' split) <;> first | rfl | omega
theorem devC_set7 (d : Dev) (n : Nat) : (devC d).setIfInBounds 7 (.int .u8 n) = devC { d with st := n } := devC_set (by omega) rfl fun i _ h => by unfold cell; (repeat' split) <;> first | rfl | omega
theorem devC_set8 (d : Dev) (n : Nat) : (devC d).setIfInBounds 8 (.int .u32 n) = devC { d with lf := n } := devC_set (by omega) rfl fun i _ h => by unfold cell; (repeat' split) <;> first | rfl | omega
theorem devC_set9 (d : Dev) (n : Nat) : (devC d).setIfInBounds 9 (.int .u32 n) = devC { d with dl := n } := devC_set (by omega) rfl fun i _ h => by unfold cell; (repeat' split) <;> first | rfl | omega

theorem set_same {h : Hp} {p : Nat} {b : Blk} (hb : h.blks p = some b) : h.set p b = h := by
  have : (h.set p b).blks = h.blks := by
    funext i
    rw [Hp.blks_set]
    split
    · rename_i e; rw [e, hb]
    · rfl
  cases h
  simp only [Hp.set] at this ⊢
  simp [this]
def mayD (off : Nat) (w : Int) : Bool := decide ((off = 0 ∧ w = 4) ∨ (off = 8 ∧ w = 8) ∨ (off = 16 ∧ w = 4) ∨ (off = 20 ∧ w = 4) ∨ (off = 24 ∧ w = 4))
def readD (d : Dev) (off : Nat) (w : Int) : Nat := if mayD off w = false then 0 else if off = 0 then d.rs else if off = 8 then d.ra else if off = 16 then d.rc else if off = 20 then d.st else 0
def beginD (d : Dev) (c : Nat) : Dev := if d.st = 1 then d else { d with rc := c, us := d.rs, uc := c, ua := d.ra, st := 1, lf := max d.dl 1 }
def ackD (d : Dev) : Dev := if d.st = 1 then d else { d with st := 0 }
def writeD (d : Dev) (off v : Nat) : Dev := if off = 0 then { d with rs := v % 4294967296 } else if off = 8 then { d with ra := v } else if off = 16 then beginD d (v % 4294967296) else if off = 24 then ackD d else d
section
variable {h : Hp} {K : Value → Hp → Prop} {p : Nat} {d : Dev}
theorem is_call (hb : h.blks p = some ⟨devC d, 1, true⟩) (hK : K (.bool true) h) : ACall prog 30 [ptr p] h K := by
  refine acallF_of tb0 func30 rfl rfl mixed (by kernel_rfl) fun hwf => ?_
  simp -dsimp (disch := omega) [hb, devC_0]
  exact RetF.same hwf (by simp) (Nat.zero_le _) (fun _ _ => rfl) hK
theorem read_call {off : Nat} {w : Int} (hb : h.blks p = some ⟨devC d, 1, true⟩) (hd : d.ok) (ho : off < 18446744073709551616) (hK : K (.tuple #[.int .u64 (readD d off w : Nat), .bool (mayD off w)]) h) : ACall prog 15 [ptr p, .int .u64 off, .int .i64 w] h K := by
  refine acallF_of tb0 func15 rfl rfl mixed (by kernel_rfl) fun hwf => ?_
  obtain ⟨d1, d2, d3, -, -, -, d7, -, -, -, -⟩ := hd
  simp -dsimp (disch := omega) [hb, devC_0]
  refine is_call hb ?_
  simp -dsimp (disch := omega) [hb]
  unfold readD mayD at hK
  by_cases c1 : off = 0 ∧ w = 4
  · have z1 : (off : Int) = 0 := by omega
    have z2 : w = 4 := c1.2
    simp -dsimp (disch := omega) [c1.1, z1, z2, hb, devC_1]
    exact RetF.same (r := .tuple #[.int .u64 d.rs, .bool true]) hwf (by simp) (Nat.zero_le _) (fun _ _ => rfl) (by simpa [c1.1, c1.2] using hK)
  by_cases c2 : off = 8 ∧ w = 8
  · have z1 : (off : Int) = 8 := by omega
    have z2 : w = 8 := c2.2
    simp -dsimp (disch := omega) [c2.1, z1, z2, hb, devC_3]
    exact RetF.same (r := .tuple #[.int .u64 d.ra, .bool true]) hwf (by simp) (Nat.zero_le _) (fun _ _ => rfl) (by simpa [c2.1, c2.2] using hK)
  by_cases c3 : off = 16 ∧ w = 4
  · have z1 : (off : Int) = 16 := by omega
    have z2 : w = 4 := c3.2
    simp -dsimp (disch := omega) [c3.1, z1, z2, hb, devC_2]
    exact RetF.same (r := .tuple #[.int .u64 d.rc, .bool true]) hwf (by simp) (Nat.zero_le _) (fun _ _ => rfl) (by simpa [c3.1, c3.2] using hK)
  by_cases c4 : off = 20 ∧ w = 4
  · have z1 : (off : Int) = 20 := by omega
    have z2 : w = 4 := c4.2
    simp -dsimp (disch := omega) [c4.1, z1, z2, hb, devC_7]
    exact RetF.same (r := .tuple #[.int .u64 d.st, .bool true]) hwf (by simp) (Nat.zero_le _) (fun _ _ => rfl) (by simpa [c4.1, c4.2] using hK)
  by_cases c5 : off = 24 ∧ w = 4
  · have z1 : (off : Int) = 24 := by omega
    have z2 : w = 4 := c5.2
    simp -dsimp (disch := omega) [c5.1, z1, z2, hb]
    exact RetF.same (r := .tuple #[.int .u64 0, .bool true]) hwf (by simp) (Nat.zero_le _) (fun _ _ => rfl) (by simpa [c5.1, c5.2] using hK)
  rw [decide_eq_false (by omega)] at hK
  by_cases w4 : w = 4
  · have n0 : ¬ off = 0 := fun e => c1 ⟨e, w4⟩
    have n1 : ¬ (off : Int) = 16 := fun e => c3 ⟨by omega, w4⟩
    have n2 : ¬ (off : Int) = 20 := fun e => c4 ⟨by omega, w4⟩
    have n3 : ¬ (off : Int) = 24 := fun e => c5 ⟨by omega, w4⟩
    have w8 : ¬ w = 8 := by omega
    simp -dsimp (disch := omega) [n0, n1, n2, n3, w4]
    exact RetF.same (r := .tuple #[.int .u64 0, .bool false]) hwf (by simp) (Nat.zero_le _) (fun _ _ => rfl) (by simpa using hK)
  by_cases w8 : w = 8
  · have n0 : ¬ (off : Int) = 8 := fun e => c2 ⟨by omega, w8⟩
    simp -dsimp (disch := omega) [n0, w8]
    exact RetF.same (r := .tuple #[.int .u64 0, .bool false]) hwf (by simp) (Nat.zero_le _) (fun _ _ => rfl) (by simpa using hK)
  simp -dsimp (disch := omega) [w4, w8]
  exact RetF.same (r := .tuple #[.int .u64 0, .bool false]) hwf (by simp) (Nat.zero_le _) (fun _ _ => rfl) (by simpa using hK)
theorem reads_call {off want : Nat} {w : Int} (hb : h.blks p = some ⟨devC d, 1, true⟩) (hd : d.ok) (ho : off < 18446744073709551616) (hK : K (.bool (mayD off w && decide (readD d off w = want))) h) : ACall prog 8 [ptr p, .int .u64 off, .int .i64 w, .int .u64 want] h K := by
  refine acallF_of tb0 func8 rfl rfl mixed (by kernel_rfl) fun hwf => ?_
  simp -dsimp (disch := omega)
  refine read_call hb hd ho ?_
  by_cases c : mayD off w = true
  · rw [c] at hK ⊢
    by_cases c2 : readD d off w = want
    · rw [decide_eq_true c2] at hK
      simp -dsimp (disch := omega) [c2]
      exact RetF.same hwf (by simp) (Nat.zero_le _) (fun _ _ => rfl) hK
    · have c2' : ¬ ((readD d off w : Nat) : Int) = want := by omega
      rw [decide_eq_false c2] at hK
      simp -dsimp (disch := omega) [c2, c2']
      exact RetF.same hwf (by simp) (Nat.zero_le _) (fun _ _ => rfl) hK
  · rw [Bool.not_eq_true] at c
    rw [c] at hK ⊢
    simp -dsimp (disch := omega)
    exact RetF.same hwf (by simp) (Nat.zero_le _) (fun _ _ => rfl) hK
theorem setDelay_call {n : Nat} (hb : h.blks p = some ⟨devC d, 1, true⟩) (hK : K (.tuple #[]) (h.set p ⟨devC { d with dl := n }, 1, true⟩)) : ACall prog 10 [ptr p, .int .u32 n] h K := by
  refine acallF_of tb0 func10 rfl rfl mixed (by kernel_rfl) fun hwf => ?_
  simp -dsimp (disch := omega)
  refine is_call hb ?_
  simp -dsimp (disch := omega) [hb, devC_set9]
  exact RetF.all (by simp) hK
theorem level_call (hb : h.blks p = some ⟨devC d, 1, true⟩) (hd : d.ok) (hK : K (.bool (decide (1 < d.st))) h) : ACall prog 9 [ptr p] h K := by
  refine acallF_of tb0 func9 rfl rfl mixed (by kernel_rfl) fun hwf => ?_
  simp -dsimp (disch := omega)
  refine is_call hb ?_
  have d7 := hd.st
  by_cases c2 : d.st = 2
  · rw [decide_eq_true (by omega)] at hK
    simp -dsimp (disch := omega) [hb, devC_7, c2]
    exact RetF.same hwf (by simp) (Nat.zero_le _) (fun _ _ => rfl) hK
  by_cases c3 : d.st = 3
  · rw [decide_eq_true (by omega)] at hK
    simp -dsimp (disch := omega) [hb, devC_7, c3]
    exact RetF.same hwf (by simp) (Nat.zero_le _) (fun _ _ => rfl) hK
  have c2' : ¬ (d.st : Int) = 2 := by omega
  have c3' : ¬ (d.st : Int) = 3 := by omega
  rw [decide_eq_false (by omega)] at hK
  simp -dsimp (disch := omega) [hb, devC_7, c2, c3, c2', c3']
  exact RetF.same hwf (by simp) (Nat.zero_le _) (fun _ _ => rfl) hK
theorem ack_call (hb : h.blks p = some ⟨devC d, 1, true⟩) (hK : K (.tuple #[]) (h.set p ⟨devC (ackD d), 1, true⟩)) : ACall prog 29 [ptr p] h K := by
  refine acallF_of tb0 func29 rfl rfl mixed (by kernel_rfl) fun hwf => ?_
  unfold ackD at hK
  by_cases c : d.st = 1
  · rw [if_pos c] at hK
    have e : h.set p ⟨devC d, 1, true⟩ = h := set_same hb
    rw [e] at hK
    simp -dsimp (disch := omega) [hb, devC_7, c]
    exact RetF.all (by simp) hK
  · rw [if_neg c] at hK
    have c' : ¬ (d.st : Int) = 1 := by omega
    have e := devC_set7 d 0
    simp -dsimp (disch := omega) [hb, devC_7, c, c', e]
    exact RetF.all (by simp) hK
end
end Go.Proofs.YtkbiadobkheafaaDoor
namespace Go.Proofs.YtkbiadobkheafaaDoor
open Go Go.Mini Go.Proofs.Tryd
set_option maxRecDepth 100000

theorem devC_regs (d : Dev) : (devC d).extract 1 4 = #[.int .u32 d.rs, .int .u32 d.rc, .int .u64 d.ra] := by
  apply Array.ext_getElem?
  intro i
  rw [Array.getElem?_extract]
  match i with
  | 0 => rw [if_pos (by simp), devC_1]; rfl
  | 1 => rw [if_pos (by simp), devC_2]; rfl
  | 2 => rw [if_pos (by simp), devC_3]; rfl
  | i + 3 => rw [if_neg (by simp)]; simp
theorem devC_set4 (d : Dev) (n : Nat) : (devC d).setIfInBounds 4 (.int .u32 n) = devC { d with us := n } := devC_set (by omega) rfl fun i _ h => by unfold cell; (repeat' split) <;> first | rfl | omega
theorem devC_set5 (d : Dev) (n : Nat) : (devC d).setIfInBounds 5 (.int .u32 n) = devC { d with uc := n } := devC_set (by omega) rfl fun i _ h => by unfold cell; (repeat' split) <;> first | rfl | omega
theorem devC_set6 (d : Dev) (n : Nat) : (devC d).setIfInBounds 6 (.int .u64 n) = devC { d with ua := n } := devC_set (by omega) rfl fun i _ h => by unfold cell; (repeat' split) <;> first | rfl | omega
theorem devC_st1 (d : Dev) : (devC d).setIfInBounds 7 (.int .u8 1) = devC { d with st := 1 } := devC_set7 d 1
section
variable {h : Hp} {K : Value → Hp → Prop} {p : Nat} {d : Dev}
theorem begin_call {c : Nat} (hb : h.blks p = some ⟨devC d, 1, true⟩) (hd : d.ok) (hc : c < 4294967296) (hK : K (.tuple #[]) (h.set p ⟨devC (beginD d c), 1, true⟩)) : ACall prog 28 [ptr p, .int .u32 c] h K := by
  refine acallF_of tb0 func28 rfl rfl mixed (by kernel_rfl) fun hwf => ?_
  unfold beginD at hK
  by_cases e : d.st = 1
  · rw [if_pos e, set_same hb] at hK
    simp -dsimp (disch := omega) [hb, devC_7, e]
    exact RetF.all (by simp) hK
  · rw [if_neg e] at hK
    have e' : ¬ (d.st : Int) = 1 := by omega
    have s2 := devC_set2 d c
    have d9 := hd.dl
    simp -dsimp (disch := omega) [hb, devC_7, e, e', s2, devC_regs, devC_9, devC_set4, devC_set5, devC_set6, devC_st1]
    have hm : (if (d.dl : Int) < 1 then (1 : Int) else d.dl) = ((max d.dl 1 : Nat) : Int) := by split <;> omega
    refine RetF.all (r := .tuple #[]) (by simp) ?_
    rw [hm, devC_set8]
    exact hK
theorem wrap32 (v : Nat) : IntKind.u32.wrap (v : Int) = ((v % 4294967296 : Nat) : Int) := by simp [IntKind.wrap, IntKind.bits, IntKind.signed]
theorem write_call {off v : Nat} {w : Int} (hb : h.blks p = some ⟨devC d, 1, true⟩) (hd : d.ok) (ho : off < 18446744073709551616) (hv : v < 18446744073709551616) (h1 : mayD off w = false → K (.bool false) h) (h2 : mayD off w = true → K (.bool true) (h.set p ⟨devC (writeD d off v), 1, true⟩)) : ACall prog 7 [ptr p, .int .u64 off, .int .u64 v, .int .i64 w] h K := by
  refine acallF_of tb0 func7 rfl rfl mixed (by kernel_rfl) fun hwf => ?_
  simp -dsimp (disch := omega)
  refine read_call hb hd ho ?_
  have e32 := wrap32 v
  have m32 : v % 4294967296 < 4294967296 := Nat.mod_lt _ (by omega)
  by_cases c : mayD off w = true
  · have h2 := h2 c
    unfold writeD at h2
    have c2 := c
    unfold mayD at c2
    have c3 := of_decide_eq_true c2
    rw [c]
    generalize readD d off w = rr at *
    generalize v % 4294967296 = m at *
    by_cases k1 : off = 0
    · rw [if_pos k1] at h2
      simp -dsimp (disch := omega) [hb, k1, e32, devC_set1]
      exact RetF.all (r := .bool true) (by simp) h2
    rw [if_neg k1] at h2
    by_cases k2 : off = 8
    · rw [if_pos k2] at h2
      have z : (off : Int) = 8 := by omega
      simp -dsimp (disch := omega) [hb, k1, k2, z, devC_set3]
      exact RetF.all (r := .bool true) (by simp) h2
    rw [if_neg k2] at h2
    have z2 : ¬ (off : Int) = 8 := by omega
    by_cases k3 : off = 16
    · rw [if_pos k3] at h2
      have z : (off : Int) = 16 := by omega
      simp -dsimp (disch := omega) [hb, k1, z2, k3, z, e32]
      refine begin_call hb hd m32 ?_
      simp -dsimp (disch := omega)
      exact RetF.all (r := .bool true) (by simp) h2
    rw [if_neg k3] at h2
    have z3 : ¬ (off : Int) = 16 := by omega
    by_cases k4 : off = 24
    · rw [if_pos k4] at h2
      have z : (off : Int) = 24 := by omega
      simp -dsimp (disch := omega) [hb, k1, z2, z3, k4, z]
      refine ack_call hb ?_
      simp -dsimp (disch := omega)
      exact RetF.all (r := .bool true) (by simp) h2
    rw [if_neg k4, set_same hb] at h2
    have z4 : ¬ (off : Int) = 24 := by omega
    simp -dsimp (disch := omega) [k1, z2, z3, z4]
    exact RetF.all (r := .bool true) (by simp) h2
  · rw [Bool.not_eq_true] at c
    have h1 := h1 c
    rw [c]
    simp -dsimp (disch := omega)
    exact RetF.all (r := .bool false) (by simp) h1
end
end Go.Proofs.YtkbiadobkheafaaDoor
namespace Go.Proofs.YtkbiadobkheafaaDoor
open Go Go.Mini Go.Proofs.Tryd
set_option maxRecDepth 100000

def dev0 : Dev := ⟨0, 0, 0, 0, 0, 0, 0, 0, 0, fun _ => 0⟩
theorem dev0_ok : dev0.ok := ⟨by decide, by decide, by decide, by decide, by decide, by decide, by decide, by decide, by decide, fun _ => by show 0 < 256; omega, fun h => by cases h⟩
theorem dev0_C : devC dev0 = (.bool true :: zL).toArray := by
  refine (devC_ext (by simp [zL_len]) fun i hi => ?_).symm
  rw [List.getElem?_toArray]
  match i with
  | 0 => rfl
  | 1 => rfl
  | 2 => rfl
  | 3 => rfl
  | 4 => rfl
  | 5 => rfl
  | 6 => rfl
  | 7 => rfl
  | 8 => rfl
  | 9 => rfl
  | i + 10 =>
    rw [List.getElem?_cons_succ, Nat.add_comm i 9, zL_at (by omega)]
    unfold cell
    rw [if_neg (by omega), if_neg (by omega), if_neg (by omega), if_neg (by omega), if_neg (by omega), if_neg (by omega), if_neg (by omega), if_neg (by omega), if_neg (by omega), if_neg (by omega)]
    rfl
theorem oneAll_zL : oneAll zL = true := by kernel_rfl
theorem oneAll_dev (d : Dev) : oneAll (devC d).toList = true := by
  have h : ∀ l : List Value, (∀ v ∈ l, v.oneCell' = true) → oneAll l = true := by
    intro l
    induction l with
    | nil => intro _; rfl
    | cons v l ih => intro h; rw [oneAll_cons, h v (by simp), ih fun w hw => h w (by simp [hw])]; rfl
  refine h _ fun v hv => ?_
  unfold devC at hv
  simp only [List.mem_map] at hv
  obtain ⟨i, _, rfl⟩ := hv
  unfold cell
  (repeat' split) <;> rfl
theorem devC_whole (d : Dev) : (devC d).extract 0 2058 = devC d := by
  have := Array.extract_size (xs := devC d)
  rwa [devC_size] at this
section
variable {h : Hp} {K : Value → Hp → Prop} {p : Nat} {d : Dev}
theorem new_call (hK : K (ptr h.next) (h.alloc ⟨devC dev0, 1, true⟩)) : ACall prog 20 [] h K := by
  refine acallF_of tb0 func20 rfl rfl mixed (by kernel_rfl) fun hwf => ?_
  simp -dsimp (disch := omega) [oneAll_zL]
  rw [dev0_C] at hK
  exact RetF.all (r := ptr h.next) (by simp) hK
end
end Go.Proofs.YtkbiadobkheafaaDoor
namespace Go.Proofs.YtkbiadobkheafaaDoor
open Go Go.Mini Go.Proofs.Tryd
set_option maxRecDepth 100000
theorem putL_full {cs cs' : Array Value} (h : cs.size = cs'.size) : putL cs 0 cs'.toList = cs' := by
  apply Array.ext_getElem?
  intro j
  rw [getElem?_putL]
  by_cases hj : j < cs'.size
  · rw [if_pos ⟨by omega, by simpa using hj, by omega⟩]; simp
  · rw [if_neg (by simp; omega), Array.getElem?_eq_none (by omega), Array.getElem?_eq_none (by omega)]
section
variable {h : Hp} {K : Value → Hp → Prop} {p : Nat} {d : Dev}
theorem copy_call (hb : h.blks p = some ⟨devC d, 1, true⟩) (hK : K (ptr h.next) (h.alloc ⟨devC d, 1, true⟩)) : ACall prog 17 [ptr p] h K := by
  refine acallF_of tb0 func17 rfl rfl mixed (by kernel_rfl) fun hwf => ?_
  simp -dsimp (disch := omega)
  refine is_call hb ?_
  obtain ⟨c, hc⟩ : ∃ c, c = devC d := ⟨_, rfl⟩
  have cs : c.size = 2058 := by rw [hc]; simp
  have ce : c.extract 0 2058 = c := by rw [hc]; exact devC_whole d
  have co : oneAll c.toList = true := by rw [hc]; exact oneAll_dev d
  have cp : putL (Value.bool false :: zL).toArray 0 c.toList = c := putL_full (by rw [cs]; simp [zL_len])
  rw [← hc] at hb hK
  clear hc
  simp -dsimp (disch := omega) [hb, cs, ce, co, zL_len, cp]
  exact RetF.all (r := ptr h.next) (by simp) hK
end
end Go.Proofs.YtkbiadobkheafaaDoor
namespace Go.Proofs.YtkbiadobkheafaaDoor
open Go Go.Mini Go.Proofs.Tryd
set_option maxRecDepth 100000

def secM (d : Dev) (n : Nat) : Nat → Nat := fun i => d.S (n * 64 + i)
theorem devC_sec (d : Dev) {n : Nat} (hn : n < 32) : (devC d).extract (10 + n * 64) (10 + n * 64 + 64) = mem 64 (secM d n) := by
  refine mem_ext (by simp; omega) fun i hi => ?_
  rw [Array.getElem?_extract, if_pos (by simp; omega), show 10 + n * 64 + i = 10 + (n * 64 + i) by omega, devC_S d (by omega)]
  rfl
section
variable {h : Hp} {K : Value → Hp → Prop} {p : Nat} {d : Dev}
theorem sector_no {n : Int} (hb : h.blks p = some ⟨devC d, 1, true⟩) (hn : n < 0 ∨ 32 ≤ n) (hK : K (.tuple #[.string (txt []), .bool false]) h) : ACall prog 16 [ptr p, .int .i64 n] h K := by
  refine acallF_of tb0 func16 rfl rfl mixed (by kernel_rfl) fun hwf => ?_
  simp -dsimp (disch := omega)
  refine is_call hb ?_
  by_cases c1 : n < 0
  · simp -dsimp (disch := omega) [c1]
    exact RetF.same (r := .tuple #[.string (txt []), .bool false]) hwf (by simp) (Nat.zero_le _) (fun _ _ => rfl) hK
  · have c2 : 32 ≤ n := by omega
    simp -dsimp (disch := omega) [c1, c2]
    exact RetF.same (r := .tuple #[.string (txt []), .bool false]) hwf (by simp) (Nat.zero_le _) (fun _ _ => rfl) hK
theorem sector_call {n : Nat} (hb : h.blks p = some ⟨devC d, 1, true⟩) (hd : d.ok) (hn : n < 32) (hK : K (.tuple #[.string (txt ((List.range 64).map fun i => UInt8.ofNat (secM d n i))), .bool true]) h) : ACall prog 16 [ptr p, .int .i64 n] h K := by
  refine acallF_of tb0 func16 rfl rfl mixed (by kernel_rfl) fun hwf => ?_
  simp -dsimp (disch := omega)
  refine is_call hb ?_
  have c1 : ¬ (n : Int) < 0 := by omega
  have c2 : ¬ 32 ≤ n := by omega
  have c3 : ¬ (32 : Int) ≤ n := by omega
  obtain ⟨c, hc⟩ : ∃ c, c = devC d := ⟨_, rfl⟩
  have cs : c.size = 2058 := by rw [hc]; simp
  have ce : c.extract (10 + n * 64) (10 + n * 64 + 64) = mem 64 (secM d n) := by rw [hc]; exact devC_sec d hn
  rw [← hc] at hb
  clear hc
  obtain ⟨e, he⟩ : ∃ e, e = mem 64 (secM d n) := ⟨_, rfl⟩
  have es : e.size = 64 := by rw [he]; simp
  have S8 := hd.S
  have el : e = (((List.range 64).map fun i => UInt8.ofNat (secM d n i)).map byteV).toArray := by
    rw [he]
    refine (mem_ext (by simp) fun i hi => ?_).symm
    rw [List.getElem?_toArray, List.getElem?_map, List.getElem?_map, List.getElem?_range hi]
    have := S8 (n * 64 + i)
    simp [byteV, secM, Nat.mod_eq_of_lt this]
  have eo : oneAll e.toList = true := by
    rw [el]
    have h : ∀ l : List UInt8, oneAll (l.map byteV) = true := by
      intro l
      induction l with
      | nil => rfl
      | cons v l ih => rw [List.map_cons, oneAll_cons, ih]; rfl
    exact h _
  have eS : strOf e.toList = some ((List.range 64).map fun i => UInt8.ofNat (secM d n i)) := by rw [el]; simp only [strOf_bytes]
  have ee : e.extract 0 64 = e := by have := Array.extract_size (xs := e); rwa [es] at this
  have sl : ∀ b, asliceRow ⟨b, 0, none⟩ 1 64 128 none none none = some (.slice (some ⟨b, 0, none⟩) 64 128) := fun b => rfl
  have ep : putL (repV 64 (Value.int IntKind.u8 0)) 0 e.toList = e := putL_full (by rw [es]; simp [repV])
  have er : (repV 64 (Value.int IntKind.u8 0)).size = 64 := by simp [repV]
  rw [← he] at ce
  simp -dsimp (disch := omega) [hb, cs, ce, c1, c2, c3, es, eo, ep, er, eS, ee, sl]
  exact RetF.same (r := .tuple #[.string (txt ((List.range 64).map fun i => UInt8.ofNat (secM d n i))), .bool true]) hwf (by simp) (Nat.zero_le _) (fun i hi => by simp (disch := omega)) hK
end
end Go.Proofs.YtkbiadobkheafaaDoor
namespace Go.Proofs.YtkbiadobkheafaaDoor
open Go Go.Mini Go.Proofs.Tryd
set_option maxRecDepth 100000

def resetD (d : Dev) : Dev := { dev0 with dl := d.dl, S := d.S }
def resR (d : Dev) : Array Value := putL (zL.set 8 (.int .u32 d.dl)).toArray 9 ((devC d).extract 10 2058).toList
theorem resR_size (d : Dev) : (resR d).size = 2057 := by simp [resR, zL_len]
theorem resR_at (d : Dev) {j : Nat} (hj : j < 2057) : (resR d)[j]? = some (cell (resetD d) (j + 1)) := by
  unfold resR
  rw [getElem?_putL]
  match j with
  | 0 => rfl
  | 1 => rfl
  | 2 => rfl
  | 3 => rfl
  | 4 => rfl
  | 5 => rfl
  | 6 => rfl
  | 7 => rfl
  | 8 => rfl
  | k + 9 =>
    rw [if_pos ⟨by omega, by simp; omega, by simp [zL_len]; omega⟩, Array.getElem?_toList, Array.getElem?_extract, if_pos (by simp; omega), show 10 + (k + 9 - 9) = 10 + k by omega, devC_S d (by omega)]
    unfold cell
    rw [if_neg (by omega), if_neg (by omega), if_neg (by omega), if_neg (by omega), if_neg (by omega), if_neg (by omega), if_neg (by omega), if_neg (by omega), if_neg (by omega), if_neg (by omega), show k + 9 + 1 - 10 = k by omega]
    rfl
theorem res_cells (d : Dev) : putL (devC d) 1 (resR d).toList = devC (resetD d) := by
  refine devC_ext (by simp) fun i hi => ?_
  rw [getElem?_putL]
  match i with
  | 0 => rw [if_neg (by omega), devC_0]; rfl
  | j + 1 => rw [if_pos ⟨by omega, by simp [resR_size]; omega, by simp; omega⟩, Array.getElem?_toList, show j + 1 - 1 = j by omega, resR_at d (by omega)]
section
variable {h : Hp} {K : Value → Hp → Prop} {p : Nat} {d : Dev}
theorem reset_call (hb : h.blks p = some ⟨devC d, 1, true⟩) (hK : K (.tuple #[]) (h.set p ⟨devC (resetD d), 1, true⟩)) : ACall prog 19 [ptr p] h K := by
  refine acallF_of tb0 func19 rfl rfl mixed (by kernel_rfl) fun hwf => ?_
  simp -dsimp (disch := omega)
  refine is_call hb ?_
  obtain ⟨c, hc⟩ : ∃ c, c = devC d := ⟨_, rfl⟩
  have cs : c.size = 2058 := by rw [hc]; simp
  have c9 : c[9]? = some (.int .u32 d.dl) := by rw [hc]; exact devC_9 d
  obtain ⟨m, hm⟩ : ∃ m, m = c.extract 10 2058 := ⟨_, rfl⟩
  have ms : m.size = 2048 := by rw [hm]; simp [cs]
  obtain ⟨r, hr⟩ : ∃ r, r = putL (zL.set 8 (.int .u32 d.dl)).toArray 9 m.toList := ⟨_, rfl⟩
  have rs : r.size = 2057 := by rw [hr]; simp [zL_len]
  have rr : r = resR d := by rw [hr, hm, hc]; rfl
  have ro : oneAll r.toList = true := by
    have h : ∀ l : List Value, (∀ v ∈ l, v.oneCell' = true) → oneAll l = true := by
      intro l
      induction l with
      | nil => intro _; rfl
      | cons v l ih => intro h; rw [oneAll_cons, h v (by simp), ih fun w hw => h w (by simp [hw])]; rfl
    refine h _ fun v hv => ?_
    obtain ⟨j, hj⟩ := List.mem_iff_getElem?.1 hv
    rw [Array.getElem?_toList] at hj
    have hlt : j < 2057 := by
      rcases Nat.lt_or_ge j 2057 with h | h
      · exact h
      · rw [Array.getElem?_eq_none (by omega)] at hj; cases hj
    rw [rr, resR_at d hlt] at hj
    cases hj
    unfold cell
    (repeat' split) <;> rfl
  have rc : putL c 1 r.toList = devC (resetD d) := by rw [rr, hc]; exact res_cells d
  rw [← hc] at hb
  simp -dsimp (disch := omega) [hb, cs, c9, ← hm, ms, zL_len, ← hr, rs, ro, rc, -getElem?_pos]
  exact RetF.all (r := .tuple #[]) (by simp) hK
end
end Go.Proofs.YtkbiadobkheafaaDoor
