/-
  The document's device: its cells; Read, Write, Reset, Bytes. The document's device: Write, Reset, Bytes. The document's device: numbers as texts; Text. The document's device: a command ends; Tick. A device with its memory, and the document's: what they have in common stays.
-/
import Derived.Test.YtkbiadobkheafaaDoorVA
import Derived.Test.YtkbiadobkheafaaDoorGB
set_option linter.unusedSimpArgs false
set_option linter.unusedVariables false
set_option linter.unusedSectionVars false

namespace Go.Proofs.YtkbiadobkheafaaDoor
open Go Go.Mini Go.Proofs.Tryd
set_option maxRecDepth 100000

/-- Registers; how it stands; the command that runs; ticks left, delay; what was written to the sectors. -/
structure Rd where
  se : Nat
  cm : Nat
  ad : Nat
  st : Nat
  wh : Nat
  wt : Nat
  we : Nat
  lf : Nat
  dl : Nat
  L : Nat → List UInt8
structure Rd.ok (r : Rd) : Prop where
  se : r.se < 4294967296
  cm : r.cm < 4294967296
  ad : r.ad < 18446744073709551616
  st : r.st < 4
  wh : r.wh < 4294967296
  wt : r.wt < 4294967296
  we : r.we < 18446744073709551616
  lf : r.lf < 4294967296
  dl : r.dl < 4294967296
  L : ∀ n, r.L n = [] ∨ (r.L n).length = 64
def rcell (r : Rd) (i : Nat) : Value :=
  if i = 0 then .int .u32 r.se else if i = 1 then .int .u32 r.cm else if i = 2 then .int .u64 r.ad else if i = 3 then .int .i64 r.st
  else if i = 4 then .int .u32 r.wh else if i = 5 then .int .u32 r.wt else if i = 6 then .int .u64 r.we else if i = 7 then .int .u32 r.lf
  else if i = 8 then .int .u32 r.dl else .string (txt (r.L (i - 9)))
def refC (r : Rd) : Array Value := ((List.range 41).map (rcell r)).toArray
@[simp] theorem refC_size (r : Rd) : (refC r).size = 41 := by simp [refC]
theorem refC_at (r : Rd) {i : Nat} (h : i < 41) : (refC r)[i]? = some (rcell r i) := by
  unfold refC
  rw [List.getElem?_toArray, List.getElem?_map, List.getElem?_range h]
  rfl
theorem refC_L (r : Rd) {n : Nat} (h : n < 32) : (refC r)[9 + n]? = some (.string (txt (r.L n))) := by
  rw [refC_at r (by omega)]; unfold rcell
  rw [if_neg (by omega), if_neg (by omega), if_neg (by omega), if_neg (by omega), if_neg (by omega), if_neg (by omega), if_neg (by omega), if_neg (by omega), if_neg (by omega), show 9 + n - 9 = n by omega]
theorem refC_ext {r : Rd} {a : Array Value} (hs : a.size = 41) (h : ∀ i, i < 41 → a[i]? = some (rcell r i)) : a = refC r := by
  apply Array.ext_getElem?
  intro i
  rcases Nat.lt_or_ge i 41 with hi | hi
  · rw [h i hi, refC_at r hi]
  · rw [Array.getElem?_eq_none (by omega), Array.getElem?_eq_none (by simp; omega)]
theorem refC_set {r r' : Rd} {k : Nat} {v : Value} (hk : k < 41) (hv : rcell r' k = v) (h : ∀ i, i < 41 → i ≠ k → rcell r' i = rcell r i) : (refC r).setIfInBounds k v = refC r' := by
  refine refC_ext (by simp) fun i hi => ?_
  rw [Array.getElem?_setIfInBounds]
  split
  · rename_i e
    subst e
    rw [if_pos (by simpa using hk), hv]
  · rename_i e
    rw [refC_at r hi, h i hi (fun e' => e e'.symm)]
theorem refC_s0 (r : Rd) (n : Nat) : (refC r).setIfInBounds 0 (.int .u32 n) = refC { r with se := n } := refC_set (by omega) rfl fun i _ h => by unfold rcell; (repeat' split) <;> first | rfl | omega
theorem refC_s1 (r : Rd) (n : Nat) : (refC r).setIfInBounds 1 (.int .u32 n) = refC { r with cm := n } := refC_set (by omega) rfl fun i _ h => by unfold rcell; (repeat' split) <;> first | rfl | omega
theorem refC_s2 (r : Rd) (n : Nat) : (refC r).setIfInBounds 2 (.int .u64 n) = refC { r with ad := n } := refC_set (by omega) rfl fun i _ h => by unfold rcell; (repeat' split) <;> first | rfl | omega
theorem refC_s3 (r : Rd) (n : Nat) : (refC r).setIfInBounds 3 (.int .i64 n) = refC { r with st := n } := refC_set (by omega) rfl fun i _ h => by unfold rcell; (repeat' split) <;> first | rfl | omega
theorem refC_s4 (r : Rd) (n : Nat) : (refC r).setIfInBounds 4 (.int .u32 n) = refC { r with wh := n } := refC_set (by omega) rfl fun i _ h => by unfold rcell; (repeat' split) <;> first | rfl | omega
theorem refC_s5 (r : Rd) (n : Nat) : (refC r).setIfInBounds 5 (.int .u32 n) = refC { r with wt := n } := refC_set (by omega) rfl fun i _ h => by unfold rcell; (repeat' split) <;> first | rfl | omega
theorem refC_s6 (r : Rd) (n : Nat) : (refC r).setIfInBounds 6 (.int .u64 n) = refC { r with we := n } := refC_set (by omega) rfl fun i _ h => by unfold rcell; (repeat' split) <;> first | rfl | omega
theorem refC_s7 (r : Rd) (n : Nat) : (refC r).setIfInBounds 7 (.int .u32 n) = refC { r with lf := n } := refC_set (by omega) rfl fun i _ h => by unfold rcell; (repeat' split) <;> first | rfl | omega
theorem refC_s8 (r : Rd) (n : Nat) : (refC r).setIfInBounds 8 (.int .u32 n) = refC { r with dl := n } := refC_set (by omega) rfl fun i _ h => by unfold rcell; (repeat' split) <;> first | rfl | omega
def updL (L : Nat → List UInt8) (n : Nat) (s : List UInt8) : Nat → List UInt8 := fun i => if i = n then s else L i
theorem refC_sL (r : Rd) {n : Nat} (hn : n < 32) (s : List UInt8) : (refC r).setIfInBounds (9 + n) (.string (txt s)) = refC { r with L := updL r.L n s } := by
  refine refC_set (by omega) ?_ fun i hi h => ?_
  · unfold rcell updL
    rw [if_neg (by omega), if_neg (by omega), if_neg (by omega), if_neg (by omega), if_neg (by omega), if_neg (by omega), if_neg (by omega), if_neg (by omega), if_neg (by omega)]
    simp only
    rw [if_pos (by omega)]
  · rcases Nat.lt_or_ge i 9 with c | c
    · rcases (by omega : i = 0 ∨ i = 1 ∨ i = 2 ∨ i = 3 ∨ i = 4 ∨ i = 5 ∨ i = 6 ∨ i = 7 ∨ i = 8) with rfl | rfl | rfl | rfl | rfl | rfl | rfl | rfl | rfl <;> rfl
    · unfold rcell updL
      rw [if_neg (by omega), if_neg (by omega), if_neg (by omega), if_neg (by omega), if_neg (by omega), if_neg (by omega), if_neg (by omega), if_neg (by omega), if_neg (by omega), if_neg (by omega), if_neg (by omega), if_neg (by omega), if_neg (by omega), if_neg (by omega), if_neg (by omega), if_neg (by omega), if_neg (by omega), if_neg (by omega)]
      simp only
      rw [if_neg (by omega)]
/-- What is read. -/
def rreadR (r : Rd) (off : Nat) (w : Int) : Nat := if mayD off w = false then 0 else if off = 0 then r.se else if off = 8 then r.ad else if off = 16 then r.cm else if off = 20 then r.st else 0
def rbeginR (r : Rd) (c : Nat) : Rd := if r.st = 1 then r else { r with cm := c, wh := r.se, wt := c, we := r.ad, lf := r.dl, st := 1 }
def rackR (r : Rd) : Rd := if r.st = 2 ∨ r.st = 3 then { r with st := 0 } else r
def rwriteR (r : Rd) (off v : Nat) : Rd := if off = 0 then { r with se := v % 4294967296 } else if off = 8 then { r with ad := v } else if off = 16 then rbeginR r (v % 4294967296) else if off = 24 then rackR r else r
def r0 : Rd := ⟨0, 0, 0, 0, 0, 0, 0, 0, 0, fun _ => []⟩
def rresetR (r : Rd) : Rd := { r0 with dl := r.dl, L := r.L }
def rbytes (r : Rd) (n : Nat) : List UInt8 := if r.L n = [] then List.replicate 64 0 else r.L n
section
variable {h : Hp} {K : Value → Hp → Prop} {q : Nat} {r : Rd}
theorem rRead_call {off : Nat} {w : Int} (hb : h.blks q = some ⟨refC r, 1, true⟩) (hd : r.ok) (ho : off < 18446744073709551616) (hK : K (.tuple #[.int .u64 (rreadR r off w : Nat), .bool (mayD off w)]) h) : ACall prog 38 [ptr q, .int .u64 off, .int .i64 w] h K := by
  refine acallF_of tb0 func38 rfl rfl mixed (by kernel_rfl) fun hwf => ?_
  have b0 := refC_at r (i := 0) (by omega)
  have b1 := refC_at r (i := 1) (by omega)
  have b2 := refC_at r (i := 2) (by omega)
  have b3 := refC_at r (i := 3) (by omega)
  rw [show rcell r 0 = .int .u32 r.se from rfl] at b0
  rw [show rcell r 1 = .int .u32 r.cm from rfl] at b1
  rw [show rcell r 2 = .int .u64 r.ad from rfl] at b2
  rw [show rcell r 3 = .int .i64 r.st from rfl] at b3
  obtain ⟨c, hc⟩ : ∃ c, c = refC r := ⟨_, rfl⟩
  rw [← hc] at b0 b1 b2 b3 hb
  clear hc
  have h0 := hd.se
  have h1 := hd.cm
  have h3 := hd.st
  unfold rreadR mayD at hK
  by_cases c2 : off = 8 ∧ w = 8
  · have z1 : (off : Int) = 8 := by omega
    have z2 : w = 8 := c2.2
    simp -dsimp (disch := omega) [c2.1, z1, z2, hb, b2, -getElem?_pos]
    exact RetF.same (r := .tuple #[.int .u64 r.ad, .bool true]) hwf (by simp) (Nat.zero_le _) (fun _ _ => rfl) (by simpa [c2.1, c2.2] using hK)
  by_cases w4 : w = 4
  · subst w4
    have c2' : ¬ ((off : Int) = 8 ∧ (4 : Int) = 8) := by omega
    by_cases c1 : off = 0
    · simp -dsimp (disch := omega) [c1, hb, b0, -getElem?_pos]
      exact RetF.same (r := .tuple #[.int .u64 r.se, .bool true]) hwf (by simp) (Nat.zero_le _) (fun _ _ => rfl) (by simpa [c1] using hK)
    by_cases c3 : off = 16
    · have z1 : (off : Int) = 16 := by omega
      simp -dsimp (disch := omega) [c3, z1, hb, b1, -getElem?_pos]
      exact RetF.same (r := .tuple #[.int .u64 r.cm, .bool true]) hwf (by simp) (Nat.zero_le _) (fun _ _ => rfl) (by simpa [c3] using hK)
    by_cases c4 : off = 20
    · have z1 : (off : Int) = 20 := by omega
      simp -dsimp (disch := omega) [c4, z1, hb, b3, -getElem?_pos]
      exact RetF.same (r := .tuple #[.int .u64 r.st, .bool true]) hwf (by simp) (Nat.zero_le _) (fun _ _ => rfl) (by simpa [c4] using hK)
    by_cases c5 : off = 24
    · have z1 : (off : Int) = 24 := by omega
      simp -dsimp (disch := omega) [c5, z1, hb]
      exact RetF.same (r := .tuple #[.int .u64 0, .bool true]) hwf (by simp) (Nat.zero_le _) (fun _ _ => rfl) (by simpa [c5] using hK)
    have n1 : ¬ (off : Int) = 16 := by omega
    have n2 : ¬ (off : Int) = 20 := by omega
    have n3 : ¬ (off : Int) = 24 := by omega
    rw [decide_eq_false (by omega)] at hK
    by_cases c8 : off = 8
    · subst c8
      simp -dsimp (disch := omega) [hb]
      exact RetF.same (r := .tuple #[.int .u64 0, .bool false]) hwf (by simp) (Nat.zero_le _) (fun _ _ => rfl) (by simpa using hK)
    have n8 : ¬ (off : Int) = 8 := by omega
    simp -dsimp (disch := omega) [c1, n1, n2, n3, n8, c8, c3, c4, c5]
    exact RetF.same (r := .tuple #[.int .u64 0, .bool false]) hwf (by simp) (Nat.zero_le _) (fun _ _ => rfl) (by simpa using hK)
  · rw [decide_eq_false (by omega)] at hK
    by_cases c8 : off = 8
    · have w8 : ¬ w = 8 := fun e => c2 ⟨c8, e⟩
      have z1 : (off : Int) = 8 := by omega
      simp -dsimp (disch := omega) [c8, z1, w8, w4]
      exact RetF.same (r := .tuple #[.int .u64 0, .bool false]) hwf (by simp) (Nat.zero_le _) (fun _ _ => rfl) (by simpa using hK)
    have z1 : ¬ (off : Int) = 8 := by omega
    simp -dsimp (disch := omega) [c8, z1, w4]
    exact RetF.same (r := .tuple #[.int .u64 0, .bool false]) hwf (by simp) (Nat.zero_le _) (fun _ _ => rfl) (by simpa using hK)
end
end Go.Proofs.YtkbiadobkheafaaDoor
namespace Go.Proofs.YtkbiadobkheafaaDoor
open Go Go.Mini Go.Proofs.Tryd
set_option maxRecDepth 100000

theorem refC_0 (r : Rd) : (refC r)[0]? = some (.int .u32 r.se) := refC_at r (by omega)
theorem refC_1 (r : Rd) : (refC r)[1]? = some (.int .u32 r.cm) := refC_at r (by omega)
theorem refC_2 (r : Rd) : (refC r)[2]? = some (.int .u64 r.ad) := refC_at r (by omega)
theorem refC_3 (r : Rd) : (refC r)[3]? = some (.int .i64 r.st) := refC_at r (by omega)
theorem refC_4 (r : Rd) : (refC r)[4]? = some (.int .u32 r.wh) := refC_at r (by omega)
theorem refC_5 (r : Rd) : (refC r)[5]? = some (.int .u32 r.wt) := refC_at r (by omega)
theorem refC_6 (r : Rd) : (refC r)[6]? = some (.int .u64 r.we) := refC_at r (by omega)
theorem refC_7 (r : Rd) : (refC r)[7]? = some (.int .u32 r.lf) := refC_at r (by omega)
theorem refC_8 (r : Rd) : (refC r)[8]? = some (.int .u32 r.dl) := refC_at r (by omega)
theorem refC_st1 (r : Rd) : (refC r).setIfInBounds 3 (.int .i64 1) = refC { r with st := 1 } := refC_s3 r 1
theorem refC_st0 (r : Rd) : (refC r).setIfInBounds 3 (.int .i64 0) = refC { r with st := 0 } := refC_s3 r 0
theorem refC_st2 (r : Rd) : (refC r).setIfInBounds 3 (.int .i64 2) = refC { r with st := 2 } := refC_s3 r 2
theorem refC_st3 (r : Rd) : (refC r).setIfInBounds 3 (.int .i64 3) = refC { r with st := 3 } := refC_s3 r 3
section
variable {h : Hp} {K : Value → Hp → Prop} {q : Nat} {r : Rd}
theorem rset_same {b : Blk} (hb : h.blks q = some b) : h.set q b = h := set_same hb
set_option maxHeartbeats 1000000 in
theorem rWrite_call {off v : Nat} {w : Int} (hb : h.blks q = some ⟨refC r, 1, true⟩) (hd : r.ok) (ho : off < 18446744073709551616) (hv : v < 18446744073709551616) (hK : K (.bool (mayD off w)) (h.set q ⟨refC (if mayD off w = true then rwriteR r off v else r), 1, true⟩)) : ACall prog 39 [ptr q, .int .u64 off, .int .u64 v, .int .i64 w] h K := by
  refine acallF_of tb0 func39 rfl rfl mixed (by kernel_rfl) fun hwf => ?_
  simp -dsimp (disch := omega)
  refine rRead_call hb hd ho ?_
  have m32 : v % 4294967296 < 4294967296 := Nat.mod_lt _ (by omega)
  have e32 : (v : Int) % 4294967296 = ((v % 4294967296 : Nat) : Int) := by omega
  have h3 := hd.st
  by_cases c : mayD off w = true
  · rw [c, if_pos rfl] at hK
    unfold rwriteR at hK
    have c2 := c
    unfold mayD at c2
    have c3 := of_decide_eq_true c2
    rw [c]
    generalize rreadR r off w = rr at *
    generalize v % 4294967296 = m at *
    by_cases k1 : off = 0
    · rw [if_pos k1] at hK
      simp -dsimp (disch := omega) [hb, k1, e32, refC_s0]
      exact RetF.all (r := .bool true) (by simp) hK
    rw [if_neg k1] at hK
    by_cases k2 : off = 8
    · rw [if_pos k2] at hK
      have z : (off : Int) = 8 := by omega
      simp -dsimp (disch := omega) [hb, k1, k2, z, refC_s2]
      exact RetF.all (r := .bool true) (by simp) hK
    rw [if_neg k2] at hK
    have z2 : ¬ (off : Int) = 8 := by omega
    by_cases k3 : off = 16
    · rw [if_pos k3] at hK
      have z : (off : Int) = 16 := by omega
      unfold rbeginR at hK
      by_cases hs : r.st = 1
      · rw [if_pos hs, set_same hb] at hK
        simp -dsimp (disch := omega) [hb, k1, z2, k3, z, e32, refC_3, hs, -getElem?_pos]
        exact RetF.all (r := .bool true) (by simp) hK
      · rw [if_neg hs] at hK
        have hs' : ¬ (r.st : Int) = 1 := by omega
        simp -dsimp (disch := omega) [hb, k1, z2, k3, z, e32, refC_0, refC_1, refC_2, refC_3, refC_8, hs, hs', refC_s1, refC_s4, refC_s5, refC_s6, refC_s7, refC_st1, -getElem?_pos]
        exact RetF.all (r := .bool true) (by simp) hK
    rw [if_neg k3] at hK
    have z3 : ¬ (off : Int) = 16 := by omega
    by_cases k4 : off = 24
    · rw [if_pos k4] at hK
      have z : (off : Int) = 24 := by omega
      unfold rackR at hK
      by_cases hs2 : r.st = 2
      · rw [if_pos (.inl hs2)] at hK
        simp -dsimp (disch := omega) [hb, k1, z2, z3, k4, z, refC_3, hs2, refC_st0, -getElem?_pos]
        exact RetF.all (r := .bool true) (by simp) hK
      · by_cases hs3 : r.st = 3
        · rw [if_pos (.inr hs3)] at hK
          simp -dsimp (disch := omega) [hb, k1, z2, z3, k4, z, refC_3, hs3, refC_st0, -getElem?_pos]
          exact RetF.all (r := .bool true) (by simp) hK
        · rw [if_neg (by omega), set_same hb] at hK
          have n2 : ¬ (r.st : Int) = 2 := by omega
          have n3 : ¬ (r.st : Int) = 3 := by omega
          simp -dsimp (disch := omega) [hb, k1, z2, z3, k4, z, refC_3, hs2, hs3, n2, n3, -getElem?_pos]
          exact RetF.all (r := .bool true) (by simp) hK
    rw [if_neg k4, set_same hb] at hK
    have z4 : ¬ (off : Int) = 24 := by omega
    simp -dsimp (disch := omega) [k1, z2, z3, z4]
    exact RetF.all (r := .bool true) (by simp) hK
  · rw [if_neg c, set_same hb] at hK
    rw [Bool.not_eq_true] at c
    rw [c] at hK ⊢
    simp -dsimp (disch := omega)
    exact RetF.all (r := .bool false) (by simp) hK
theorem rBytes_call {n : Nat} (hb : h.blks q = some ⟨refC r, 1, true⟩) (hn : n < 32) (hK : ∀ h', Ext h h' → K (.string (txt (rbytes r n))) h') : ACall prog 44 [ptr q, .int .i64 n] h K := by
  refine acallF_of tb0 func44 rfl rfl mixed (by kernel_rfl) fun hwf => ?_
  have bL := refC_L r hn
  have cs : (refC r).size = 41 := refC_size r
  obtain ⟨l, hl⟩ : ∃ l, l = r.L n := ⟨_, rfl⟩
  rw [← hl] at bL
  unfold rbytes at hK
  rw [← hl] at hK
  obtain ⟨c, hc⟩ : ∃ c, c = refC r := ⟨_, rfl⟩
  rw [← hc] at bL hb cs
  clear hc hl
  by_cases e : l = []
  · rw [if_pos e] at hK
    subst e
    simp -dsimp (disch := omega) [hb, bL, cs, -getElem?_pos]
    refine mk_row (n := 64) rfl rfl ⟨by unfold ROOM; omega, by unfold ROOM; omega⟩ ?_
    have ez : zeroRow #[.int .u8 0] 64 = ((List.replicate 64 (0 : UInt8)).map byteV).toArray := by
      rw [show zeroRow #[.int .u8 0] 64 = mem 64 (fun _ => 0) from by have := mem_zero 64; simpa using this]
      refine (mem_ext (by simp) fun i hi => ?_).symm
      rw [List.getElem?_toArray, List.getElem?_map, List.getElem?_replicate, if_pos hi]
      rfl
    obtain ⟨z, hz⟩ : ∃ z, z = (List.replicate 64 (0 : UInt8)) := ⟨_, rfl⟩
    have zl : z.length = 64 := by rw [hz]; simp
    rw [← hz] at ez hK
    have zx : ((z.map byteV).toArray).extract 0 64 = (z.map byteV).toArray := by
      have := Array.extract_size (xs := (z.map byteV).toArray)
      rwa [show (z.map byteV).toArray.size = 64 by simp [zl]] at this
    clear hz
    simp -dsimp (disch := omega) [ez, zl, zx]
    exact RetF.all (r := .string (txt z)) (by simp) (hK _ (Ext.alloc _ _))
  · rw [if_neg e] at hK
    simp -dsimp (disch := omega) [hb, bL, cs, e, -getElem?_pos]
    exact RetF.all (r := .string (txt l)) (by simp) (hK _ (Ext.refl _))
theorem rReset_call (hb : h.blks q = some ⟨refC r, 1, true⟩) (hK : K (.tuple #[]) (h.set q ⟨refC (rresetR r), 1, true⟩)) : ACall prog 41 [ptr q] h K := by
  refine acallF_of tb0 func41 rfl rfl mixed (by kernel_rfl) fun hwf => ?_
  have b8 := refC_8 r
  have cs : (refC r).size = 41 := refC_size r
  obtain ⟨c, hc⟩ : ∃ c, c = refC r := ⟨_, rfl⟩
  rw [← hc] at b8 hb cs
  obtain ⟨m, hm⟩ : ∃ m, m = c.extract 9 41 := ⟨_, rfl⟩
  have ms : m.size = 32 := by rw [hm]; simp [cs]
  have mat : ∀ j, j < 32 → m[j]? = some (.string (txt (r.L j))) := fun j hj => by
    rw [hm, hc, Array.getElem?_extract, if_pos (by simp; omega), refC_L r hj]
  have hX : ∀ Z : Array Value, Z.size = 41 → (∀ i, i < 9 → Z[i]? = some (rcell (rresetR r) i)) → putL Z 9 m.toList = refC (rresetR r) := fun Z h1 h2 => by
    refine refC_ext (by simpa using h1) fun i hi => ?_
    rw [getElem?_putL]
    rcases Nat.lt_or_ge i 9 with c9 | c9
    · rw [if_neg (by omega), h2 i c9]
    · rw [if_pos ⟨c9, by simp [ms]; omega, by omega⟩, Array.getElem?_toList, mat _ (by omega)]
      unfold rcell
      rw [if_neg (by omega), if_neg (by omega), if_neg (by omega), if_neg (by omega), if_neg (by omega), if_neg (by omega), if_neg (by omega), if_neg (by omega), if_neg (by omega)]
      rfl
  have hO : oneAll (refC (rresetR r)).toList = true := by
    have h : ∀ l : List Value, (∀ v ∈ l, v.oneCell' = true) → oneAll l = true := by
      intro l
      induction l with
      | nil => intro _; rfl
      | cons v l ih => intro h; rw [oneAll_cons, h v (by simp), ih fun w hw => h w (by simp [hw])]; rfl
    refine h _ fun v hv => ?_
    unfold refC at hv
    simp only [List.mem_map] at hv
    obtain ⟨i, _, rfl⟩ := hv
    unfold rcell
    (repeat' split) <;> rfl
  have hP : putL c 0 (refC (rresetR r)).toList = refC (rresetR r) := putL_full (by rw [cs]; simp)
  have hS : (refC (rresetR r)).size = 41 := by simp
  obtain ⟨X, hXx⟩ : ∃ X, X = refC (rresetR r) := ⟨_, rfl⟩
  rw [← hXx] at hO hP hS hK
  rw [← hXx] at hX
  simp -dsimp (disch := omega) [hb, b8, cs, ← hm, ms, -getElem?_pos]
  rw [hX]
  · simp -dsimp (disch := omega) [hb, hO, hP, hS, cs]
    exact RetF.all (r := .tuple #[]) (by simp) hK
  · rfl
  · intro i hi
    rcases (by omega : i = 0 ∨ i = 1 ∨ i = 2 ∨ i = 3 ∨ i = 4 ∨ i = 5 ∨ i = 6 ∨ i = 7 ∨ i = 8) with rfl | rfl | rfl | rfl | rfl | rfl | rfl | rfl | rfl <;> rfl
end
end Go.Proofs.YtkbiadobkheafaaDoor
namespace Go.Proofs.YtkbiadobkheafaaDoor
open Go Go.Mini Go.Proofs.Tryd
set_option maxRecDepth 100000

def digL (n : Nat) : List UInt8 := if n < 10 then [UInt8.ofNat (48 + n)] else digL (n / 10) ++ [UInt8.ofNat (48 + n % 10)]
termination_by n
decreasing_by omega
theorem digL_small {n : Nat} (h : n < 10) : digL n = [UInt8.ofNat (48 + n)] := by rw [digL, if_pos h]
theorem digL_big {n : Nat} (h : ¬ n < 10) : digL n = digL (n / 10) ++ [UInt8.ofNat (48 + n % 10)] := by rw [digL, if_neg h]
theorem digL_len : ∀ k n : Nat, n < 10 ^ (k + 1) → (digL n).length ≤ k + 1 := by
  intro k
  induction k with
  | zero => intro n h; rw [digL_small (by simpa using h)]; simp
  | succ k ih =>
    intro n h
    rcases Nat.lt_or_ge n 10 with h1 | h1
    · rw [digL_small h1]; simp
    · rw [digL_big (by omega), List.length_append]
      have := ih (n / 10) (by rw [Nat.pow_succ] at h; omega)
      simp only [List.length_cons, List.length_nil]
      omega
theorem digL_20 {n : Nat} (h : n < 18446744073709551616) : (digL n).length ≤ 20 := digL_len 19 n (by omega)
theorem strOf_one {D : Nat} (h : D < 256) : strOf [.int .u8 (D : Nat)] = some [UInt8.ofNat D] := by
  have := strOf_bytes [UInt8.ofNat D]
  have e : byteV (UInt8.ofNat D) = .int .u8 (D : Nat) := by unfold byteV; simp; omega
  simp only [List.map_cons, List.map_nil, e] at this
  exact this
section
variable {h : Hp} {K : Value → Hp → Prop}
theorem digits_call {n : Nat} (hn : n < 18446744073709551616) (hK : ∀ h', Ext h h' → K (.string (txt (digL n))) h') : ACall prog 62 [.int .u64 n] h K := by
  refine acallF_of tb0 func62 rfl rfl mixed (by kernel_rfl) fun hwf => ?_
  have hl := digL_20 hn
  simp -dsimp (disch := omega)
  refine awp_loop (fun t h' => Ext h h' ∧ ∃ (m : Nat) (acc : List UInt8), m < 18446744073709551616 ∧ digL n = digL m ++ acc ∧ t 0 = .int .u64 m ∧ t 3 = .string (txt acc)) (fun t _ => ivN (t 0)) ?_ ?_
  · simp -dsimp (disch := omega)
    exact ⟨Ext.refl _, n, hn, rfl, rfl⟩
  · rintro t h' ⟨he, m, acc, hm, hd, g0, g3⟩
    refine vcF_sound mixed (tb := tb0) _ (by kernel_rfl) ?_
    obtain ⟨D, hD⟩ : ∃ D, D = 48 + m % 10 := ⟨_, rfl⟩
    have hDi : (48 : Int) + (m : Int) % 10 = (D : Nat) := by omega
    have hD2 : D < 256 := by omega
    have s1 := strOf_one hD2
    have al : acc.length ≤ 20 := by have := congrArg List.length hd; rw [List.length_append] at this; omega
    have v1 : (txt [UInt8.ofNat D]).size = 1 := rfl
    have v2 : (txt acc).size = acc.length := rfl
    rcases Nat.lt_or_ge m 10 with h1 | h1
    · have q1 : (m : Int) / 10 = 0 := by omega
      have q2 : m / 10 = 0 := by omega
      simp -dsimp (disch := omega) [g0, g3, hDi, s1, q1, q2]
      refine RetF.all (r := .string (txt (digL n))) ?_ (hK _ (he.then_alloc _))
      rw [hd, digL_small h1, hD, Nat.mod_eq_of_lt h1]
      simp
    · have q1 : ¬ (m : Int) / 10 = 0 := by omega
      have q2 : ¬ m / 10 = 0 := by omega
      have q3 : (m : Int) / 10 = ((m / 10 : Nat) : Int) := by omega
      obtain ⟨m', hm'⟩ : ∃ m', m' = m / 10 := ⟨_, rfl⟩
      rw [← hm'] at q3 q2
      have q4 : ¬ (m' : Int) = 0 := by omega
      simp -dsimp (disch := omega) [g0, g3, hDi, s1, q3, q2, q4]
      refine ⟨⟨he.then_alloc _, m', by omega, ?_, rfl⟩, by simp [ivN]; omega⟩
      rw [hd, digL_big (by omega), hm', hD, List.append_assoc]
      rfl
/-- What the text tells of the ticks left. -/
def leftR (r : Rd) : Nat := if r.st = 1 then (if r.lf = 0 then 1 else r.lf) else 0
def textR (r : Rd) : List UInt8 := digL r.se ++ [32] ++ digL r.ad ++ [32] ++ digL r.cm ++ [32] ++ digL r.st ++ [32] ++ digL (leftR r) ++ [32] ++ digL r.dl
/-- Loads beside calls that only make new blocks. -/
def tbX : Nat → Marks := fun k => if k = 6 then ⟨[5, 10, 11, 17, 19, 25, 27, 32, 38, 1000000], fun _ => True⟩ else ⟨[], fun _ => True⟩
@[simp] theorem tbX_6 : (tbX 6).l = [5, 10, 11, 17, 19, 25, 27, 32, 38, 1000000] := rfl
@[simp] theorem tbX_0 : (tbX 0).l = [] := rfl
@[simp] theorem tbX_1 : (tbX 1).l = [] := rfl
@[simp] theorem tbX_2 : (tbX 2).l = [] := rfl
@[simp] theorem tbX_4 : (tbX 4).l = [] := rfl
theorem dig_size {n : Nat} (h : n < 18446744073709551616) : (txt (digL n)).size ≤ 20 := digL_20 h
theorem rText_call {q : Nat} {r : Rd} (hb : h.blks q = some ⟨refC r, 1, true⟩) (hd : r.ok) (hq : q < h.next) (hK : ∀ h', Ext h h' → K (.string (txt (textR r))) h') : ACall prog 45 [ptr q] h K := by
  refine acallF_of tbX func45 rfl rfl mixed (by kernel_rfl) fun hwf => ?_
  have b0 := refC_0 r
  have b1 := refC_1 r
  have b2 := refC_2 r
  have b3 := refC_3 r
  have b7 := refC_7 r
  have b8 := refC_8 r
  have k0 := hd.se
  have k1 := hd.cm
  have k2 := hd.ad
  have k3 := hd.st
  have k7 := hd.lf
  have k8 := hd.dl
  have hL : leftR r < 18446744073709551616 := by unfold leftR; (repeat' split) <;> omega
  obtain ⟨l, hl⟩ : ∃ l, l = leftR r := ⟨_, rfl⟩
  unfold textR at hK
  rw [← hl] at hK hL
  obtain ⟨se, hse⟩ : ∃ x, x = r.se := ⟨_, rfl⟩
  obtain ⟨cm, hcm⟩ : ∃ x, x = r.cm := ⟨_, rfl⟩
  obtain ⟨ad, had⟩ : ∃ x, x = r.ad := ⟨_, rfl⟩
  obtain ⟨st, hst⟩ : ∃ x, x = r.st := ⟨_, rfl⟩
  obtain ⟨lf, hlf⟩ : ∃ x, x = r.lf := ⟨_, rfl⟩
  obtain ⟨dl, hdl⟩ : ∃ x, x = r.dl := ⟨_, rfl⟩
  have hl2 : l = if st = 1 then (if lf = 0 then 1 else lf) else 0 := by rw [hl, hst, hlf]; rfl
  rw [← hse] at b0 k0 hK
  rw [← hcm] at b1 k1 hK
  rw [← had] at b2 k2 hK
  rw [← hst] at b3 k3 hK
  rw [← hlf] at b7 k7
  rw [← hdl] at b8 k8 hK
  clear hl hse hcm had hst hlf hdl
  obtain ⟨c, hc⟩ : ∃ c, c = refC r := ⟨_, rfl⟩
  rw [← hc] at b0 b1 b2 b3 b7 b8 hb
  clear hc hd
  have z0 := dig_size (n := se) (by omega)
  have y0 : (digL se).length ≤ 20 := z0
  have z1 := dig_size (n := cm) (by omega)
  have y1 : (digL cm).length ≤ 20 := z1
  have z2 := dig_size (n := ad) (by omega)
  have y2 : (digL ad).length ≤ 20 := z2
  have z3 := dig_size (n := st) (by omega)
  have y3 : (digL st).length ≤ 20 := z3
  have z7 := dig_size (n := l) (by omega)
  have y7 : (digL l).length ≤ 20 := z7
  have z8 := dig_size (n := dl) (by omega)
  have y8 : (digL dl).length ≤ 20 := z8
  have u0 : (txt [(32 : UInt8)]).size = 1 := rfl
  by_cases c1 : st = 1
  · subst c1
    by_cases c2 : lf = 0
    · subst c2
      rw [if_pos rfl, if_pos rfl] at hl2
      subst hl2
      simp -dsimp (disch := first | omega | (simp only [txt_size, List.length_append, List.length_cons, List.length_nil]; omega)) [hb, b0, b1, b2, b3, b7, b8, tbX_6, -getElem?_pos]
      refine digits_call (n := se) (by omega) fun h1 e1 => ?_
      have f1 : Ext h h1 := e1
      have g1 := (f1.same q hq).trans hb
      simp -dsimp (disch := first | omega | (simp only [txt_size, List.length_append, List.length_cons, List.length_nil]; omega)) [g1, hq, b0, b1, b2, b3, b7, b8, tbX_6, -getElem?_pos]
      refine ⟨fun j hj _ => e1.same j hj, ?_⟩
      refine digits_call (n := ad) (by omega) fun h2 e2 => ?_
      have f2 : Ext h h2 := f1.trans e2
      have g2 := (f2.same q hq).trans hb
      simp -dsimp (disch := first | omega | (simp only [txt_size, List.length_append, List.length_cons, List.length_nil]; omega)) [g2, hq, b0, b1, b2, b3, b7, b8, tbX_6, -getElem?_pos]
      refine ⟨fun j hj _ => e2.same j hj, ?_⟩
      refine digits_call (n := cm) (by omega) fun h3 e3 => ?_
      have f3 : Ext h h3 := f2.trans e3
      have g3 := (f3.same q hq).trans hb
      simp -dsimp (disch := first | omega | (simp only [txt_size, List.length_append, List.length_cons, List.length_nil]; omega)) [g3, hq, b0, b1, b2, b3, b7, b8, tbX_6, -getElem?_pos]
      refine ⟨fun j hj _ => e3.same j hj, ?_⟩
      refine digits_call (n := 1) (by omega) fun h4 e4 => ?_
      have f4 : Ext h h4 := f3.trans e4
      have g4 := (f4.same q hq).trans hb
      simp -dsimp (disch := first | omega | (simp only [txt_size, List.length_append, List.length_cons, List.length_nil]; omega)) [g4, hq, b0, b1, b2, b3, b7, b8, tbX_6, -getElem?_pos]
      refine ⟨fun j hj _ => e4.same j hj, ?_⟩
      refine digits_call (n := 1) (by omega) fun h5 e5 => ?_
      have f5 : Ext h h5 := f4.trans e5
      have g5 := (f5.same q hq).trans hb
      simp -dsimp (disch := first | omega | (simp only [txt_size, List.length_append, List.length_cons, List.length_nil]; omega)) [g5, hq, b0, b1, b2, b3, b7, b8, tbX_6, -getElem?_pos]
      refine ⟨fun j hj _ => e5.same j hj, ?_⟩
      refine digits_call (n := dl) (by omega) fun h6 e6 => ?_
      have f6 : Ext h h6 := f5.trans e6
      have g6 := (f6.same q hq).trans hb
      simp -dsimp (disch := first | omega | (simp only [txt_size, List.length_append, List.length_cons, List.length_nil]; omega)) [g6, hq, tbX_6]
      exact RetF.all (r := .string (txt (digL se ++ [32] ++ digL ad ++ [32] ++ digL cm ++ [32] ++ digL 1 ++ [32] ++ digL 1 ++ [32] ++ digL dl))) (by simp) (hK _ f6)
    · have c2' : ¬ (lf : Int) = 0 := by omega
      rw [if_pos rfl, if_neg c2] at hl2
      subst hl2
      simp -dsimp (disch := first | omega | (simp only [txt_size, List.length_append, List.length_cons, List.length_nil]; omega)) [hb, b0, b1, b2, b3, b7, b8, c2, c2', -getElem?_pos]
      refine digits_call (n := se) (by omega) fun h1 e1 => ?_
      have f1 : Ext h h1 := e1
      have g1 := (f1.same q hq).trans hb
      simp -dsimp (disch := first | omega | (simp only [txt_size, List.length_append, List.length_cons, List.length_nil]; omega)) [g1, hq, b0, b1, b2, b3, b7, b8, c2, c2', -getElem?_pos]
      refine ⟨fun j hj _ => e1.same j hj, ?_⟩
      refine digits_call (n := ad) (by omega) fun h2 e2 => ?_
      have f2 : Ext h h2 := f1.trans e2
      have g2 := (f2.same q hq).trans hb
      simp -dsimp (disch := first | omega | (simp only [txt_size, List.length_append, List.length_cons, List.length_nil]; omega)) [g2, hq, b0, b1, b2, b3, b7, b8, c2, c2', -getElem?_pos]
      refine ⟨fun j hj _ => e2.same j hj, ?_⟩
      refine digits_call (n := cm) (by omega) fun h3 e3 => ?_
      have f3 : Ext h h3 := f2.trans e3
      have g3 := (f3.same q hq).trans hb
      simp -dsimp (disch := first | omega | (simp only [txt_size, List.length_append, List.length_cons, List.length_nil]; omega)) [g3, hq, b0, b1, b2, b3, b7, b8, c2, c2', -getElem?_pos]
      refine ⟨fun j hj _ => e3.same j hj, ?_⟩
      refine digits_call (n := 1) (by omega) fun h4 e4 => ?_
      have f4 : Ext h h4 := f3.trans e4
      have g4 := (f4.same q hq).trans hb
      simp -dsimp (disch := first | omega | (simp only [txt_size, List.length_append, List.length_cons, List.length_nil]; omega)) [g4, hq, b0, b1, b2, b3, b7, b8, c2, c2', -getElem?_pos]
      refine ⟨fun j hj _ => e4.same j hj, ?_⟩
      refine digits_call (n := l) (by omega) fun h5 e5 => ?_
      have f5 : Ext h h5 := f4.trans e5
      have g5 := (f5.same q hq).trans hb
      simp -dsimp (disch := first | omega | (simp only [txt_size, List.length_append, List.length_cons, List.length_nil]; omega)) [g5, hq, b0, b1, b2, b3, b7, b8, c2, c2', -getElem?_pos]
      refine ⟨fun j hj _ => e5.same j hj, ?_⟩
      refine digits_call (n := dl) (by omega) fun h6 e6 => ?_
      have f6 : Ext h h6 := f5.trans e6
      have g6 := (f6.same q hq).trans hb
      simp -dsimp (disch := first | omega | (simp only [txt_size, List.length_append, List.length_cons, List.length_nil]; omega)) [g6, hq, c2, c2']
      exact RetF.all (r := .string (txt (digL se ++ [32] ++ digL ad ++ [32] ++ digL cm ++ [32] ++ digL 1 ++ [32] ++ digL l ++ [32] ++ digL dl))) (by simp) (hK _ f6)
  · have c1' : ¬ (st : Int) = 1 := by omega
    rw [if_neg c1] at hl2
    subst hl2
    simp -dsimp (disch := first | omega | (simp only [txt_size, List.length_append, List.length_cons, List.length_nil]; omega)) [hb, b0, b1, b2, b3, b7, b8, c1, c1', -getElem?_pos]
    refine digits_call (n := se) (by omega) fun h1 e1 => ?_
    have f1 : Ext h h1 := e1
    have g1 := (f1.same q hq).trans hb
    simp -dsimp (disch := first | omega | (simp only [txt_size, List.length_append, List.length_cons, List.length_nil]; omega)) [g1, hq, b0, b1, b2, b3, b7, b8, c1, c1', -getElem?_pos]
    refine ⟨fun j hj _ => e1.same j hj, ?_⟩
    refine digits_call (n := ad) (by omega) fun h2 e2 => ?_
    have f2 : Ext h h2 := f1.trans e2
    have g2 := (f2.same q hq).trans hb
    simp -dsimp (disch := first | omega | (simp only [txt_size, List.length_append, List.length_cons, List.length_nil]; omega)) [g2, hq, b0, b1, b2, b3, b7, b8, c1, c1', -getElem?_pos]
    refine ⟨fun j hj _ => e2.same j hj, ?_⟩
    refine digits_call (n := cm) (by omega) fun h3 e3 => ?_
    have f3 : Ext h h3 := f2.trans e3
    have g3 := (f3.same q hq).trans hb
    simp -dsimp (disch := first | omega | (simp only [txt_size, List.length_append, List.length_cons, List.length_nil]; omega)) [g3, hq, b0, b1, b2, b3, b7, b8, c1, c1', -getElem?_pos]
    refine ⟨fun j hj _ => e3.same j hj, ?_⟩
    refine digits_call (n := st) (by omega) fun h4 e4 => ?_
    have f4 : Ext h h4 := f3.trans e4
    have g4 := (f4.same q hq).trans hb
    simp -dsimp (disch := first | omega | (simp only [txt_size, List.length_append, List.length_cons, List.length_nil]; omega)) [g4, hq, b0, b1, b2, b3, b7, b8, c1, c1', -getElem?_pos]
    refine ⟨fun j hj _ => e4.same j hj, ?_⟩
    refine digits_call (n := 0) (by omega) fun h5 e5 => ?_
    have f5 : Ext h h5 := f4.trans e5
    have g5 := (f5.same q hq).trans hb
    simp -dsimp (disch := first | omega | (simp only [txt_size, List.length_append, List.length_cons, List.length_nil]; omega)) [g5, hq, b0, b1, b2, b3, b7, b8, c1, c1', -getElem?_pos]
    refine ⟨fun j hj _ => e5.same j hj, ?_⟩
    refine digits_call (n := dl) (by omega) fun h6 e6 => ?_
    have f6 : Ext h h6 := f5.trans e6
    have g6 := (f6.same q hq).trans hb
    simp -dsimp (disch := first | omega | (simp only [txt_size, List.length_append, List.length_cons, List.length_nil]; omega)) [g6, hq, c1, c1']
    exact RetF.all (r := .string (txt (digL se ++ [32] ++ digL ad ++ [32] ++ digL cm ++ [32] ++ digL st ++ [32] ++ digL 0 ++ [32] ++ digL dl))) (by simp) (hK _ f6)
end
end Go.Proofs.YtkbiadobkheafaaDoor
namespace Go.Proofs.YtkbiadobkheafaaDoor
open Go Go.Mini Go.Proofs.Tryd
set_option maxRecDepth 100000

def tbE : Nat → Marks := fun k => if k = 4 then ⟨[4, 13, 1000000], fun _ => True⟩ else ⟨[], fun _ => True⟩
@[simp] theorem tbE_4 : (tbE 4).l = [4, 13, 1000000] := rfl
@[simp] theorem tbE_10 : (tbE 10).l = [] := rfl
/-- What stands where a list may lie. -/
def rnm (mr : Nat) (v : Value) (i : Nat) : Prop := i = mr ∨ sblk v = some i
theorem RCh_fr {h h' : Hp} {mr : Nat} {v : Value} (c : Rm.RCh h h' mr v) : Fr h h' (rnm mr v) := ⟨c.le, fun i h1 h2 => c.same i h1 (fun e => h2 (.inl e)) (fun e => h2 (.inr e))⟩
theorem Rf_fr {m : Nat} {h h' : Hp} {mr N : Nat} {v : Value} {L : Rm.By} {a : Nat} {w : Int} {S : Nat → Prop} (t : Rm.Rf m h mr N v L a w) (f : Fr h h' S) (h1 : ¬ S mr) (h2 : ∀ i, sblk v = some i → ¬ S i) : Rm.Rf m h' mr N v L a w :=
  ⟨by rw [f.same _ t.rlt h1]; exact t.blk, t.row.mono f.le fun b hb => f.same _ (t.row.blk b hb).2 (h2 b hb), Nat.lt_of_lt_of_le t.rlt f.le, t.mr, Nat.le_trans t.mh f.le, t.vr, t.N1, t.a1, t.w0, t.ok, t.uq⟩
/-- One sector is laid anew. -/
def Rd.wL (r : Rd) (n : Nat) (t : List UInt8) : Rd := { r with L := updL r.L n t }
def rfits (r : Rd) (N : Nat) : Prop := r.wh < 32 ∧ r.we + 64 ≤ N
theorem rbytes_len {r : Rd} (h : r.ok) (n : Nat) : (rbytes r n).length = 64 := by
  unfold rbytes
  split
  · simp
  · rename_i e; exact (h.L n).resolve_left e
section
variable {h : Hp} {K : Value → Hp → Prop} {q : Nat} {r : Rd} {m mr N : Nat} {v : Value} {L : Rm.By} {a : Nat} {w : Int}
theorem rEnd_call (hb : h.blks q = some ⟨refC r, 1, true⟩) (hd : r.ok) (rf : Rm.Rf m h mr N v L a w) (hq : q < h.next) (hqm : q ≠ mr) (hqv : sblk v ≠ some q) (hL : L.length ≤ 900000)
    (hK1 : r.wt = 1 → rfits r N → ∀ h' v' a' w', Rm.Rf m h' mr N v' (Rm.setN L r.we (fun j => (((rbytes r r.wh)[j]?).getD 0).toNat) 64) a' w' → Fr h h' (rnm mr v) → Rm.VCh h v v' → K (.int .i64 2) h')
    (hK2 : r.wt = 2 → rfits r N → ∀ h', h'.blks q = some ⟨refC (r.wL r.wh (bytesM (Rm.look L) r.we 64)), 1, true⟩ → Fr h h' (fun i => i = q) → K (.int .i64 2) h')
    (hK3 : ¬ ((r.wt = 1 ∨ r.wt = 2) ∧ rfits r N) → ∀ h', Ext h h' → K (.int .i64 3) h') : ACall prog 74 [ptr q, ptr mr, .int .u64 0] h K := by
  refine acallF_of tbE func74 rfl rfl mixed (by kernel_rfl) fun hwf => ?_
  have b4 := refC_4 r
  have b5 := refC_5 r
  have b6 := refC_6 r
  have cs := refC_size r
  have hN := rf.N1
  have k4 := hd.wh
  have k5 := hd.wt
  have k6 := hd.we
  have rl := rbytes_len hd r.wh
  have hset : r.wh < 32 → (refC r).setIfInBounds (9 + r.wh) (.string (txt (bytesM (Rm.look L) r.we 64))) = refC (r.wL r.wh (bytesM (Rm.look L) r.we 64)) := fun hn => refC_sL r hn _
  have hby : r.wh < 32 → ∀ {K' : Value → Hp → Prop}, (∀ h', Ext h h' → K' (.string (txt (rbytes r r.wh))) h') → ACall prog 44 [ptr q, .int .i64 r.wh] h K' := fun hn K' hk => rBytes_call hb hn hk
  unfold rfits at hK1 hK2 hK3
  obtain ⟨c, hc⟩ : ∃ c, c = refC r := ⟨_, rfl⟩
  obtain ⟨wt, hwt⟩ : ∃ x, x = r.wt := ⟨_, rfl⟩
  obtain ⟨wh, hwh⟩ : ∃ x, x = r.wh := ⟨_, rfl⟩
  obtain ⟨we, hwe⟩ : ∃ x, x = r.we := ⟨_, rfl⟩
  obtain ⟨B, hB⟩ : ∃ x, x = rbytes r r.wh := ⟨_, rfl⟩
  rw [← hB] at rl hK1 hby
  rw [← hc] at b4 b5 b6 cs hb
  rw [← hwt] at b5 k5 hK1 hK2 hK3
  rw [← hwh] at b4 k4 hK1 hK2 hK3 hby hset
  rw [← hwe] at b6 k6 hK1 hK2 hK3 hset
  rw [← hc] at hset
  have hw0 : ¬ (we : Int) < 0 := by omega
  have ws : (we : Int) - 0 = we := by omega
  by_cases c12 : (wt = 1 ∨ wt = 2) ∧ wh < 32
  · obtain ⟨c1, hs⟩ := c12
    have hs' : ¬ 31 < wh := by omega
    have hs2 : ¬ (31 : Int) < wh := by omega
    rcases c1 with c1 | c1
    · subst c1
      simp -dsimp (disch := omega) [hb, b4, b5, b6, hs', hs2, hq, hw0, ws, -getElem?_pos]
      refine hby hs fun h1 e1 => ?_
      simp -dsimp (disch := omega)
      refine ⟨fun j hj _ => e1.same j hj, ?_⟩
      have rf1 := Rf_fr rf (Fr.of_ext e1 fun _ => False) id (fun _ _ => id)
      refine Rm.rfPut_call (x := we) (l := B) rf1 (by omega) (by omega) k6 (fun hx h2 v2 r2 c2 vc2 => ?_) (fun hx => ?_)
      · rw [rl] at hx r2
        have hk := hK1 rfl ⟨hs, hx⟩ h2 v2 _ _ r2 ((Fr.of_ext e1 _).trans (RCh_fr c2) fun _ _ q => q) (fun b hb => (vc2 b hb).elim .inl fun q => .inr (by have := e1.le; omega))
        simp -dsimp (disch := omega)
        exact RetF.all (r := .int .i64 2) (by simp) hk
      · rw [rl] at hx
        have hk := hK3 (fun q => hx q.2.2) h1 e1
        simp -dsimp (disch := omega)
        exact RetF.all (r := .int .i64 3) (by simp) hk
    · subst c1
      simp -dsimp (disch := omega) [hb, b4, b5, b6, hs', hs2, hw0, ws, -getElem?_pos]
      refine Rm.rfBytes_call (x := we) (n := 64) rf (by omega) k6 (by omega) (fun hx h1 e1 => ?_) (fun hx => ?_)
      · have g1 := (e1.same q hq).trans hb
        obtain ⟨t, ht⟩ : ∃ t, t = bytesM (Rm.look L) we 64 := ⟨_, rfl⟩
        have hk := hK2 rfl ⟨hs, hx⟩
        rw [← ht] at hset hk ⊢
        have hset := hset hs
        have hk := hk (h1.set q ⟨refC (r.wL wh t), 1, true⟩) (blks_set_eq _ _ _) ((Fr.of_ext e1 _).trans (Fr.set h1 (p := q) _ (S := fun i => i = q) rfl) fun _ _ q => q)
        clear hc ht
        simp -dsimp (disch := omega) [g1, b4, cs, hset, -getElem?_pos]
        exact RetF.all (r := .int .i64 2) (by simp) hk
      · have hk := hK3 (fun q => hx q.2.2) h (Ext.refl _)
        simp -dsimp (disch := omega)
        exact RetF.all (r := .int .i64 3) (by simp) hk
  · have hk := hK3 (fun q => c12 ⟨q.1, q.2.1⟩) h (Ext.refl _)
    by_cases c1 : wt = 1
    · have hs : 31 < wh := by omega
      have hs2 : (31 : Int) < wh := by omega
      subst c1
      simp -dsimp (disch := omega) [hb, b4, b5, hs, hs2, -getElem?_pos]
      exact RetF.all (r := .int .i64 3) (by simp) hk
    · by_cases c2 : wt = 2
      · have hs : 31 < wh := by omega
        have hs2 : (31 : Int) < wh := by omega
        subst c2
        simp -dsimp (disch := omega) [hb, b4, b5, hs, hs2, -getElem?_pos]
        exact RetF.all (r := .int .i64 3) (by simp) hk
      · have c1' : ¬ (wt : Int) = 1 := by omega
        have c2' : ¬ (wt : Int) = 2 := by omega
        simp -dsimp (disch := omega) [hb, b4, b5, c1, c2, c1', c2', -getElem?_pos]
        exact RetF.all (r := .int .i64 3) (by simp) hk
theorem rEndNil_call (hb : h.blks q = some ⟨refC r, 1, true⟩) (hd : r.ok) (hK : K (.int .i64 3) h) : ACall prog 74 [ptr q, .pointer none, .int .u64 0] h K := by
  refine acallF_of tbE func74 rfl rfl mixed (by kernel_rfl) fun hwf => ?_
  have b4 := refC_4 r
  have b5 := refC_5 r
  have k4 := hd.wh
  have k5 := hd.wt
  obtain ⟨c, hc⟩ : ∃ c, c = refC r := ⟨_, rfl⟩
  obtain ⟨wt, hwt⟩ : ∃ x, x = r.wt := ⟨_, rfl⟩
  obtain ⟨wh, hwh⟩ : ∃ x, x = r.wh := ⟨_, rfl⟩
  rw [← hc] at b4 b5 hb
  rw [← hwt] at b5 k5
  rw [← hwh] at b4 k4
  clear hc
  by_cases c12 : (wt = 1 ∨ wt = 2) ∧ wh < 32
  · obtain ⟨c1, hs⟩ := c12
    have hs' : ¬ 31 < wh := by omega
    have hs2 : ¬ (31 : Int) < wh := by omega
    rcases c1 with c1 | c1
    all_goals
      subst c1
      simp -dsimp (disch := omega) [hb, b4, b5, hs', hs2, -getElem?_pos]
      exact RetF.all (r := .int .i64 3) (by simp) hK
  · by_cases c1 : wt = 1
    · have hs : 31 < wh := by omega
      have hs2 : (31 : Int) < wh := by omega
      subst c1
      simp -dsimp (disch := omega) [hb, b4, b5, hs, hs2, -getElem?_pos]
      exact RetF.all (r := .int .i64 3) (by simp) hK
    · by_cases c2 : wt = 2
      · have hs : 31 < wh := by omega
        have hs2 : (31 : Int) < wh := by omega
        subst c2
        simp -dsimp (disch := omega) [hb, b4, b5, hs, hs2, -getElem?_pos]
        exact RetF.all (r := .int .i64 3) (by simp) hK
      · have c1' : ¬ (wt : Int) = 1 := by omega
        have c2' : ¬ (wt : Int) = 2 := by omega
        simp -dsimp (disch := omega) [hb, b4, b5, c1, c2, c1', c2', -getElem?_pos]
        exact RetF.all (r := .int .i64 3) (by simp) hK
def Rd.wlf (r : Rd) (n : Nat) : Rd := { r with lf := n }
def Rd.wst (r : Rd) (n : Nat) : Rd := { r with st := n }
theorem refC_wlf (r : Rd) (n : Nat) : (refC r).setIfInBounds 7 (.int .u32 n) = refC (r.wlf n) := refC_s7 r n
theorem refC_wst (r : Rd) (n : Nat) : (refC r).setIfInBounds 3 (.int .i64 n) = refC (r.wst n) := refC_s3 r n
theorem rTick_idle {x : Value} {y : Nat} (hb : h.blks q = some ⟨refC r, 1, true⟩) (hd : r.ok) (hs : r.st ≠ 1) (hK : K (.bool false) h) : ACall prog 58 [ptr q, x, .int .u64 y] h K := by
  refine acallF_of tb0 func58 rfl rfl mixed (by kernel_rfl) fun hwf => ?_
  have b3 := refC_3 r
  have k3 := hd.st
  obtain ⟨st, hst⟩ : ∃ x, x = r.st := ⟨_, rfl⟩
  rw [← hst] at b3 k3 hs
  obtain ⟨c, hc⟩ : ∃ c, c = refC r := ⟨_, rfl⟩
  rw [← hc] at b3 hb
  clear hc
  have hs' : ¬ (st : Int) = 1 := by omega
  simp -dsimp (disch := omega) [hb, b3, hs, hs', -getElem?_pos]
  exact RetF.all (r := .bool false) (by simp) hK
theorem rTick_go {x : Value} {y : Nat} (hb : h.blks q = some ⟨refC r, 1, true⟩) (hd : r.ok) (hs : r.st = 1) (hl : 1 < r.lf) (hK : K (.bool false) (h.set q ⟨refC (r.wlf (r.lf - 1)), 1, true⟩)) : ACall prog 58 [ptr q, x, .int .u64 y] h K := by
  refine acallF_of tb0 func58 rfl rfl mixed (by kernel_rfl) fun hwf => ?_
  have b3 := refC_3 r
  have b7 := refC_7 r
  have k7 := hd.lf
  have cs := refC_size r
  have y7 := refC_wlf r (r.lf - 1)
  rw [hs] at b3
  obtain ⟨m, hm⟩ : ∃ m, r.lf = m + 1 := ⟨r.lf - 1, by omega⟩
  rw [hm, Nat.add_sub_cancel] at y7 hK
  rw [hm] at b7 k7 hl
  have hl' : (1 : Int) < (m : Int) + 1 := by omega
  have hl2 : 0 < m := by omega
  have hl3 : (0 : Int) < m := by omega
  obtain ⟨c, hc⟩ : ∃ c, c = refC r := ⟨_, rfl⟩
  rw [← hc] at b3 b7 y7 cs hb
  clear hc
  simp -dsimp (disch := omega) [hb, b3, b7, cs, hl, hl', hl2, hl3, y7, -getElem?_pos]
  exact RetF.all (r := .bool false) (by simp) hK
theorem rTick_end (hb : h.blks q = some ⟨refC r, 1, true⟩) (hd : r.ok) (hs : r.st = 1) (hl : ¬ 1 < r.lf) (rf : Rm.Rf m h mr N v L a w) (hq : q < h.next) (hqm : q ≠ mr) (hqv : sblk v ≠ some q) (hL : L.length ≤ 900000)
    (hK1 : r.wt = 1 → rfits r N → ∀ h' v' a' w', h'.blks q = some ⟨refC ((r.wlf 0).wst 2), 1, true⟩ → Rm.Rf m h' mr N v' (Rm.setN L r.we (fun j => (((rbytes r r.wh)[j]?).getD 0).toNat) 64) a' w' → Fr h h' (fun i => i = q ∨ rnm mr v i) → Rm.VCh h v v' → K (.bool true) h')
    (hK2 : r.wt = 2 → rfits r N → ∀ h', h'.blks q = some ⟨refC (((r.wlf 0).wL r.wh (bytesM (Rm.look L) r.we 64)).wst 2), 1, true⟩ → Fr h h' (fun i => i = q) → K (.bool true) h')
    (hK3 : ¬ ((r.wt = 1 ∨ r.wt = 2) ∧ rfits r N) → ∀ h', h'.blks q = some ⟨refC ((r.wlf 0).wst 3), 1, true⟩ → Fr h h' (fun i => i = q) → K (.bool true) h') : ACall prog 58 [ptr q, ptr mr, .int .u64 0] h K := by
  refine acallF_of tb0 func58 rfl rfl mixed (by kernel_rfl) fun hwf => ?_
  have b3 := refC_3 r
  have b7 := refC_7 r
  have k7 := hd.lf
  have cs := refC_size r
  have y7 : (refC r).setIfInBounds 7 (.int .u32 0) = refC (r.wlf 0) := refC_wlf r 0
  rw [hs] at b3
  have hd1 : (r.wlf 0).ok := ⟨hd.se, hd.cm, hd.ad, hd.st, hd.wh, hd.wt, hd.we, by show 0 < 4294967296; omega, hd.dl, hd.L⟩
  have b1 := blks_set_eq h q ⟨refC (r.wlf 0), 1, true⟩
  obtain ⟨H, hH⟩ : ∃ H, H = h.set q ⟨refC (r.wlf 0), 1, true⟩ := ⟨_, rfl⟩
  have f1 : Fr h H (fun i => i = q) := by rw [hH]; exact Fr.set h _ rfl
  have hn : H.next = h.next := by rw [hH]; rfl
  rw [← hH] at b1
  have rf1 := Rf_fr rf f1 (Ne.symm hqm) (fun i hi e => hqv (e ▸ hi))
  obtain ⟨lf, hlf⟩ : ∃ x, x = r.lf := ⟨_, rfl⟩
  rw [← hlf] at b7 k7 hl
  have hl' : ¬ (1 : Int) < lf := by omega
  have b3' : (refC (r.wlf 0)).size = 41 := refC_size _
  have w2 : (refC (r.wlf 0)).setIfInBounds 3 (.int .i64 2) = refC ((r.wlf 0).wst 2) := refC_wst _ 2
  have w3 : (refC (r.wlf 0)).setIfInBounds 3 (.int .i64 3) = refC ((r.wlf 0).wst 3) := refC_wst _ 3
  obtain ⟨c, hc⟩ : ∃ c, c = refC r := ⟨_, rfl⟩
  obtain ⟨c1, hc1⟩ : ∃ c, c = refC (r.wlf 0) := ⟨_, rfl⟩
  rw [← hc] at b3 b7 y7 cs hb
  rw [← hc1] at y7 w2 w3 b3' hH
  simp -dsimp (disch := omega) [hb, b3, b7, cs, hl, hl', y7, ← hH, -getElem?_pos]
  refine rEnd_call (r := r.wlf 0) b1 hd1 rf1 (by omega) hqm hqv hL (fun z1 z2 h2 v2 a2 w2' r2 f2 vc2 => ?_) (fun z1 z2 h2 g2 f2 => ?_) (fun z1 h2 e2 => ?_)
  · have g2 : h2.blks q = some ⟨c1, 1, true⟩ := by rw [f2.same q (by omega) (fun e => e.elim hqm hqv), hc1]; exact b1
    have g3 := blks_set_eq h2 q ⟨refC ((r.wlf 0).wst 2), 1, true⟩
    have f3 := Fr.set h2 (p := q) ⟨refC ((r.wlf 0).wst 2), 1, true⟩ (S := fun i => i = q) rfl
    have r2n : ∀ i, sblk v2 = some i → i ≠ q := fun i hi e => (vc2 i hi).elim (fun z => hqv (e ▸ z)) fun z => by omega
    have r3 := Rf_fr r2 f3 (Ne.symm hqm) r2n
    have hk := hK1 z1 z2 _ v2 a2 w2' g3 r3 ((⟨f1.le, fun i h1 h2 => f1.same i h1 fun e => h2 (.inl e)⟩ : Fr h H (fun i => i = q ∨ rnm mr v i)).trans (⟨f2.le, fun i h1 h2 => f2.same i h1 fun e => h2 (.inr e)⟩ : Fr H h2 (fun i => i = q ∨ rnm mr v i)) (fun _ _ z => z) |>.trans f3 fun _ _ z => .inl z) (fun b hb => (vc2 b hb).elim .inl fun z => .inr (by omega))
    clear hc hc1
    simp -dsimp (disch := omega) [g2, b3', w2, -getElem?_pos]
    exact RetF.all (r := .bool true) (by simp) hk
  · have cs2 := refC_size ((r.wlf 0).wL r.wh (bytesM (Rm.look L) r.we 64))
    have w4 : (refC ((r.wlf 0).wL r.wh (bytesM (Rm.look L) r.we 64))).setIfInBounds 3 (.int .i64 2) = refC (((r.wlf 0).wL r.wh (bytesM (Rm.look L) r.we 64)).wst 2) := refC_wst _ 2
    have hk := hK2 z1 z2 _ (blks_set_eq h2 q _) ((f1.trans f2 fun _ _ z => z).trans (Fr.set h2 (p := q) _ (S := fun i => i = q) rfl) fun _ _ z => z)
    have g2' : h2.blks q = some ⟨refC ((r.wlf 0).wL r.wh (bytesM (Rm.look L) r.we 64)), 1, true⟩ := g2
    obtain ⟨c2, hc2⟩ : ∃ c, c = refC ((r.wlf 0).wL r.wh (bytesM (Rm.look L) r.we 64)) := ⟨_, rfl⟩
    rw [← hc2] at cs2 w4 g2'
    clear hc hc1 hc2 g2
    simp -dsimp (disch := omega) [g2', cs2, w4, -getElem?_pos]
    exact RetF.all (r := .bool true) (by simp) hk
  · have g2 : h2.blks q = some ⟨c1, 1, true⟩ := by rw [e2.same q (by omega), hc1]; exact b1
    have hk := hK3 z1 _ (blks_set_eq h2 q _) ((f1.trans (Fr.of_ext e2 _) fun _ _ z => z).trans (Fr.set h2 (p := q) _ (S := fun i => i = q) rfl) fun _ _ z => z)
    clear hc hc1
    simp -dsimp (disch := omega) [g2, b3', w3, -getElem?_pos]
    exact RetF.all (r := .bool true) (by simp) hk
theorem rTick_endNil (hb : h.blks q = some ⟨refC r, 1, true⟩) (hd : r.ok) (hs : r.st = 1) (hl : ¬ 1 < r.lf) (hq : q < h.next)
    (hK3 : ∀ h', h'.blks q = some ⟨refC ((r.wlf 0).wst 3), 1, true⟩ → Fr h h' (fun i => i = q) → K (.bool true) h') : ACall prog 58 [ptr q, .pointer none, .int .u64 0] h K := by
  refine acallF_of tb0 func58 rfl rfl mixed (by kernel_rfl) fun hwf => ?_
  have b3 := refC_3 r
  have b7 := refC_7 r
  have k7 := hd.lf
  have cs := refC_size r
  have y7 : (refC r).setIfInBounds 7 (.int .u32 0) = refC (r.wlf 0) := refC_wlf r 0
  rw [hs] at b3
  have hd1 : (r.wlf 0).ok := ⟨hd.se, hd.cm, hd.ad, hd.st, hd.wh, hd.wt, hd.we, by show 0 < 4294967296; omega, hd.dl, hd.L⟩
  have b1 := blks_set_eq h q ⟨refC (r.wlf 0), 1, true⟩
  obtain ⟨H, hH⟩ : ∃ H, H = h.set q ⟨refC (r.wlf 0), 1, true⟩ := ⟨_, rfl⟩
  have f1 : Fr h H (fun i => i = q) := by rw [hH]; exact Fr.set h _ rfl
  rw [← hH] at b1
  obtain ⟨lf, hlf⟩ : ∃ x, x = r.lf := ⟨_, rfl⟩
  rw [← hlf] at b7 k7 hl
  have hl' : ¬ (1 : Int) < lf := by omega
  have b3' : (refC (r.wlf 0)).size = 41 := refC_size _
  have w3 : (refC (r.wlf 0)).setIfInBounds 3 (.int .i64 3) = refC ((r.wlf 0).wst 3) := refC_wst _ 3
  have hk := hK3 _ (blks_set_eq H q _) (f1.trans (Fr.set H (p := q) _ (S := fun i => i = q) rfl) fun _ _ z => z)
  obtain ⟨c, hc⟩ : ∃ c, c = refC r := ⟨_, rfl⟩
  obtain ⟨c1, hc1⟩ : ∃ c, c = refC (r.wlf 0) := ⟨_, rfl⟩
  rw [← hc] at b3 b7 y7 cs hb
  rw [← hc1] at y7 w3 b3' hH
  have g2 : H.blks q = some ⟨c1, 1, true⟩ := by rw [hc1]; exact b1
  simp -dsimp (disch := omega) [hb, b3, b7, cs, hl, hl', y7, ← hH, -getElem?_pos]
  refine rEndNil_call (r := r.wlf 0) b1 hd1 ?_
  clear hc hc1
  simp -dsimp (disch := omega) [g2, b3', w3, -getElem?_pos]
  exact RetF.all (r := .bool true) (by simp) hk
end
end Go.Proofs.YtkbiadobkheafaaDoor
namespace Go.Proofs.YtkbiadobkheafaaDoor
open Go Go.Mini Go.Proofs.Tryd
set_option maxRecDepth 100000

structure Rel (d : Dev) (r : Rd) (M : Nat → Nat) (L : Rm.By) : Prop where
  rs : d.rs = r.se
  rc : d.rc = r.cm
  ra : d.ra = r.ad
  st : d.st = r.st
  dl : d.dl = r.dl
  run : d.st = 1 → d.us = r.wh ∧ d.uc = r.wt ∧ d.ua = r.we ∧ d.lf = max r.lf 1
  sec : ∀ n, n < 32 → bytesM d.S (n * 64) 64 = rbytes r n
  mem : ∀ i, i < 4096 → M i = Rm.look L i
theorem Rel.read {d : Dev} {r : Rd} {M : Nat → Nat} {L : Rm.By} (e : Rel d r M L) (off : Nat) (w : Int) : rreadR r off w = readD d off w := by
  unfold rreadR readD
  rw [e.rs, e.ra, e.rc, e.st]
theorem rbytes_congr {r r' : Rd} (h : r'.L = r.L) (n : Nat) : rbytes r' n = rbytes r n := by unfold rbytes; rw [h]
theorem Rel.write {d : Dev} {r : Rd} {M : Nat → Nat} {L : Rm.By} (e : Rel d r M L) (hd : d.st < 4) (off v : Nat) : Rel (writeD d off v) (rwriteR r off v) M L := by
  unfold writeD rwriteR
  split
  · exact ⟨rfl, e.rc, e.ra, e.st, e.dl, e.run, e.sec, e.mem⟩
  · split
    · exact ⟨e.rs, e.rc, rfl, e.st, e.dl, e.run, e.sec, e.mem⟩
    · split
      · unfold beginD rbeginR
        by_cases h : d.st = 1
        · rw [if_pos h, if_pos (e.st ▸ h)]; exact e
        · rw [if_neg h, if_neg (fun q => h (e.st.trans q))]
          exact ⟨e.rs, rfl, e.ra, rfl, e.dl, fun _ => ⟨e.rs, rfl, e.ra, by show max d.dl 1 = max r.dl 1; rw [e.dl]⟩, e.sec, e.mem⟩
      · split
        · unfold ackD rackR
          have hst := e.st
          by_cases h : d.st = 1
          · rw [if_pos h, if_neg (by omega)]; exact e
          · rw [if_neg h]
            by_cases h2 : r.st = 2 ∨ r.st = 3
            · rw [if_pos h2]
              exact ⟨e.rs, e.rc, e.ra, rfl, e.dl, fun q => by have : (0 : Nat) = 1 := q; omega, e.sec, e.mem⟩
            · rw [if_neg h2]
              exact ⟨e.rs, e.rc, e.ra, by show 0 = r.st; omega, e.dl, fun q => by have : (0 : Nat) = 1 := q; omega, e.sec, e.mem⟩
        · exact e
theorem Rel.write' {d : Dev} {r : Rd} {M : Nat → Nat} {L : Rm.By} (e : Rel d r M L) (hd : d.st < 4) (off v : Nat) (n : Int) : Rel (if mayD off n = true then writeD d off v else d) (if mayD off n = true then rwriteR r off v else r) M L := by
  split
  · exact e.write hd off v
  · exact e
theorem rwrite_ok {r : Rd} (h : r.ok) {off v : Nat} (hv : v < 18446744073709551616) : (rwriteR r off v).ok := by
  have hm : v % 4294967296 < 4294967296 := Nat.mod_lt _ (by omega)
  unfold rwriteR
  split
  · exact ⟨hm, h.cm, h.ad, h.st, h.wh, h.wt, h.we, h.lf, h.dl, h.L⟩
  · split
    · exact ⟨h.se, h.cm, hv, h.st, h.wh, h.wt, h.we, h.lf, h.dl, h.L⟩
    · split
      · unfold rbeginR
        split
        · exact h
        · exact ⟨h.se, hm, h.ad, by show 1 < 4; omega, h.se, hm, h.ad, h.dl, h.dl, h.L⟩
      · split
        · unfold rackR
          split
          · exact ⟨h.se, h.cm, h.ad, by show 0 < 4; omega, h.wh, h.wt, h.we, h.lf, h.dl, h.L⟩
          · exact h
        · exact h
theorem rwrite_ok' {r : Rd} (h : r.ok) {off v : Nat} {n : Int} (hv : v < 18446744073709551616) : (if mayD off n = true then rwriteR r off v else r).ok := by
  split
  · exact rwrite_ok h hv
  · exact h
theorem Rel.reset {d : Dev} {r : Rd} {M : Nat → Nat} {L : Rm.By} (e : Rel d r M L) : Rel (resetD d) (rresetR r) M L := ⟨rfl, rfl, rfl, rfl, e.dl, fun q => by have : (0 : Nat) = 1 := q; omega, e.sec, e.mem⟩
theorem rreset_ok {r : Rd} (h : r.ok) : (rresetR r).ok := ⟨by show 0 < 4294967296; omega, by show 0 < 4294967296; omega, by show 0 < 18446744073709551616; omega, by show 0 < 4; omega, by show 0 < 4294967296; omega, by show 0 < 4294967296; omega, by show 0 < 18446744073709551616; omega, by show 0 < 4294967296; omega, h.dl, h.L⟩
theorem Rel.delay {d : Dev} {r : Rd} {M : Nat → Nat} {L : Rm.By} (e : Rel d r M L) (n : Nat) : Rel { d with dl := n } { r with dl := n } M L := ⟨e.rs, e.rc, e.ra, e.st, rfl, e.run, e.sec, e.mem⟩
theorem rdelay_ok {r : Rd} (h : r.ok) {n : Nat} (hn : n < 4294967296) : ({ r with dl := n } : Rd).ok := ⟨h.se, h.cm, h.ad, h.st, h.wh, h.wt, h.we, h.lf, hn, h.L⟩
/-! Ticks. -/
theorem Rel.ends {d : Dev} {r : Rd} {M : Nat → Nat} {L : Rm.By} (e : Rel d r M L) : endsB d ↔ r.st = 1 ∧ ¬ 1 < r.lf := by
  unfold endsB
  rw [← e.st]
  constructor
  · rintro ⟨h1, h2⟩; have := (e.run h1).2.2.2; exact ⟨h1, by omega⟩
  · rintro ⟨h1, h2⟩; have := (e.run h1).2.2.2; exact ⟨h1, by omega⟩
theorem Rel.idle {d : Dev} {r : Rd} {M : Nat → Nat} {L : Rm.By} (e : Rel d r M L) (h : r.st ≠ 1) (N : Nat) : tickD d M N = d ∧ tickM d M N = M ∧ tickN d = d := by
  have h' : d.st ≠ 1 := by rw [e.st]; exact h
  refine ⟨tick_idle h', ?_, by unfold tickN; rw [if_pos h']⟩
  unfold tickM
  rw [if_neg (fun q => h' q.1)]
theorem Rel.go {d : Dev} {r : Rd} {M : Nat → Nat} {L : Rm.By} (e : Rel d r M L) (h : r.st = 1) (hl : 1 < r.lf) (N : Nat) : Rel (tickD d M N) (r.wlf (r.lf - 1)) M L ∧ tickM d M N = M ∧ tickN d = tickD d M N := by
  have h' : d.st = 1 := by rw [e.st]; exact h
  obtain ⟨r1, r2, r3, r4⟩ := e.run h'
  have hl' : 1 < d.lf := by omega
  rw [tick_go h' hl']
  refine ⟨⟨e.rs, e.rc, e.ra, e.st, e.dl, fun _ => ⟨r1, r2, r3, by show d.lf - 1 = max (r.lf - 1) 1; omega⟩, e.sec, e.mem⟩, ?_, by unfold tickN; rw [if_neg (by omega), if_pos hl']⟩
  unfold tickM
  rw [if_neg (fun q => by have := q.2; omega)]
theorem Rel.endN {d : Dev} {r : Rd} {M : Nat → Nat} {L : Rm.By} (e : Rel d r M L) (h : r.st = 1) (hl : ¬ 1 < r.lf) : Rel (tickN d) ((r.wlf 0).wst 3) M L := by
  have h' : d.st = 1 := by rw [e.st]; exact h
  have r4 := (e.run h').2.2.2
  unfold tickN
  rw [if_neg (by omega), if_neg (by omega)]
  exact ⟨e.rs, e.rc, e.ra, rfl, e.dl, fun q => by have : (3 : Nat) = 1 := q; omega, e.sec, e.mem⟩
theorem Rel.fits {d : Dev} {r : Rd} {M : Nat → Nat} {L : Rm.By} (e : Rel d r M L) (h : r.st = 1) (N : Nat) : YtkbiadobkheafaaDoor.fits d N ↔ rfits r N := by
  obtain ⟨r1, r2, r3, r4⟩ := e.run (e.st.trans h)
  unfold YtkbiadobkheafaaDoor.fits rfits
  rw [r1, r3]
theorem bytes_takeO {S : Nat → Nat} {s n : Nat} {M : Nat → Nat} {x : Nat} (h : n ≠ s) : bytesM (takeS S s M x) (n * 64) 64 = bytesM S (n * 64) 64 := by
  apply List.ext_getElem?
  intro i
  rcases Nat.lt_or_ge i 64 with hi | hi
  · rw [bytesM_at _ _ _ _ hi, bytesM_at _ _ _ _ hi]
    unfold takeS
    rw [if_neg (by omega)]
  · rw [List.getElem?_eq_none (by rw [bytesM_length]; omega), List.getElem?_eq_none (by rw [bytesM_length]; omega)]
theorem bytes_eq {M M' : Nat → Nat} {x n : Nat} (h : ∀ i, i < n → M (x + i) = M' (x + i)) : bytesM M x n = bytesM M' x n := by
  unfold bytesM
  apply List.map_congr_left
  intro i hi
  rw [h i (List.mem_range.1 hi)]
theorem Rel.end1 {d : Dev} {r : Rd} {M : Nat → Nat} {L : Rm.By} (e : Rel d r M L) (h : r.st = 1) (hl : ¬ 1 < r.lf) (h1 : r.wt = 1) (hf : rfits r 4096) : Rel (tickD d M 4096) ((r.wlf 0).wst 2) (tickM d M 4096) (Rm.setN L r.we (fun j => (((rbytes r r.wh)[j]?).getD 0).toNat) 64) := by
  have hE := e.ends.2 ⟨h, hl⟩
  have hf' := (e.fits h 4096).2 hf
  obtain ⟨r1, r2, r3, r4⟩ := e.run hE.1
  rw [tick_end hE.1 (by have := hE.2; omega)]
  unfold tickM endD endM
  rw [if_pos hE, if_neg (fun q => by omega), if_pos ⟨by omega, hf'⟩, if_pos ⟨by omega, hf'⟩]
  refine ⟨e.rs, e.rc, e.ra, rfl, e.dl, fun q => by have : (2 : Nat) = 1 := q; omega, e.sec, fun i hi => ?_⟩
  rw [Rm.look_setN, r3, r1, e.sec _ hf.1]
  unfold lay
  have hl64 : (rbytes r r.wh).length = 64 := by rw [← e.sec _ hf.1, bytesM_length]
  rw [hl64]
  split
  · rfl
  · exact e.mem i hi
theorem Rel.end2 {d : Dev} {r : Rd} {M : Nat → Nat} {L : Rm.By} (e : Rel d r M L) (h : r.st = 1) (hl : ¬ 1 < r.lf) (h2 : r.wt = 2) (hf : rfits r 4096) : Rel (tickD d M 4096) (((r.wlf 0).wL r.wh (bytesM (Rm.look L) r.we 64)).wst 2) M L ∧ tickM d M 4096 = M := by
  have hE := e.ends.2 ⟨h, hl⟩
  have hf' := (e.fits h 4096).2 hf
  obtain ⟨r1, r2, r3, r4⟩ := e.run hE.1
  rw [tick_end hE.1 (by have := hE.2; omega)]
  unfold tickM endD endM
  rw [if_pos hE, if_pos ⟨by omega, hf'⟩, if_neg (fun q => by omega)]
  refine ⟨⟨e.rs, e.rc, e.ra, rfl, e.dl, fun q => by have : (2 : Nat) = 1 := q; omega, fun n hn => ?_, e.mem⟩, rfl⟩
  show bytesM (takeS d.S d.us M d.ua) (n * 64) 64 = rbytes _ n
  unfold rbytes
  show _ = if updL r.L r.wh (bytesM (Rm.look L) r.we 64) n = [] then List.replicate 64 0 else updL r.L r.wh (bytesM (Rm.look L) r.we 64) n
  unfold updL
  have hx := hf.2
  by_cases hns : n = r.wh
  · rw [hns, if_pos rfl, ← r1, bytes_take, if_neg (fun q => by have := congrArg List.length q; rw [bytesM_length] at this; simp at this), r3]
    exact bytes_eq fun i hi => e.mem _ (by omega)
  · rw [if_neg hns, bytes_takeO (by rw [r1]; exact hns), e.sec n hn]
    rfl
theorem Rel.end3 {d : Dev} {r : Rd} {M : Nat → Nat} {L : Rm.By} (e : Rel d r M L) (h : r.st = 1) (hl : ¬ 1 < r.lf) (hn : ¬ ((r.wt = 1 ∨ r.wt = 2) ∧ rfits r 4096)) : Rel (tickD d M 4096) ((r.wlf 0).wst 3) M L ∧ tickM d M 4096 = M := by
  have hE := e.ends.2 ⟨h, hl⟩
  have hf' := e.fits h 4096
  obtain ⟨r1, r2, r3, r4⟩ := e.run hE.1
  rw [tick_end hE.1 (by have := hE.2; omega)]
  unfold tickM endD endM
  have n1 : ¬ (d.uc = 1 ∧ YtkbiadobkheafaaDoor.fits d 4096) := fun q => hn ⟨.inl (by omega), hf'.1 q.2⟩
  have n2 : ¬ (d.uc = 2 ∧ YtkbiadobkheafaaDoor.fits d 4096) := fun q => hn ⟨.inr (by omega), hf'.1 q.2⟩
  rw [if_pos hE, if_neg n2, if_neg n1, if_neg n1]
  exact ⟨⟨e.rs, e.rc, e.ra, rfl, e.dl, fun q => by have : (3 : Nat) = 1 := q; omega, e.sec, e.mem⟩, rfl⟩
theorem wlf_ok {r : Rd} (h : r.ok) {n : Nat} (hn : n < 4294967296) : (r.wlf n).ok := ⟨h.se, h.cm, h.ad, h.st, h.wh, h.wt, h.we, hn, h.dl, h.L⟩
theorem wst_ok {r : Rd} (h : r.ok) {n : Nat} (hn : n < 4) : (r.wst n).ok := ⟨h.se, h.cm, h.ad, hn, h.wh, h.wt, h.we, h.lf, h.dl, h.L⟩
theorem wL_ok {r : Rd} (h : r.ok) {n : Nat} {t : List UInt8} (ht : t.length = 64) : (r.wL n t).ok := ⟨h.se, h.cm, h.ad, h.st, h.wh, h.wt, h.we, h.lf, h.dl, fun k => by
  show updL r.L n t k = [] ∨ _
  unfold Rd.wL updL
  by_cases hk : k = n
  · rw [if_pos hk]; exact .inr (by simp only [hk, if_true]; exact ht)
  · rw [if_neg hk]; simp only [hk, if_false]; exact h.L k⟩
end Go.Proofs.YtkbiadobkheafaaDoor
