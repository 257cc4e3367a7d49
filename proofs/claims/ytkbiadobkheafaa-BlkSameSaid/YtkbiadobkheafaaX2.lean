/-
  The document's device: Write, Reset, Bytes.
-/
import Derived.Test.YtkbiadobkheafaaX1
set_option linter.unusedSimpArgs false
set_option linter.unusedVariables false
set_option linter.unusedSectionVars false
namespace Go.Proofs.Ytkbiadobkheafaa
open Go Go.Mini Go.Proofs.Try
set_option maxRecDepth 100000

theorem refC_0 (r : Rd) : (refC r)[0]? = some (.int .u32 r.se) := refC_at r (by omega)
theorem refC_1 (r : Rd) : (refC r)[1]? = some (.int .u32 r.cm) := refC_at r (by omega)
theorem refC_2 (r : Rd) : (refC r)[2]? = some (.int .u64 r.ad) := refC_at r (by omega)
theorem refC_3 (r : Rd) : (refC r)[3]? = some (.int .i64 r.st) := refC_at r (by omega)
theorem refC_4 (r : Rd) : (refC r)[4]? = some (.int .u32 r.wh) := refC_at r (by omega)
theorem refC_5 (r : Rd) : (refC r)[5]? = some (.int .u32 r.wt) := refC_at r (by omega)
theorem refC_6 (r : Rd) : (refC r)[6]? = some (.int .u64 r.we) := refC_at r (by omega)
theorem refC_7 (r : Rd) : (refC r)[7]? = some (.int .u32 r.lf) := refC_at r (by omega)
theorem refC_8 (r : Rd) : (refC r)[8]? = some (.int .u32 r.dl) := refC_at r (by omega)
theorem refC_st1 (r : Rd) : (refC r).setIfInBounds 3 (.int .i64 1) = refC { r with st := 1 } := refC_s3 r 1
theorem refC_st0 (r : Rd) : (refC r).setIfInBounds 3 (.int .i64 0) = refC { r with st := 0 } := refC_s3 r 0
theorem refC_st2 (r : Rd) : (refC r).setIfInBounds 3 (.int .i64 2) = refC { r with st := 2 } := refC_s3 r 2
theorem refC_st3 (r : Rd) : (refC r).setIfInBounds 3 (.int .i64 3) = refC { r with st := 3 } := refC_s3 r 3
section
variable {h : Hp} {K : Value → Hp → Prop} {q : Nat} {r : Rd}
theorem rset_same {b : Blk} (hb : h.blks q = some b) : h.set q b = h := set_same hb
set_option maxHeartbeats 1000000 in
theorem rWrite_call {off v : Nat} {w : Int} (hb : h.blks q = some ⟨refC r, 1, true⟩) (hd : r.ok) (ho : off < 18446744073709551616) (hv : v < 18446744073709551616) (hK : K (.bool (mayD off w)) (h.set q ⟨refC (if mayD off w = true then rwriteR r off v else r), 1, true⟩)) : ACall prog 36 [ptr q, .int .u64 off, .int .u64 v, .int .i64 w] h K := by
  refine acallF_of tb0 func36 rfl rfl mixed (by kernel_rfl) fun hwf => ?_
  simp -dsimp (disch := omega)
  refine rRead_call hb hd ho ?_
  have m32 : v % 4294967296 < 4294967296 := Nat.mod_lt _ (by omega)
  have e32 : (v : Int) % 4294967296 = ((v % 4294967296 : Nat) : Int) := by omega
  have h3 := hd.st
  by_cases c : mayD off w = true
  · rw [c, if_pos rfl] at hK
    unfold rwriteR at hK
    have c2 := c
    unfold mayD at c2
    have c3 := of_decide_eq_true c2
    rw [c]
    generalize rreadR r off w = rr at *
    generalize v % 4294967296 = m at *
    by_cases k1 : off = 0
    · rw [if_pos k1] at hK
      simp -dsimp (disch := omega) [hb, k1, e32, refC_s0]
      exact RetF.all (r := .bool true) (by simp) hK
    rw [if_neg k1] at hK
    by_cases k2 : off = 8
    · rw [if_pos k2] at hK
      have z : (off : Int) = 8 := by omega
      simp -dsimp (disch := omega) [hb, k1, k2, z, refC_s2]
      exact RetF.all (r := .bool true) (by simp) hK
    rw [if_neg k2] at hK
    have z2 : ¬ (off : Int) = 8 := by omega
    by_cases k3 : off = 16
    · rw [if_pos k3] at hK
      have z : (off : Int) = 16 := by omega
      unfold rbeginR at hK
      by_cases hs : r.st = 1
      · rw [if_pos hs, set_same hb] at hK
        simp -dsimp (disch := omega) [hb, k1, z2, k3, z, e32, refC_3, hs, -getElem?_pos]
        exact RetF.all (r := .bool true) (by simp) hK
      · rw [if_neg hs] at hK
        have hs' : ¬ (r.st : Int) = 1 := by omega
        simp -dsimp (disch := omega) [hb, k1, z2, k3, z, e32, refC_0, refC_1, refC_2, refC_3, refC_8, hs, hs', refC_s1, refC_s4, refC_s5, refC_s6, refC_s7, refC_st1, -getElem?_pos]
        exact RetF.all (r := .bool true) (by simp) hK
    rw [if_neg k3] at hK
    have z3 : ¬ (off : Int) = 16 := by omega
    by_cases k4 : off = 24
    · rw [if_pos k4] at hK
      have z : (off : Int) = 24 := by omega
      unfold rackR at hK
      by_cases hs2 : r.st = 2
      · rw [if_pos (.inl hs2)] at hK
        simp -dsimp (disch := omega) [hb, k1, z2, z3, k4, z, refC_3, hs2, refC_st0, -getElem?_pos]
        exact RetF.all (r := .bool true) (by simp) hK
      · by_cases hs3 : r.st = 3
        · rw [if_pos (.inr hs3)] at hK
          simp -dsimp (disch := omega) [hb, k1, z2, z3, k4, z, refC_3, hs3, refC_st0, -getElem?_pos]
          exact RetF.all (r := .bool true) (by simp) hK
        · rw [if_neg (by omega), set_same hb] at hK
          have n2 : ¬ (r.st : Int) = 2 := by omega
          have n3 : ¬ (r.st : Int) = 3 := by omega
          simp -dsimp (disch := omega) [hb, k1, z2, z3, k4, z, refC_3, hs2, hs3, n2, n3, -getElem?_pos]
          exact RetF.all (r := .bool true) (by simp) hK
    rw [if_neg k4, set_same hb] at hK
    have z4 : ¬ (off : Int) = 24 := by omega
    simp -dsimp (disch := omega) [k1, z2, z3, z4]
    exact RetF.all (r := .bool true) (by simp) hK
  · rw [if_neg c, set_same hb] at hK
    rw [Bool.not_eq_true] at c
    rw [c] at hK ⊢
    simp -dsimp (disch := omega)
    exact RetF.all (r := .bool false) (by simp) hK
theorem rBytes_call {n : Nat} (hb : h.blks q = some ⟨refC r, 1, true⟩) (hn : n < 32) (hK : ∀ h', Ext h h' → K (.string (txt (rbytes r n))) h') : ACall prog 42 [ptr q, .int .i64 n] h K := by
  refine acallF_of tb0 func42 rfl rfl mixed (by kernel_rfl) fun hwf => ?_
  have bL := refC_L r hn
  have cs : (refC r).size = 41 := refC_size r
  obtain ⟨l, hl⟩ : ∃ l, l = r.L n := ⟨_, rfl⟩
  rw [← hl] at bL
  unfold rbytes at hK
  rw [← hl] at hK
  obtain ⟨c, hc⟩ : ∃ c, c = refC r := ⟨_, rfl⟩
  rw [← hc] at bL hb cs
  clear hc hl
  by_cases e : l = []
  · rw [if_pos e] at hK
    subst e
    simp -dsimp (disch := omega) [hb, bL, cs, -getElem?_pos]
    refine mk_row (n := 64) rfl rfl ⟨by unfold ROOM; omega, by unfold ROOM; omega⟩ ?_
    have ez : zeroRow #[.int .u8 0] 64 = ((List.replicate 64 (0 : UInt8)).map byteV).toArray := by
      rw [show zeroRow #[.int .u8 0] 64 = mem 64 (fun _ => 0) from by have := mem_zero 64; simpa using this]
      refine (mem_ext (by simp) fun i hi => ?_).symm
      rw [List.getElem?_toArray, List.getElem?_map, List.getElem?_replicate, if_pos hi]
      rfl
    obtain ⟨z, hz⟩ : ∃ z, z = (List.replicate 64 (0 : UInt8)) := ⟨_, rfl⟩
    have zl : z.length = 64 := by rw [hz]; simp
    rw [← hz] at ez hK
    have zx : ((z.map byteV).toArray).extract 0 64 = (z.map byteV).toArray := by
      have := Array.extract_size (xs := (z.map byteV).toArray)
      rwa [show (z.map byteV).toArray.size = 64 by simp [zl]] at this
    clear hz
    simp -dsimp (disch := omega) [ez, zl, zx]
    exact RetF.all (r := .string (txt z)) (by simp) (hK _ (Ext.alloc _ _))
  · rw [if_neg e] at hK
    simp -dsimp (disch := omega) [hb, bL, cs, e, -getElem?_pos]
    exact RetF.all (r := .string (txt l)) (by simp) (hK _ (Ext.refl _))
theorem rReset_call (hb : h.blks q = some ⟨refC r, 1, true⟩) (hK : K (.tuple #[]) (h.set q ⟨refC (rresetR r), 1, true⟩)) : ACall prog 38 [ptr q] h K := by
  refine acallF_of tb0 func38 rfl rfl mixed (by kernel_rfl) fun hwf => ?_
  have b8 := refC_8 r
  have cs : (refC r).size = 41 := refC_size r
  obtain ⟨c, hc⟩ : ∃ c, c = refC r := ⟨_, rfl⟩
  rw [← hc] at b8 hb cs
  obtain ⟨m, hm⟩ : ∃ m, m = c.extract 9 41 := ⟨_, rfl⟩
  have ms : m.size = 32 := by rw [hm]; simp [cs]
  have mat : ∀ j, j < 32 → m[j]? = some (.string (txt (r.L j))) := fun j hj => by
    rw [hm, hc, Array.getElem?_extract, if_pos (by simp; omega), refC_L r hj]
  have hX : ∀ Z : Array Value, Z.size = 41 → (∀ i, i < 9 → Z[i]? = some (rcell (rresetR r) i)) → putL Z 9 m.toList = refC (rresetR r) := fun Z h1 h2 => by
    refine refC_ext (by simpa using h1) fun i hi => ?_
    rw [getElem?_putL]
    rcases Nat.lt_or_ge i 9 with c9 | c9
    · rw [if_neg (by omega), h2 i c9]
    · rw [if_pos ⟨c9, by simp [ms]; omega, by omega⟩, Array.getElem?_toList, mat _ (by omega)]
      unfold rcell
      rw [if_neg (by omega), if_neg (by omega), if_neg (by omega), if_neg (by omega), if_neg (by omega), if_neg (by omega), if_neg (by omega), if_neg (by omega), if_neg (by omega)]
      rfl
  have hO : oneAll (refC (rresetR r)).toList = true := by
    have h : ∀ l : List Value, (∀ v ∈ l, v.oneCell' = true) → oneAll l = true := by
      intro l
      induction l with
      | nil => intro _; rfl
      | cons v l ih => intro h; rw [oneAll_cons, h v (by simp), ih fun w hw => h w (by simp [hw])]; rfl
    refine h _ fun v hv => ?_
    unfold refC at hv
    simp only [List.mem_map] at hv
    obtain ⟨i, _, rfl⟩ := hv
    unfold rcell
    (repeat' split) <;> rfl
  have hP : putL c 0 (refC (rresetR r)).toList = refC (rresetR r) := putL_full (by rw [cs]; simp)
  have hS : (refC (rresetR r)).size = 41 := by simp
  obtain ⟨X, hXx⟩ : ∃ X, X = refC (rresetR r) := ⟨_, rfl⟩
  rw [← hXx] at hO hP hS hK
  rw [← hXx] at hX
  simp -dsimp (disch := omega) [hb, b8, cs, ← hm, ms, -getElem?_pos]
  rw [hX]
  · simp -dsimp (disch := omega) [hb, hO, hP, hS, cs]
    exact RetF.all (r := .tuple #[]) (by simp) hK
  · rfl
  · intro i hi
    rcases (by omega : i = 0 ∨ i = 1 ∨ i = 2 ∨ i = 3 ∨ i = 4 ∨ i = 5 ∨ i = 6 ∨ i = 7 ∨ i = 8) with rfl | rfl | rfl | rfl | rfl | rfl | rfl | rfl | rfl <;> rfl
end
end Go.Proofs.Ytkbiadobkheafaa
