/-
  A record is read.
-/
import Derived.Test.YtcfgagpjdhhddaaD1
set_option linter.unusedSimpArgs false
set_option linter.unusedVariables false
set_option linter.unusedSectionVars false
namespace Go.Proofs.Ytcfgagpjdhhddaa
open Go Go.Mini Go.Proofs.Try

def tb27 : Nat → Marks := fun k => if k = 2 then ⟨[0, 2], fun _ => True⟩ else ⟨[], fun _ => True⟩
@[simp] theorem tb27_l2 : (tb27 2).l = [0, 2] := rfl
@[simp] theorem tb27_l1 : (tb27 1).l = [] := rfl
@[simp] theorem tb27_l0 : (tb27 0).l = [] := rfl
@[simp] theorem tb27_R (k x : Nat) : (tb27 k).R x := by unfold tb27; split <;> trivial
theorem Mod.alloc {s : Nat} {h h' : Hp} (a : Mod s h h') (b : Blk) : Mod s h (h'.alloc b) := ⟨by have := a.le; simp; omega, fun i hi hs => by rw [blks_alloc_ne _ _ _ (by have := a.le; omega)]; exact a.same i hi hs⟩
theorem Mod.refl (s : Nat) (h : Hp) : Mod s h h := ⟨Nat.le_refl _, fun _ _ _ => rfl⟩
theorem Mod.setN {s : Nat} {h h' : Hp} (a : Mod s h h') {i : Nat} (b : Blk) (hi : h.next ≤ i) : Mod s h (h'.set i b) := ⟨a.le, fun j hj hs => by rw [blks_set_ne _ _ _ _ (by omega)]; exact a.same j hj hs⟩
theorem Srce.alloc {h : Hp} {s p q : Nat} {S : ByteArray} {a l : Int} {t : Bool} (hs : Srce h s p q S a l t) (b : Blk) : Srce (h.alloc b) s p q S a l t := hs.ext (Ext.alloc h b)
theorem Srce.setN {h : Hp} {s p q r : Nat} {S : ByteArray} {at_ left : Int} {torn : Bool} {b : Blk} (hs : Srce h s p q S at_ left torn) (h1 : s ≠ r) (h2 : p ≠ r) (h3 : q ≠ r) : Srce (h.set r b) s p q S at_ left torn :=
  ⟨by rw [blks_set_ne _ _ _ _ h1]; exact hs.bs, by rw [blks_set_ne _ _ _ _ h2]; exact hs.bp, by rw [blks_set_ne _ _ _ _ h3]; exact hs.bq, hs.ls, hs.lp, hs.lq, hs.ps, hs.qs, hs.at0, hs.left0, hs.sum, hs.len⟩

theorem read_fine {h : Hp} {s p q o : Nat} {L : List UInt8} {left : Int} {K : Value → Hp → Prop} (hs : Srce h s p q (txt L) o left false) (hl : 10 ≤ left)
    (hK : ∀ h', Mod s h h' → Srce h' s p q (txt L) (o + 10 : Nat) (left - 10) false → K (.tuple #[.agg (evA (recA L o)), .bool true]) h') : ACall prog 27 [.pointer (some ⟨s, 0, none⟩)] h K := by
  refine acallF_of tb27 func27 rfl rfl mixed (by kernel_rfl) fun hwf => ?_
  have w4 : wideF 4 = 4 := rfl
  have w1 : wideF 1 = 1 := rfl
  have ls := hs.ls
  have lp := hs.lp
  have lq := hs.lq
  have m1 := num4_lt L o
  have m2 := byteAt_lt L (o + 4)
  have m3 := byteAt_lt L (o + 5)
  have m4 := num4_lt L (o + 6)
  have z4 : Int.toNat 4 = 4 := rfl
  have z1 : Int.toNat 1 = 1 := rfl
  have c1 : IntKind.u32.wrap ((num ((L.drop o).take 4) : Nat) : Int) = (num ((L.drop o).take 4) : Nat) := by rw [wrap32]; omega
  have c2 : IntKind.u8.wrap ((byteAt L (o + 4) : Nat) : Int) = (byteAt L (o + 4) : Nat) := by rw [wrap8]; omega
  have c3 : IntKind.u8.wrap ((byteAt L (o + 5) : Nat) : Int) = (byteAt L (o + 5) : Nat) := by rw [wrap8]; omega
  have c4 : IntKind.u32.wrap ((num ((L.drop (o + 6)).take 4) : Nat) : Int) = (num ((L.drop (o + 6)).take 4) : Nat) := by rw [wrap32]; omega
  simp -dsimp (disch := omega)
  refine take_num (hs.alloc _) (by rw [w4]; omega) fun h1 q1 s1 => ?_
  rw [w4, z4] at s1
  rw [w4, z4]
  simp -dsimp (disch := omega) [c1]
  refine take_num s1 (by rw [w1]; omega) fun h2 q2 s2 => ?_
  rw [w1, z1] at s2
  rw [w1, z1, num_one]
  simp -dsimp (disch := omega) [c2]
  refine take_num s2 (by rw [w1]; omega) fun h3 q3 s3 => ?_
  rw [w1, z1] at s3
  rw [w1, z1, num_one]
  simp -dsimp (disch := omega) [c3]
  refine take_num s3 (by rw [w4]; omega) fun h4 q4 s4 => ?_
  rw [w4, z4, show o + 4 + 1 + 1 + 4 = o + 10 from rfl, show left - 4 - 1 - 1 - 4 = left - 10 from by omega] at s4
  rw [w4, z4]
  have Q := ((q1.trans q2).trans q3).trans q4
  have hb := Q.same h.next (by simp) (by omega)
  rw [blks_alloc_eq] at hb
  have Qn := Q.le
  simp only [Hp.next_alloc] at Qn
  simp -dsimp (disch := omega) [c4, hb]
  refine fail_call (s4.alloc _) ?_
  simp -dsimp (disch := omega) [hb]
  refine RetF.all ?_ (hK _ ?_ ?_)
  · simp (disch := omega) [hb, evA, recA]
  · refine ⟨by simp; omega, fun i hi hne => ?_⟩
    have := Q.same i (by simp; omega) hne
    rw [blks_alloc_ne _ _ _ (by omega)] at this
    simp (disch := omega) [this]
  · exact (s4.setN (by omega) (by omega) (by omega)).alloc _

theorem nxtT_or (left : Int) (torn : Bool) (n : Int) : nxtT left torn n = true ∨ (torn = false ∧ n ≤ left ∧ nxtT left torn n = false ∧ nxtL left torn n = left - n) := by
  unfold nxtT nxtL
  by_cases hc : torn = true ∨ left < n
  · left; rw [if_pos hc]
  · right
    rw [if_neg hc, if_neg hc]
    exact ⟨by cases torn <;> simp_all, by omega, rfl, rfl⟩
theorem nxtT_true (left n : Int) : nxtT left true n = true := by unfold nxtT; rw [if_pos (.inl rfl)]

theorem read_torn {h : Hp} {s p q : Nat} {S : ByteArray} {at_ left : Int} {torn : Bool} {K : Value → Hp → Prop} (hs : Srce h s p q S at_ left torn) (hl : left < 10)
    (hK : ∀ (a b c d : Int) (h' : Hp), Mod s h h' → K (.tuple #[.agg #[.int .u32 a, .int .u8 b, .int .u8 c, .int .u32 d], .bool false]) h') : ACall prog 27 [.pointer (some ⟨s, 0, none⟩)] h K := by
  refine acallF_of tb27 func27 rfl rfl mixed (by kernel_rfl) fun hwf => ?_
  have w4 : wideF 4 = 4 := rfl
  have w1 : wideF 1 = 1 := rfl
  have ls := hs.ls
  have lp := hs.lp
  have lq := hs.lq
  simp -dsimp (disch := omega)
  refine taken_call (hs.alloc _) fun h1 q1 => ?_
  have s1 := ((hs.alloc ⟨#[.int .u32 0, .int .u8 0, .int .u8 0, .int .u32 0], 1, true⟩).after (n := wideF 4) (by decide)).ext q1
  have r1 := Mod.of_set q1
  generalize numTo _ _ = n1
  simp -dsimp (disch := omega)
  refine taken_call s1 fun h2 q2 => ?_
  have s2 := (s1.after (n := wideF 1) (by decide)).ext q2
  have r2 := Mod.of_set q2
  generalize numTo _ _ = n2
  simp -dsimp (disch := omega)
  refine taken_call s2 fun h3 q3 => ?_
  have s3 := (s2.after (n := wideF 1) (by decide)).ext q3
  have r3 := Mod.of_set q3
  generalize numTo _ _ = n3
  simp -dsimp (disch := omega)
  refine taken_call s3 fun h4 q4 => ?_
  have s4 := (s3.after (n := wideF 4) (by decide)).ext q4
  have r4 := Mod.of_set q4
  generalize numTo _ _ = n4
  have hT : nxtT (nxtL (nxtL (nxtL left torn (wideF 4)) (nxtT left torn (wideF 4)) (wideF 1)) (nxtT (nxtL left torn (wideF 4)) (nxtT left torn (wideF 4)) (wideF 1)) (wideF 1)) (nxtT (nxtL (nxtL left torn (wideF 4)) (nxtT left torn (wideF 4)) (wideF 1)) (nxtT (nxtL left torn (wideF 4)) (nxtT left torn (wideF 4)) (wideF 1)) (wideF 1)) (wideF 4) = true := by
    rw [w4, w1]
    rcases nxtT_or left torn 4 with h1 | ⟨t1, u1, v1, x1⟩
    · rw [h1]; simp only [nxtT_true]
    · rw [v1, x1]
      rcases nxtT_or (left - 4) false 1 with h2 | ⟨t2, u2, v2, x2⟩
      · rw [h2]; simp only [nxtT_true]
      · rw [v2, x2]
        rcases nxtT_or (left - 4 - 1) false 1 with h3 | ⟨t3, u3, v3, x3⟩
        · rw [h3]; simp only [nxtT_true]
        · rw [v3, x3]
          rcases nxtT_or (left - 4 - 1 - 1) false 4 with h4 | ⟨t4, u4, v4, x4⟩
          · exact h4
          · omega
  rw [hT] at s4
  have Q := ((r1.trans r2).trans r3).trans r4
  have hb := Q.same h.next (by simp) (by omega)
  rw [blks_alloc_eq] at hb
  have Qn := Q.le
  simp only [Hp.next_alloc] at Qn
  simp -dsimp (disch := omega) [hb]
  refine fail_call (s4.alloc _) ?_
  simp -dsimp (disch := omega) [hb]
  refine RetF.all ?_ (hK (IntKind.u32.wrap n1) (IntKind.u8.wrap n2) (IntKind.u8.wrap n3) (IntKind.u32.wrap n4) _ ?_)
  · simp (disch := omega) [hb]
  · refine ⟨by simp; omega, fun i hi hne => ?_⟩
    have := Q.same i (by simp; omega) hne
    rw [blks_alloc_ne _ _ _ (by omega)] at this
    simp (disch := omega) [this]

end Go.Proofs.Ytcfgagpjdhhddaa
