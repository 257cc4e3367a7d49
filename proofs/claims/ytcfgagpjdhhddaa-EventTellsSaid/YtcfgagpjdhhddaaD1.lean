/-
  Events, as the program has them: may, Which, read.
-/
import Derived.Test.YtcfgagpjdhhddaaC5
import Derived.Test.YtcfgagpjdhhddaaS1
set_option linter.unusedSimpArgs false
set_option linter.unusedVariables false
set_option linter.unusedSectionVars false
namespace Go.Proofs.Ytcfgagpjdhhddaa
open Go Go.Mini Go.Proofs.Try

def evA (e : Ev) : Array Value := #[.int .u32 e.t, .int .u8 e.g, .int .u8 e.k, .int .u32 e.v]
theorem wrap32 (n : Int) : IntKind.u32.wrap n = n % 4294967296 := by simp [IntKind.wrap, IntKind.bits, IntKind.signed]
theorem wrap8 (n : Int) : IntKind.u8.wrap n = n % 256 := by simp [IntKind.wrap, IntKind.bits, IntKind.signed]
theorem bits32 : IntKind.u32.bits = 32 := rfl
def whichE (e : Ev) : Nat × Bool := if e.k = 2 ∧ 8 ≤ e.v ∧ e.v ≤ 15 then (e.v / 2, decide (e.v % 2 = 1)) else (0, false)

theorem which_call {e : Ev} {h : Hp} {K : Value → Hp → Prop} (he : e.ok) (hK : K (.tuple #[.int .i64 (whichE e).1, .bool (whichE e).2]) h) : ACall prog 18 [.agg (evA e)] h K := by
  obtain ⟨t, g, k, v⟩ := e
  obtain ⟨h1, h2, h3, h4⟩ := he
  simp only at h1 h2 h3 h4
  unfold evA
  refine acallF_of tb0 func18 rfl rfl mixed (by kernel_rfl) fun hwf => ?_
  have b1 : ((v : Nat) : Int).fdiv (2 ^ min 1 IntKind.u32.bits) = (v / 2 : Nat) := by
    rw [bits32, Int.fdiv_eq_ediv_of_nonneg _ (by decide)]; rfl
  have b2 : IntKind.u32.wrap ↑(v % 2 ^ IntKind.u32.bits &&& 1 % 2 ^ IntKind.u32.bits) = (v % 2 : Nat) := by
    rw [bits32, Nat.mod_eq_of_lt (show v < 2 ^ 32 from h4), show 1 % 2 ^ 32 = 1 from rfl, Nat.and_one_is_mod, wrap32]; omega
  unfold whichE at hK
  simp only at hK
  generalize hm : v / 2 = m at *
  by_cases hk : k = 2
  · by_cases hlo : m < 4
    · rw [if_neg (by omega)] at hK
      have hlo' : ((m : Nat) : Int) < 4 := by omega
      simp -dsimp (disch := omega) [b1, hk, hlo, hlo']
      exact RetF.same hwf (by simp) (Nat.zero_le _) (fun i hi => by simp (disch := omega)) hK
    · by_cases hhi : 8 ≤ m
      · rw [if_neg (by omega)] at hK
        have hlo' : ¬ ((m : Nat) : Int) < 4 := by omega
        have hhi' : (8 : Int) ≤ m := by omega
        simp -dsimp (disch := omega) [b1, hk, hlo, hhi, hlo', hhi']
        exact RetF.same hwf (by simp) (Nat.zero_le _) (fun i hi => by simp (disch := omega)) hK
      · rw [if_pos (by omega)] at hK
        have hlo' : ¬ ((m : Nat) : Int) < 4 := by omega
        have hhi' : ¬ (8 : Int) ≤ m := by omega
        simp -dsimp (disch := omega) [b1, hk, hlo, hhi, hlo', hhi', b2]
        exact RetF.same hwf (by simp [b2]; rw [← decide_not]; exact decide_eq_decide.2 (by omega)) (Nat.zero_le _) (fun i hi => by simp (disch := omega)) hK
  · rw [if_neg (by omega)] at hK
    have hk' : ¬ ((k : Nat) : Int) = 2 := by omega
    simp -dsimp (disch := omega) [b1, hk, hk']
    exact RetF.same hwf (by simp) (Nat.zero_le _) (fun i hi => by simp (disch := omega)) hK

theorem may_call {e : Ev} {h : Hp} {K : Value → Hp → Prop} (he : e.ok) (hK : K (.bool (mayE e)) h) : ACall prog 28 [.agg (evA e)] h K := by
  have hw : ∀ {h : Hp} {K : Value → Hp → Prop}, K (.tuple #[.int .i64 (whichE e).1, .bool (whichE e).2]) h → ACall prog 18 [.agg (evA e)] h K := fun hK => which_call he hK
  obtain ⟨t, g, k, v⟩ := e
  obtain ⟨h1, h2, h3, h4⟩ := he
  simp only at h1 h2 h3 h4
  unfold evA at *
  refine acallF_of tb0 func28 rfl rfl mixed (by kernel_rfl) fun hwf => ?_
  unfold mayE at hK
  unfold whichE at hw
  simp only at hK hw
  by_cases k2 : k = 2
  · subst k2
    simp -dsimp (disch := omega)
    refine hw ?_
    by_cases hv : 8 ≤ v ∧ v ≤ 15
    · have hv2 : 0 < v / 2 := by omega
      have hv3 : (0 : Int) < ((v / 2 : Nat) : Int) := by omega
      simp only [hv, and_self, if_true]
      generalize v / 2 = m at *
      simp -dsimp (disch := omega) [hv2]
      exact RetF.same hwf (by simp [hv]) (Nat.zero_le _) (fun i hi => by simp (disch := omega)) hK
    · have hv2 : ¬ (2 = 2 ∧ 8 ≤ v ∧ v ≤ 15) := fun q => hv q.2
      rw [if_neg hv2]
      simp -dsimp (disch := omega)
      refine RetF.same hwf ?_ (Nat.zero_le _) (fun i hi => by simp (disch := omega)) hK
      simp
      omega
  · by_cases k1 : k = 1
    · subst k1
      simp -dsimp (disch := omega)
      refine RetF.same hwf ?_ (Nat.zero_le _) (fun i hi => by simp (disch := omega)) hK
      simp
      try omega
    · by_cases k3 : k = 3
      · subst k3
        simp -dsimp (disch := omega)
        refine RetF.same hwf ?_ (Nat.zero_le _) (fun i hi => by simp (disch := omega)) hK
        simp
        try omega
      · have n1 : ¬ ((k : Nat) : Int) = 1 := by omega
        have n2 : ¬ ((k : Nat) : Int) = 2 := by omega
        have n3 : ¬ ((k : Nat) : Int) = 3 := by omega
        simp -dsimp (disch := omega) [n1, n2, n3]
        exact RetF.same hwf (by simp [k1, k2, k3]) (Nat.zero_le _) (fun i hi => by simp (disch := omega)) hK

/-- A heap that goes on, but for one block. -/
structure Mod (s : Nat) (h h' : Hp) : Prop where
  le : h.next ≤ h'.next
  same : ∀ i, i < h.next → i ≠ s → h'.blks i = h.blks i
theorem Mod.of_set {s : Nat} {h h' : Hp} {b : Blk} (he : Ext (h.set s b) h') : Mod s h h' := ⟨he.le, fun i hi hs => by rw [he.same i hi, blks_set_ne _ _ _ _ hs]⟩
theorem Mod.trans {s : Nat} {h h' h'' : Hp} (a : Mod s h h') (b : Mod s h' h'') : Mod s h h'' := ⟨Nat.le_trans a.le b.le, fun i hi hs => (b.same i (Nat.lt_of_lt_of_le hi a.le) hs).trans (a.same i hi hs)⟩

theorem num_numL : ∀ l : List UInt8, numL l = (num l : Int)
  | [] => rfl
  | b :: l => by rw [numL, num, num_numL l]; omega
theorem numTo_num (l : List UInt8) : numTo (txt l) (txt l).size = (num l : Int) := by
  rw [numTo_list _ _ (Nat.le_refl _), txt_data, List.take_of_length_le (by rw [txt_size]; exact Nat.le_refl _), num_numL]
theorem txt_data_ (l : List UInt8) : (txt l).data = l.toArray := rfl
theorem ext_txt (L : List UInt8) (a b : Nat) : (txt L).extract a b = txt ((L.drop a).take (b - a)) := by
  apply ByteArray.ext
  apply Array.ext'
  rw [txt_data]
  simp [txt_data_]
theorem num_one (L : List UInt8) (o : Nat) : num ((L.drop o).take 1) = byteAt L o := by
  unfold byteAt
  cases h : L.drop o with
  | nil => rw [show L[o]? = none from by rw [← List.head?_drop, h]; rfl]; rfl
  | cons b l => rw [show L[o]? = some b from by rw [← List.head?_drop, h]; rfl]; simp [num]

/-- A source behind so many takes. -/
theorem take_num {w : Int} {h : Hp} {s p q : Nat} {L : List UInt8} {o : Nat} {left : Int} {K : Value → Hp → Prop} (hs : Srce h s p q (txt L) o left false) (hw : (wideF w : Int) ≤ left)
    (hK : ∀ h', Mod s h h' → Srce h' s p q (txt L) ((o + (wideF w).toNat : Nat)) (left - wideF w) false → K (.int .u64 (num ((L.drop o).take (wideF w).toNat) : Nat)) h') : ACall prog 36 [.pointer (some ⟨s, 0, none⟩), .int .i64 w] h K := by
  have hr := wideF_range w
  have hg : got (txt L) o left false (wideF w) = txt ((L.drop o).take (wideF w).toNat) := by
    unfold got
    rw [if_neg (by simp; omega), ext_txt]
    congr 3
    omega
  refine taken_call hs fun h' he => ?_
  rw [hg, numTo_num]
  have ha := (hs.after (n := wideF w) (by omega)).ext he
  have e1 : nxtA o left false (wideF w) = ((o + (wideF w).toNat : Nat) : Int) := by unfold nxtA; rw [if_neg (by simp; omega)]; omega
  have e2 : nxtL left false (wideF w) = left - wideF w := by unfold nxtL; rw [if_neg (by simp; omega)]
  have e3 : nxtT left false (wideF w) = false := by unfold nxtT; rw [if_neg (by simp; omega)]
  rw [e1, e2, e3] at ha
  exact hK h' (Mod.of_set he) ha

end Go.Proofs.Ytcfgagpjdhhddaa
