/-
  A block device: letters, given, works.
-/
import Derived.Test.YtkbiadobkheafaaDoorU8
import Derived.Test.YtkbiadobkheafaaDoorShelf
import Derived.Test.YtkbiadobkheafaaDoorM24
set_option linter.unusedSimpArgs false
set_option linter.unusedVariables false
set_option linter.unusedSectionVars false
namespace Go.Proofs.YtkbiadobkheafaaDoor
open Go Go.Mini Go.Proofs.Tryd
set_option maxRecDepth 100000

theorem txt_extract (l : List UInt8) (a b : Nat) : (txt l).extract a b = txt ((l.take b).drop a) := by
  apply ByteArray.ext
  show ((txt l).extract a b).data = _
  rw [ByteArray.data_extract]
  apply Array.ext'
  rw [Array.toList_extract]
  show (l.extract a b) = _
  rw [List.extract_eq_take_drop, List.drop_take]
  rfl
def abc : List UInt8 := [97, 98, 99, 100, 101, 102, 103, 104, 105, 106, 107, 108, 109, 110, 111, 112, 113, 114, 115, 116, 117, 118, 119, 120, 121, 122]
/-- So many letters. -/
def lett (n : Nat) : List UInt8 := (Lib.repeatL abc (n / 26 + 1)).take n
theorem abc_length : abc.length = 26 := rfl
theorem lett_length (n : Nat) : (lett n).length = n := by
  unfold lett
  rw [List.length_take, Lib.repeatL_length, abc_length]
  omega
theorem repeatL_at : ∀ (c i : Nat), i < c * 26 → (Lib.repeatL abc c)[i]? = abc[i % 26]? := by
  intro c
  induction c with
  | zero => intro i hi; omega
  | succ c ih =>
    intro i hi
    show (abc ++ Lib.repeatL abc c)[i]? = _
    by_cases h : i < 26
    · rw [List.getElem?_append_left (by rw [abc_length]; exact h), Nat.mod_eq_of_lt h]
    · rw [List.getElem?_append_right (by rw [abc_length]; omega), abc_length, ih _ (by omega), show (i - 26) % 26 = i % 26 by omega]
theorem lett_at {n i : Nat} (h : i < n) : (lett n)[i]? = abc[i % 26]? := by
  unfold lett
  rw [List.getElem?_take, if_pos h, repeatL_at _ _ (by omega)]
section
variable {h : Hp} {K : Value → Hp → Prop}
theorem repeat_call {c : Nat} (hc : c ≤ 4096) (hK : K (.string (txt (Lib.repeatL abc c))) h) : ACall prog 37 [.string (txt abc), .int .i64 c] h K := by
  refine ACall.of_calls (r := .string (txt (Lib.repeatL abc c))) ⟨_, _, func37, rfl, rfl⟩ (by simp [vtop]) rfl (fun w => ?_) hK
  exact Go.Proofs.Tryd.strings_Repeat (txt abc) c w (by omega) (by show 26 * c ≤ _; omega)
theorem letters_call {n : Nat} (hn : n ≤ 4096) (hK : K (.string (txt (lett n))) h) : ACall prog 14 [.int .i64 n] h K := by
  refine acallF_of tb0 func14 rfl rfl mixed (by kernel_rfl) fun hwf => ?_
  obtain ⟨c, hc⟩ : ∃ c, c = n / 26 + 1 := ⟨_, rfl⟩
  have e : (n : Int) / 26 + 1 = c := by omega
  have hl : (txt (Lib.repeatL abc c)).size = c * 26 := by rw [txt_size, Lib.repeatL_length, abc_length]
  simp -dsimp (disch := omega) [e]
  refine repeat_call (by omega) ?_
  have hx : (txt (Lib.repeatL abc c)).extract 0 n = txt (lett n) := by rw [txt_extract, List.drop_zero, hc]; rfl
  simp -dsimp (disch := omega) [hl, hx]
  exact RetF.same hwf (by simp) (Nat.zero_le _) (fun _ _ => rfl) hK
end
end Go.Proofs.YtkbiadobkheafaaDoor
