/-
  A block device: Sector.
-/
import Derived.Test.YtkbiadobkheafaaU4
set_option linter.unusedSimpArgs false
set_option linter.unusedVariables false
set_option linter.unusedSectionVars false
namespace Go.Proofs.Ytkbiadobkheafaa
open Go Go.Mini Go.Proofs.Try
set_option maxRecDepth 100000

def secM (d : Dev) (n : Nat) : Nat → Nat := fun i => d.S (n * 64 + i)
theorem devC_sec (d : Dev) {n : Nat} (hn : n < 32) : (devC d).extract (10 + n * 64) (10 + n * 64 + 64) = mem 64 (secM d n) := by
  refine mem_ext (by simp; omega) fun i hi => ?_
  rw [Array.getElem?_extract, if_pos (by simp; omega), show 10 + n * 64 + i = 10 + (n * 64 + i) by omega, devC_S d (by omega)]
  rfl
section
variable {h : Hp} {K : Value → Hp → Prop} {p : Nat} {d : Dev}
theorem sector_no {n : Int} (hb : h.blks p = some ⟨devC d, 1, true⟩) (hn : n < 0 ∨ 32 ≤ n) (hK : K (.tuple #[.string (txt []), .bool false]) h) : ACall prog 17 [ptr p, .int .i64 n] h K := by
  refine acallF_of tb0 func17 rfl rfl mixed (by kernel_rfl) fun hwf => ?_
  simp -dsimp (disch := omega)
  refine is_call hb ?_
  by_cases c1 : n < 0
  · simp -dsimp (disch := omega) [c1]
    exact RetF.same (r := .tuple #[.string (txt []), .bool false]) hwf (by simp) (Nat.zero_le _) (fun _ _ => rfl) hK
  · have c2 : 32 ≤ n := by omega
    simp -dsimp (disch := omega) [c1, c2]
    exact RetF.same (r := .tuple #[.string (txt []), .bool false]) hwf (by simp) (Nat.zero_le _) (fun _ _ => rfl) hK
theorem sector_call {n : Nat} (hb : h.blks p = some ⟨devC d, 1, true⟩) (hd : d.ok) (hn : n < 32) (hK : K (.tuple #[.string (txt ((List.range 64).map fun i => UInt8.ofNat (secM d n i))), .bool true]) h) : ACall prog 17 [ptr p, .int .i64 n] h K := by
  refine acallF_of tb0 func17 rfl rfl mixed (by kernel_rfl) fun hwf => ?_
  simp -dsimp (disch := omega)
  refine is_call hb ?_
  have c1 : ¬ (n : Int) < 0 := by omega
  have c2 : ¬ 32 ≤ n := by omega
  have c3 : ¬ (32 : Int) ≤ n := by omega
  obtain ⟨c, hc⟩ : ∃ c, c = devC d := ⟨_, rfl⟩
  have cs : c.size = 2058 := by rw [hc]; simp
  have ce : c.extract (10 + n * 64) (10 + n * 64 + 64) = mem 64 (secM d n) := by rw [hc]; exact devC_sec d hn
  rw [← hc] at hb
  clear hc
  obtain ⟨e, he⟩ : ∃ e, e = mem 64 (secM d n) := ⟨_, rfl⟩
  have es : e.size = 64 := by rw [he]; simp
  have S8 := hd.S
  have el : e = (((List.range 64).map fun i => UInt8.ofNat (secM d n i)).map byteV).toArray := by
    rw [he]
    refine (mem_ext (by simp) fun i hi => ?_).symm
    rw [List.getElem?_toArray, List.getElem?_map, List.getElem?_map, List.getElem?_range hi]
    have := S8 (n * 64 + i)
    simp [byteV, secM, Nat.mod_eq_of_lt this]
  have eo : oneAll e.toList = true := by
    rw [el]
    have h : ∀ l : List UInt8, oneAll (l.map byteV) = true := by
      intro l
      induction l with
      | nil => rfl
      | cons v l ih => rw [List.map_cons, oneAll_cons, ih]; rfl
    exact h _
  have eS : strOf e.toList = some ((List.range 64).map fun i => UInt8.ofNat (secM d n i)) := by rw [el]; simp only [strOf_bytes]
  have ee : e.extract 0 64 = e := by have := Array.extract_size (xs := e); rwa [es] at this
  have sl : ∀ b, asliceRow ⟨b, 0, none⟩ 1 64 128 none none none = some (.slice (some ⟨b, 0, none⟩) 64 128) := fun b => rfl
  have ep : putL (repV 64 (Value.int IntKind.u8 0)) 0 e.toList = e := putL_full (by rw [es]; simp [repV])
  have er : (repV 64 (Value.int IntKind.u8 0)).size = 64 := by simp [repV]
  rw [← he] at ce
  simp -dsimp (disch := omega) [hb, cs, ce, c1, c2, c3, es, eo, ep, er, eS, ee, sl]
  exact RetF.same (r := .tuple #[.string (txt ((List.range 64).map fun i => UInt8.ofNat (secM d n i))), .bool true]) hwf (by simp) (Nat.zero_le _) (fun i hi => by simp (disch := omega)) hK
end
end Go.Proofs.Ytkbiadobkheafaa
