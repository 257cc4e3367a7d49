/-
  All: a function over a queue's messages.
-/
import Derived.Test.YtggohjlfhomafaaQ2
import Derived.Test.YtggohjlfhomafaaM27
set_option linter.unusedSimpArgs false
set_option linter.unusedVariables false
set_option linter.unusedSectionVars false
namespace Go.Proofs.Ytggohjlfhomafaa
open Go Go.Mini Go.Proofs.Try

theorem qC_one (rg : Nat → ByteArray) (f m d o : Int) : oneAll (qC rg f m d o).toList = true := rfl
theorem putL_full {cs cs' : Array Value} (h : cs.size = cs'.size) : putL cs 0 cs'.toList = cs' := by
  apply Array.ext_getElem?
  intro j
  rw [getElem?_putL, Nat.sub_zero]
  by_cases hj : j < cs'.size
  · rw [if_pos ⟨Nat.zero_le _, by simpa using hj, by omega⟩]; simp
  · rw [if_neg (by simp; omega), Array.getElem?_eq_none (by omega), Array.getElem?_eq_none (by omega)]
theorem qC_put (rg : Nat → ByteArray) (f m d o : Int) : putL #[.string (txt []), .string (txt []), .string (txt []), .string (txt []), .string (txt []), .string (txt []), .string (txt []), .string (txt []), .string (txt []), .string (txt []), .string (txt []), .string (txt []), .string (txt []), .string (txt []), .string (txt []), .string (txt []), .int .i64 0, .int .i64 0, .int .i64 0, .int .i64 0] 0 (qC rg f m d o).toList = qC rg f m d o := putL_full (by simp)

section
variable {h : Hp} {K : Value → Hp → Prop} {p : Nat} {rg : Nat → ByteArray} {f m d o : Nat}
theorem all_call (hK : K (.func (.func 33) #[] #[.pointer (some ⟨h.next, 0, none⟩)]) (h.alloc ⟨#[.pointer (some ⟨p, 0, none⟩)], 1, true⟩)) : ACall prog 27 [.pointer (some ⟨p, 0, none⟩)] h K := by
  refine acallF_of tb0 func27 rfl rfl mixed (by kernel_rfl) fun hwf => ?_
  simp -dsimp (disch := omega)
  exact RetF.all (by simp) hK
theorem each_call [E : REnv] {L c : Nat} (hcan : E.can = true) (J : Nat → Hp → Prop) (hb : h.blks p = some (qB rg f m d o)) (hc : h.blks c = some ⟨#[.pointer (some ⟨p, 0, none⟩)], 1, true⟩) (hd : 0 < d) (hd2 : d ≤ 16) (hf : f < d) (hm : m ≤ d)
    (hJ : ∀ k hh, J k hh → h.next < hh.next ∧ hh.blks h.next = some (qB rg f m d o)) (h0 : J 0 (h.alloc (qB rg f m d o)))
    (hY : ∀ k hh, k < m → J k hh → YCall prog L [.string (rg ((f + k) % d))] hh (fun r h' => r = .bool true ∧ J (k + 1) h'))
    (hK : ∀ h', J m h' → K (.tuple #[]) h') : ACall prog 33 [.func (.yield L) #[] #[], .pointer (some ⟨c, 0, none⟩)] h K := by
  refine acallF_of tb0 func33 rfl rfl mixed (by kernel_rfl) fun hwf => ?_
  simp -dsimp (disch := omega) [hc]
  refine ACall.any (isq_call hb (by omega) ?_)
  unfold qB at hb h0 hJ
  simp -dsimp (disch := omega) [hc, hb, qC_all, qC_one, qC_put]
  refine awp_loop (fun t h' => ∃ k : Nat, k ≤ m ∧ t 13 = .int .i64 k ∧ t 12 = .int .i64 m ∧ t 0 = .func (.yield L) #[] #[] ∧ t 3 = .pointer (some ⟨h.next, 0, none⟩) ∧ J k h') (fun t _ => m - ivN (t 13)) ?_ ?_
  · simp -dsimp
    exact ⟨0, by omega, rfl, h0⟩
  · rintro t h' ⟨k, hk, h13, h12, h0, h3, hj⟩
    obtain ⟨j1, j2⟩ := hJ k h' hj
    refine vcF_sound mixed (tb := tb0) _ (by kernel_rfl) ?_
    simp -dsimp (disch := omega) [h13, h12]
    refine CondF_dec (fun hc => ?_) (fun hc => ?_)
    · obtain ⟨x, hx⟩ : ∃ x, x = (f + k) % d := ⟨_, rfl⟩
      have hxd : x < d := by rw [hx]; exact Nat.mod_lt _ hd
      have e : ((f : Int) + k) % d = x := by rw [hx]; simp
      have hy := hY k h' (by omega) hj
      rw [← hx] at hy
      have c4 := qC_at rg f m d o x (by omega)
      simp -dsimp (disch := omega) [h13, h12, h0, h3, j2, e, c4]
      refine ⟨hcan, YCall.mono hy ?_⟩
      rintro r h2 ⟨rfl, hj2⟩
      simp -dsimp (disch := omega) [h13, h12, h0, h3]
      exact ⟨⟨k + 1, by omega, by simp, hj2⟩, by simp [ivN]; omega⟩
    · have : k = m := by omega
      subst this
      simp -dsimp (disch := omega) [h13, h12]
      exact RetF.all (by simp) (hK h' hj)
end
end Go.Proofs.Ytggohjlfhomafaa
