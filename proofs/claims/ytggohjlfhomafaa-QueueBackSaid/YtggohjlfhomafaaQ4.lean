/-
  Dump.
-/
import Derived.Test.YtggohjlfhomafaaQ3
import Derived.Test.YtggohjlfhomafaaC3
set_option linter.unusedSimpArgs false
set_option linter.unusedVariables false
set_option linter.unusedSectionVars false
namespace Go.Proofs.Ytggohjlfhomafaa
open Go Go.Mini Go.Proofs.Try

@[simp] theorem apQ_round_normal (K : Value → Hp → Prop) (t : Tm) (h : Hp) (u : Tag (roundQ K, t, h)) : apQ (roundQ K) .normal t h u = K (.bool true) h := _root_.id rfl

def msgs (rg : Nat → ByteArray) (f d m : Nat) : List ByteArray := (List.range m).map fun k => rg ((f + k) % d)
def tell (s : ByteArray) : List UInt8 := digs s.size 1 ++ s.data.toList
def dumpOf (l : List ByteArray) : List UInt8 := digs l.length 1 ++ l.flatMap tell
def part (rg : Nat → ByteArray) (f d m k : Nat) : List UInt8 := digs m 1 ++ (msgs rg f d k).flatMap tell
theorem msgs_succ (rg : Nat → ByteArray) (f d k : Nat) : msgs rg f d (k + 1) = msgs rg f d k ++ [rg ((f + k) % d)] := by simp [msgs, List.range_succ]
theorem part_zero (rg : Nat → ByteArray) (f d m : Nat) : part rg f d m 0 = digs m 1 := by simp [part, msgs]
theorem part_succ (rg : Nat → ByteArray) (f d m k : Nat) : part rg f d m (k + 1) = part rg f d m k ++ (digs (rg ((f + k) % d)).size 1 ++ (rg ((f + k) % d)).data.toList) := by
  simp [part, msgs_succ, tell]
theorem part_all (rg : Nat → ByteArray) (f d m : Nat) : part rg f d m m = dumpOf (msgs rg f d m) := by simp [part, dumpOf, msgs]
theorem part_len (rg : Nat → ByteArray) (f d m : Nat) (hd : 0 < d) (hs : ∀ i, i < d → (rg i).size ≤ 64) : ∀ k, (part rg f d m k).length ≤ 1 + 65 * k := by
  intro k
  induction k with
  | zero => simp [part_zero, digs_length]
  | succ k ih =>
    have := hs ((f + k) % d) (Nat.mod_lt _ hd)
    rw [part_succ]
    have e : (rg ((f + k) % d)).data.toList.length = (rg ((f + k) % d)).size := rfl
    simp only [List.length_append, digs_length, e]; omega
theorem put_one {N : Int} {c : Nat} {v : Nat} {h : Hp} {K : Value → Hp → Prop} (hb : h.blks v = some ⟨#[.int .u64 N, .int .i64 1], 2, true⟩) (hN : 0 ≤ N ∧ N ≤ 18446744073709551615) (hK : K (.string (txt (digs N 1))) h) : ACall prog 32 [.slice (some ⟨v, 0, none⟩) 1 c] h K :=
  put_call (l := [(N, 1)]) ⟨by simp [fldCells], .inr ⟨_, _, _, rfl, hb, by simp, fun j _ => by simp [fldCells]⟩⟩ (by simp) (fun f hf => by simp at hf; subst hf; exact hN) (by simpa [Go.Proofs.Ytggohjlfhomafaa.putL, wideF] using hK)

def tbD (s : Nat) : Nat → Marks := fun k => if k = 4 then ⟨[0, 6], fun j => j = s⟩ else ⟨[], fun _ => True⟩
theorem tbD_4 (s : Nat) : tbD s 4 = ⟨[0, 6], fun j => j = s⟩ := rfl
section
variable {h : Hp} {K : Value → Hp → Prop} {p : Nat} {rg : Nat → ByteArray} {f m d o : Nat}
theorem dump_call (hb : h.blks p = some (qB rg f m d o)) (hd : 0 < d) (hd2 : d ≤ 16) (hf : f < d) (hm : m ≤ d) (hs : ∀ i, i < d → (rg i).size ≤ 64)
    (hK : K (.string (txt (dumpOf (msgs rg f d m)))) h) : ACall prog 22 [.pointer (some ⟨p, 0, none⟩)] h K := by
  refine acallF_of tb0 func22 rfl rfl mixed (by kernel_rfl) fun hwf => ?_
  simp -dsimp (disch := omega)
  refine waiting_call hb (by omega) ?_
  simp -dsimp (disch := omega)
  refine put_one (N := m) (blks_alloc_eq _ _) (by omega) ?_
  simp -dsimp (disch := omega)
  refine all_call ?_
  simp -dsimp (disch := omega)
  have hpl : p < h.next := by have := hwf.args (.pointer (some ⟨p, 0, none⟩)) (by simp); simp [vtop] at this; omega
  refine awpF_gen fun T G hT hG => ?_
  have gn : G.next = h.next + 3 := by rw [hG]; simp
  have gp : G.blks p = some (qB rg f m d o) := by rw [hG]; simp (disch := omega) [hb]
  have gs : G.blks (h.next + 1) = some ⟨#[.string (txt (digs m 1))], 1, true⟩ := by rw [hG]; simp (disch := omega)
  have gc : G.blks (h.next + 2) = some ⟨#[.pointer (some ⟨p, 0, none⟩)], 1, true⟩ := by rw [hG]; simp (disch := omega)
  have T12 : T 12 = .func (.func 33) #[] #[.pointer (some ⟨h.next + 2, 0, none⟩)] := by rw [hT]; rfl
  have T3 : T 3 = .pointer (some ⟨h.next + 1, 0, none⟩) := by rw [hT]; rfl
  have gh : ∀ i, i < h.next → G.blks i = h.blks i := fun i hi => by rw [hG]; simp (disch := omega)
  clear hT hG
  obtain ⟨J, hJ⟩ : ∃ J : Nat → Hp → Prop, J = fun k hh => hh.jump = none ∧ h.next + 4 < hh.next ∧ hh.blks (h.next + 4) = some (qB rg f m d o) ∧ (∀ i, i < h.next → hh.blks i = h.blks i) ∧ hh.blks (h.next + 1) = some ⟨#[.string (txt (part rg f d m k))], 1, true⟩ := ⟨_, rfl⟩
  refine awp_rangeN (fun args hh K => ∃ k, k < m ∧ J k hh ∧ args = [.string (rg ((f + k) % d))] ∧ K = fun r h' => r = .bool true ∧ J (k + 1) h') (J m) T12 (by kernel_rfl) (by simp) rfl rfl ?_ ?_ ?_
  · rintro args hh K ⟨k, hk, hj, rfl, rfl⟩
    have hj' := hj
    rw [hJ] at hj'
    obtain ⟨j1, j2, j3, j4, j5⟩ := hj'
    have hsz := hs ((f + k) % d) (Nat.mod_lt _ hd)
    have hpl := part_len rg f d m hd hs k
    have hps := part_succ rg f d m k
    refine ⟨⟨j1, by omega, rfl⟩, ?_⟩
    generalize rg ((f + k) % d) = x at *
    have hdl : (digs (x.size : Int) 1).length = 1 := digs_length _ _
    refine vcF_sound mixed (tb := tb0) _ (by kernel_rfl) ?_
    simp -dsimp (disch := omega) [setPs]
    refine vcF_sound mixed (tb := tbD (h.next + 1)) _ (by kernel_rfl) ?_
    simp -dsimp (disch := omega) [T3, j5, tbD_4]
    refine put_one (N := x.size) (blks_alloc_eq _ _) (by omega) ?_
    simp -dsimp (disch := first | omega | (simp; omega)) [T3, j5, tbD_4]
    rw [hJ]
    refine ⟨j1, ?_, ?_, fun i hi => ?_, ?_⟩
    · simp; omega
    · simp (disch := omega) [j3]
    · simp (disch := omega) [j4 i hi]
    · have e : txt (part rg f d m k) ++ (txt (digs (x.size : Int) 1) ++ x) = txt (part rg f d m (k + 1)) := by
        rw [hps, ← txt_append, ← txt_append, txt_of]
      rw [e]
      simp (disch := omega)
  · intro h' hj
    rw [hJ] at hj
    obtain ⟨j1, j2, j3, j4, j5⟩ := hj
    refine ⟨j1, ?_⟩
    rw [part_all] at j5
    simp -dsimp (disch := omega) [T3, j5]
    exact RetF.same hwf (by simp) (by simp [vtop]) (fun i hi => j4 i hi) hK
  · intro E1 hcan hY
    refine each_call hcan J (rg := rg) (f := f) (m := m) (d := d) (o := o) gp gc hd hd2 hf hm ?_ ?_ ?_ ?_
    · intro k hh hj
      rw [hJ] at hj
      exact ⟨by show G.next + 1 < _; omega, by show hh.blks (G.next + 1) = _; rw [gn]; exact hj.2.2.1⟩
    · rw [hJ]
      refine ⟨rfl, ?_, ?_, fun i hi => ?_, ?_⟩
      · simp; omega
      · simp [gn]
      · simp (disch := omega) [gn, gh i hi]
      · simp (disch := omega) [gn, gs, part_zero]
    · intro k hh hk hj
      exact hY _ _ _ ⟨k, hk, hj, rfl, rfl⟩
    · intro h' hj
      exact hj
end
end Go.Proofs.Ytggohjlfhomafaa
