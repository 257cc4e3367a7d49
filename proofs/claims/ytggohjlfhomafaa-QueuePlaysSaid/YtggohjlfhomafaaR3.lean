/-
  alike: a queue is the document's.
-/
import Derived.Test.YtggohjlfhomafaaR2
set_option linter.unusedSimpArgs false
set_option linter.unusedVariables false
set_option linter.unusedSectionVars false
namespace Go.Proofs.Ytggohjlfhomafaa
open Go Go.Mini Go.Proofs.Try

def tb19 : Nat → Marks := fun k => if k = 1 then ⟨[1, 2, 5, 10, 11, 14, 15, 18, 25, 26], fun _ => True⟩ else ⟨[], fun _ => True⟩
@[simp] theorem tb19_l : (tb19 1).l = [1, 2, 5, 10, 11, 14, 15, 18, 25, 26] := rfl
@[simp] theorem tb19_l12 : (tb19 12).l = [] := rfl
@[simp] theorem tb19_R (k x : Nat) : (tb19 k).R x := by unfold tb19; split <;> trivial
theorem msgs_at {rg : Nat → ByteArray} {f d m k : Nat} (hk : k < m) : (msgs rg f d m)[k]? = some (rg ((f + k) % d)) := by
  simp [msgs, hk]
section
variable {h : Hp} {K : Value → Hp → Prop} {p r d o : Nat} {M : List ByteArray}
theorem alike_call (q : Que h p M d o) (hp : p < h.next) (rq : RefQ h p r M d o) (hK : K (.bool true) h) : ACall prog 19 [ptr p, ptr r] h K := by
  refine acallF_of tb19 func19 rfl rfl mixed (by kernel_rfl) fun hwf => ?_
  have hq := q
  have hrq := rq
  obtain ⟨vs, hb, hv, q1, q2, q3, q4, q5, q6, q7, q8⟩ := rq
  have q6' := q.dep
  obtain ⟨va, vc, rfl⟩ := hv.slice
  unfold refC at hb
  obtain ⟨n, hn⟩ : ∃ n, n = M.length := ⟨_, rfl⟩
  have e1 : ((d - n : Nat) : Int) = (d : Int) - n := by omega
  rw [← hn] at hb
  simp -dsimp (disch := omega)
  refine waitingQ (hq.mono (by simp (disch := omega))) ?_
  rw [← hn]
  simp -dsimp (disch := omega) [hb]
  refine roomQ (hq.mono (by simp (disch := omega))) ?_
  rw [← hn, e1]
  simp -dsimp (disch := omega) [hb]
  refine dumpQ (hq.mono (by simp (disch := omega))) ?_
  simp -dsimp (disch := omega) [hb]
  refine refDump_call (hrq.mono (by simp; omega) (fun i hi _ => by simp (disch := omega))) ?_
  simp -dsimp (disch := omega) [hb]
  refine all_call ?_
  simp -dsimp (disch := omega) [hb]
  refine awpF_gen fun T G hT hG => ?_
  have gn : G.next = h.next + 4 := by rw [hG]; simp
  have gh : ∀ i, i < h.next → G.blks i = h.blks i := fun i hi => by rw [hG]; simp (disch := omega)
  have g0 : G.blks h.next = some ⟨#[ptr r], 1, true⟩ := by rw [hG]; simp (disch := omega)
  have g1 : G.blks (h.next + 1) = some ⟨#[.bool false], 1, true⟩ := by rw [hG]; simp (disch := omega)
  have g2 : G.blks (h.next + 2) = some ⟨#[ptr p], 1, true⟩ := by rw [hG]; simp (disch := omega)
  have g3 : G.blks (h.next + 3) = some ⟨#[.int .i64 0], 1, true⟩ := by rw [hG]; simp (disch := omega)
  have T42 : T 42 = .func (.func 33) #[] #[ptr (h.next + 2)] := by rw [hT]; rfl
  have T3 : T 3 = ptr h.next := by rw [hT]; rfl
  have T4 : T 4 = ptr (h.next + 1) := by rw [hT]; rfl
  have T6 : T 6 = ptr (h.next + 3) := by rw [hT]; rfl
  clear hT hG
  obtain ⟨rg, f, m, hqb, d0, d1, hf, hm, ho, h64, hM⟩ := q
  have hmn : n = m := by rw [hn, ← hM, msgs_length]
  subst hmn
  obtain ⟨J, hJ⟩ : ∃ J : Nat → Hp → Prop, J = fun k hh => hh.jump = none ∧ h.next + 5 < hh.next ∧ hh.blks (h.next + 5) = some (qB rg f n d o) ∧ (∀ i, i < h.next → hh.blks i = h.blks i) ∧ hh.blks h.next = some ⟨#[ptr r], 1, true⟩ ∧ hh.blks (h.next + 1) = some ⟨#[.bool false], 1, true⟩ ∧ hh.blks (h.next + 3) = some ⟨#[.int .i64 k], 1, true⟩ := ⟨_, rfl⟩
  refine awp_rangeN (fun args hh K => ∃ k, k < n ∧ J k hh ∧ args = [.string (rg ((f + k) % d))] ∧ K = fun r h' => r = .bool true ∧ J (k + 1) h') (J n) T42 (by kernel_rfl) (by simp) rfl rfl ?_ ?_ ?_
  · rintro args hh K ⟨k, hk, hj, rfl, rfl⟩
    have hj' := hj
    rw [hJ] at hj'
    obtain ⟨j1, j2, j3, j4, j5, j6, j7⟩ := hj'
    refine ⟨⟨j1, by omega, rfl⟩, ?_⟩
    have hmk := msgs_at (rg := rg) (f := f) (d := d) hk
    rw [hM] at hmk
    generalize rg ((f + k) % d) = x at *
    obtain ⟨z1, ⟨_, _, _, z2⟩ | ⟨a, c, b', e, z3, z4, z5⟩⟩ := hv
    · omega
    cases e
    have hab := q3 _ rfl
    have z6 := z5 k (by omega)
    rw [show (strsC M)[k]? = some (.string x) by simp [strsC, hmk]] at z6
    have z7 : hh.blks a.block = some b' := by rw [j4 _ hab.1]; exact z3
    have z8 : hh.blks r = some ⟨#[.slice (some a) n vc, .int .i64 d, .int .i64 o], 1, true⟩ := by rw [j4 _ q2]; exact hb
    have hbs : a.off + k < b'.cells.size := by omega
    have hkn : ¬ n ≤ k := by omega
    have hkn' : ¬ (n : Int) ≤ k := by omega
    clear z5
    refine vcF_sound mixed (tb := tb0) _ (by kernel_rfl) ?_
    simp -dsimp (disch := omega) [setPs]
    refine vcF_sound mixed (tb := tb0) _ (by kernel_rfl) ?_
    simp -dsimp (disch := omega) [T3, T4, T6, j5, j6, j7, z6, z7, z8, hbs, hkn, hkn', -getElem?_pos]
    rw [hJ]
    refine ⟨j1, by simp; omega, ?_, fun i hi => ?_, ?_, ?_, ?_⟩
    · simp (disch := omega) [j3]
    · simp (disch := omega) [j4 i hi]
    · simp (disch := omega) [j5]
    · simp (disch := omega) [j6]
    · simp (disch := omega)
  · intro h' hj
    rw [hJ] at hj
    obtain ⟨j1, j2, j3, j4, j5, j6, j7⟩ := hj
    refine ⟨j1, ?_⟩
    have z8 : h'.blks r = some ⟨#[.slice va n vc, .int .i64 d, .int .i64 o], 1, true⟩ := by rw [j4 _ q2]; exact hb
    simp -dsimp (disch := omega) [T3, T4, T6, j5, j6, j7, z8]
    exact RetF.same hwf (by simp (disch := omega) [T4]) (Nat.zero_le _) (fun i hi => by simp (disch := omega) [j4 i hi]) hK
  · intro E1 hcan hY
    refine each_call hcan J (rg := rg) (f := f) (m := n) (d := d) (o := o) (by rw [gh _ hp]; exact hqb) g2 d0 d1 hf hm ?_ ?_ ?_ ?_
    · intro k hh hj
      rw [hJ] at hj
      exact ⟨by show G.next + 1 < _; omega, by show hh.blks (G.next + 1) = _; rw [gn]; exact hj.2.2.1⟩
    · rw [hJ]
      refine ⟨rfl, ?_, ?_, fun i hi => ?_, ?_, ?_, ?_⟩
      · simp; omega
      · simp [gn]
      · simp (disch := omega) [gn, gh i hi]
      · simp (disch := omega) [gn, g0]
      · simp (disch := omega) [gn, g1]
      · simp (disch := omega) [gn, g3]
    · intro k hh hk hj
      exact hY _ _ _ ⟨k, hk, hj, rfl, rfl⟩
    · intro h' hj
      exact hj
end
end Go.Proofs.Ytggohjlfhomafaa
