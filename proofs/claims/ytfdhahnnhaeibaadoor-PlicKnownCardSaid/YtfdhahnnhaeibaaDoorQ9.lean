/-
  PlicPlays: the law's body.
-/
import Derived.Test.YtfdhahnnhaeibaaDoorQ8
set_option linter.unusedSimpArgs false
set_option linter.unusedVariables false
set_option linter.unusedSectionVars false
namespace Go.Proofs.YtfdhahnnhaeibaaDoor
open Go Go.Mini Go.Proofs.Tryd
set_option maxRecDepth 100000

def callsI (s : St) (c : Int) : Bool := if c = 0 then callsS s 0 else if c = 1 then callsS s 1 else false
section
variable {h : Hp} {K : Value → Hp → Prop} {p : Nat} {s : St}
theorem calls_any {c : Int} (hb : h.blks p = some ⟨stC s, 1, true⟩) (hs : s.ok) (hp : p < h.next) (hK : K (.bool (callsI s c)) h) : ACall prog 12 [ptr p, .int .i64 c] h K := by
  unfold callsI at hK
  by_cases c0 : c = 0
  · subst c0; rw [if_pos rfl] at hK; exact calls_call (c := 0) hb hs (by omega) hp hK
  · rw [if_neg c0] at hK
    by_cases c1 : c = 1
    · subst c1; rw [if_pos rfl] at hK; exact calls_call (c := 1) hb hs (by omega) hp hK
    · rw [if_neg c1] at hK
      exact calls_no hb (by omega) hK
theorem refCalls_any {c : Int} (hb : h.blks p = some ⟨rC s, 1, true⟩) (q : Inv2 s) (hp : p < h.next) (hK : K (.bool (callsI s c)) h) : ACall prog 13 [ptr p, .int .i64 c] h K := by
  unfold callsI at hK
  by_cases c0 : c = 0
  · subst c0; rw [if_pos rfl] at hK; exact refCalls_call (c := 0) q hb (by omega) hp hK
  · rw [if_neg c0] at hK
    by_cases c1 : c = 1
    · subst c1; rw [if_pos rfl] at hK; exact refCalls_call (c := 1) q hb (by omega) hp hK
    · rw [if_neg c1] at hK
      exact refCalls_no (by omega) hK
theorem rC_st0 : (#[.int .i64 0, .int .i64 0, .int .i64 0, .int .i64 0, .int .i64 0, .int .i64 0, .int .i64 0, .int .i64 0, .bool false, .bool false, .bool false, .bool false, .bool false, .bool false, .bool false, .bool false, .bool false, .bool false, .bool false, .bool false, .bool false, .bool false, .bool false, .bool false, .bool false, .bool false, .bool false, .bool false, .bool false, .bool false, .bool false, .bool false, .bool false, .bool false, .bool false, .bool false, .bool false, .bool false, .bool false, .bool false, .bool false, .bool false, .bool false, .bool false, .bool false, .bool false, .bool false, .bool false, .int .i64 0, .int .i64 0] : Array Value) = rC st0 := by kernel_rfl
set_option maxHeartbeats 2000000 in
theorem plicPlays_call {l : List Act} {v : Value} {ctx : Int} (hok : ∀ e ∈ l, e.ok) (hl : l.length < 9223372036854775808) (hv : Sl h 6 l.length (actsC l) v) (hK : K (.bool true) h) : ACall prog 3 [v, .int .i64 ctx] h K := by
  refine acallF_of tb0 func3 rfl rfl mixed (by kernel_rfl) fun hwf => ?_
  have hvb := sblk_lt (hwf.args v (by simp))
  obtain ⟨va, vc, rfl⟩ := hv.slice
  by_cases hc : 80 < l.length
  · have hc' : (80 : Int) < l.length := by omega
    simp -dsimp (disch := omega) [hc, hc']
    refine works_call ?_
    simp -dsimp (disch := omega)
    exact RetF.same hwf (by simp) (Nat.zero_le _) (fun _ _ => rfl) hK
  · have hc' : ¬ (80 : Int) < l.length := by omega
    simp -dsimp (disch := omega) [hc, hc']
    refine new_call ?_
    simp -dsimp (disch := omega)
    rw [rC_st0]
    refine awp_loop (fun t h' => ∃ (k : Nat) (s : St) (p r : Nat), k ≤ l.length ∧ Two h h' p r s ∧ t 0 = .slice va l.length vc ∧ t 1 = .int .i64 ctx ∧ t 5 = ptr p ∧ t 6 = ptr r ∧ t 7 = .int .i64 k) (fun t _ => l.length - ivN (t 7)) ?_ ?_
    · simp -dsimp (disch := omega)
      exact ⟨0, by omega, st0, h.next, h.next + 1, ⟨Inv2.st0, by simp; omega, fun i hi => by simp (disch := omega), by simp (disch := omega), by simp (disch := omega), by simp; omega, by simp, by omega, by omega, by omega⟩, rfl, rfl, rfl⟩
    · rintro t h' ⟨k, s, p, r, hk, q, t0, t1, t5, t6, t7⟩
      refine vcF_sound mixed (tb := tb0) _ (by kernel_rfl) ?_
      have qi := q.inv
      have qp := q.pl
      have qr := q.rl
      have qn := q.ne
      have qpg := q.pg
      have qrg := q.rg
      have qle := q.le
      by_cases hc1 : k < l.length
      · have hc1' : (k : Int) < l.length := by omega
        obtain ⟨a, hx⟩ : ∃ e, l[k]? = some e := ⟨l[k], List.getElem?_eq_getElem hc1⟩
        obtain ⟨a', c', b', q1, f1, g1, x1⟩ := act_at (hv.mono fun b hb => q.old b (hvb b hb)) hx
        cases q1
        have ha := hok a (List.mem_of_getElem? hx)
        have x0 : b'.cells[a'.off + k * 6]? = some (.int .u8 a.what) := by
          have := congrArg (fun (A : Array Value) => A[0]?) x1
          simp only [Array.getElem?_extract] at this
          rw [if_pos (by omega)] at this
          simpa [actC] using this
        have wl := ha.what
        obtain ⟨c, hcd⟩ : ∃ c, c = a.what % 13 := ⟨_, rfl⟩
        have hci : (a.what : Int) % 13 = c := by omega
        by_cases c12 : c = 12
        · have hci : (a.what : Int) % 13 = 12 := by omega
          simp -dsimp (disch := omega) [t0, t1, t5, t6, t7, hc1, hc1', f1, x0, hci, -getElem?_pos]
          refine copy_call q.bp ?_
          simp -dsimp (disch := omega) [t0, t1, t5, t6, t7]
          refine raise_call (s := s) (p := p) (by simp (disch := omega) [q.bp]) (fun hn => absurd hn (by omega)) (fun m hm m1 m8 => ?_)
          have q2 : Two h ((h'.set p ⟨stC (raiseS s m true), 1, true⟩).alloc ⟨stC s, 1, true⟩) h'.next r s := ⟨qi, by simp; omega, fun i hi => by rw [blks_alloc_ne _ _ _ (by simp; omega), blks_set_ne _ _ _ _ (by omega)]; exact q.old i hi, by rw [blks_alloc_at _ _ _ (by simp)], by rw [blks_alloc_ne _ _ _ (by simp; omega), blks_set_ne _ _ _ _ (Ne.symm qn)]; exact q.br, by simp, by simp; omega, by omega, by omega, qrg⟩
          simp -dsimp (disch := omega) [t0, t1, t6, t7]
          refine calls_any q2.bp qi.ok q2.pl ?_
          simp -dsimp (disch := omega) [t0, t1, t5, t6, t7]
          refine refCalls_any q2.br qi q2.rl ?_
          simp -dsimp (disch := omega) [t0, t1, t5, t6, t7]
          refine calls_any q2.bp qi.ok q2.pl ?_
          simp -dsimp (disch := omega) [t0, t1, t5, t6, t7]
          refine refCalls_any q2.br qi q2.rl ?_
          simp -dsimp (disch := omega) [t0, t1, t5, t6, t7]
          refine calls_any q2.bp qi.ok q2.pl ?_
          simp -dsimp (disch := omega) [t0, t1, t5, t6, t7]
          refine refCalls_any q2.br qi q2.rl ?_
          simp -dsimp (disch := omega) [t0, t1, t5, t6, t7]
          refine text_call qi q2.bp q2.pl ?_
          simp -dsimp (disch := omega) [t0, t1, t5, t6, t7]
          refine refText_call qi q2.br q2.rl ?_
          simp -dsimp (disch := omega) [t0, t1, t5, t6, t7]
          exact ⟨⟨k + 1, by omega, _, _, r, q2, rfl, rfl, by simp⟩, by simp [ivN]; omega⟩
        · have c12' : ¬ (c : Int) = 12 := by omega
          simp -dsimp (disch := omega) [t0, t1, t5, t6, t7, hc1, hc1', f1, g1, x0, x1, hci, c12, c12', -getElem?_pos]
          refine one_call ha q fun h1 e1 e2 q2 => ?_
          have qi := q2.inv
          simp -dsimp (disch := omega) [t0, t1, t5, t6, t7]
          refine calls_any q2.bp qi.ok q2.pl ?_
          simp -dsimp (disch := omega) [t0, t1, t5, t6, t7]
          refine refCalls_any q2.br qi q2.rl ?_
          simp -dsimp (disch := omega) [t0, t1, t5, t6, t7]
          refine calls_any q2.bp qi.ok q2.pl ?_
          simp -dsimp (disch := omega) [t0, t1, t5, t6, t7]
          refine refCalls_any q2.br qi q2.rl ?_
          simp -dsimp (disch := omega) [t0, t1, t5, t6, t7]
          refine calls_any q2.bp qi.ok q2.pl ?_
          simp -dsimp (disch := omega) [t0, t1, t5, t6, t7]
          refine refCalls_any q2.br qi q2.rl ?_
          simp -dsimp (disch := omega) [t0, t1, t5, t6, t7]
          refine text_call qi q2.bp q2.pl ?_
          simp -dsimp (disch := omega) [t0, t1, t5, t6, t7]
          refine refText_call qi q2.br q2.rl ?_
          simp -dsimp (disch := omega) [t0, t1, t5, t6, t7]
          exact ⟨⟨k + 1, by omega, _, p, r, q2, rfl, rfl, by simp⟩, by simp [ivN]; omega⟩
      · have hc1' : ¬ (k : Int) < l.length := by omega
        simp -dsimp (disch := omega) [t0, t7, hc1, hc1']
        refine works_call ?_
        simp -dsimp (disch := omega)
        exact RetF.same hwf (by simp) (Nat.zero_le _) q.old hK
end
end Go.Proofs.YtfdhahnnhaeibaaDoor
