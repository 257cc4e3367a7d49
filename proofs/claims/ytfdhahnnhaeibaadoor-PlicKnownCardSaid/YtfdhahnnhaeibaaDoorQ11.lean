/-
  Same; PlicSame.
-/
import Derived.Test.YtfdhahnnhaeibaaDoorQ10
set_option linter.unusedSimpArgs false
set_option linter.unusedVariables false
set_option linter.unusedSectionVars false
namespace Go.Proofs.YtfdhahnnhaeibaaDoor
open Go Go.Mini Go.Proofs.Tryd
set_option maxRecDepth 100000

theorem stC_all (s : St) : (stC s).extract 0 37 = stC s := by
  have szz : (stC s).size = 37 := stC_size s
  apply Array.ext_getElem?
  intro i
  rw [Array.getElem?_extract]
  by_cases hi : i < 37
  · rw [if_pos (by rw [szz]; omega), Nat.zero_add]
  · rw [if_neg (by rw [szz]; omega), Array.getElem?_eq_none (by rw [szz]; omega)]
theorem rC_all (s : St) : (rC s).extract 0 50 = rC s := by
  have szz : (rC s).size = 50 := rC_size s
  apply Array.ext_getElem?
  intro i
  rw [Array.getElem?_extract]
  by_cases hi : i < 50
  · rw [if_pos (by rw [szz]; omega), Nat.zero_add]
  · rw [if_neg (by rw [szz]; omega), Array.getElem?_eq_none (by rw [szz]; omega)]
theorem Eqv.refl (s : St) : Eqv s s := ⟨fun _ _ => rfl, fun _ _ => rfl, fun _ _ => rfl, fun _ _ => rfl, fun _ _ => rfl, fun _ _ => rfl⟩
def tb5 : Nat → Marks := fun k => if k = 15 then ⟨[2, 5, 8, 13, 15, 19, 22], fun _ => True⟩ else ⟨[], fun _ => True⟩
@[simp] theorem tb5_l15 : (tb5 15).l = [2, 5, 8, 13, 15, 19, 22] := rfl
@[simp] theorem tb5_R (k x : Nat) : (tb5 k).R x := by unfold tb5; split <;> trivial
section
variable {h : Hp} {K : Value → Hp → Prop} {p p' : Nat} {s s' : St}
theorem same_call (hb : h.blks p = some ⟨stC s, 1, true⟩) (hb' : h.blks p' = some ⟨stC s', 1, true⟩) (hK : ∀ r : Bool, (r = true ↔ Eqv s s') → K (.bool r) h) : ACall prog 19 [ptr p, ptr p'] h K := by
  refine acallF_of tb0 func19 rfl rfl mixed (by kernel_rfl) fun hwf => ?_
  simp -dsimp (disch := omega)
  refine is_call hb ?_
  simp -dsimp (disch := omega)
  refine is_call hb' ?_
  obtain ⟨r, e1, e2⟩ := eq_stC s s'
  have hK := hK r (by rw [e2]; exact ⟨Eqv.of_cell, Eqv.cell⟩)
  simp -dsimp (disch := omega) [hb, hb', stC_all, e1, -abin_agg_eql]
  exact RetF.same hwf (by simp) (Nat.zero_le _) (fun _ _ => rfl) hK
set_option maxHeartbeats 2000000 in
theorem plicSame_call {l m : List Act} {v w : Value} (hok : ∀ e ∈ l, e.ok) (hl : l.length < 9223372036854775808) (hv : Sl h 6 l.length (actsC l) v) (mok : ∀ e ∈ m, e.ok) (hm : m.length < 9223372036854775808) (mv : Sl h 6 m.length (actsC m) w) (hK : K (.bool true) h) : ACall prog 5 [v, w] h K := by
  refine acallF_of tb5 func5 rfl rfl mixed (by kernel_rfl) fun hwf => ?_
  have hvb := sblk_lt (hwf.args v (by simp))
  have mvb := sblk_lt (hwf.args w (by simp))
  obtain ⟨va, vc, rfl⟩ := hv.slice
  obtain ⟨wa, wc, rfl⟩ := mv.slice
  by_cases hc : 40 < l.length
  · have hc' : (40 : Int) < l.length := by omega
    simp -dsimp (disch := omega) [hc, hc']
    refine works_call ?_
    simp -dsimp (disch := omega)
    exact RetF.same hwf (by simp) (Nat.zero_le _) (fun _ _ => rfl) hK
  have hc' : ¬ (40 : Int) < l.length := by omega
  by_cases mc : 40 < m.length
  · have mc' : (40 : Int) < m.length := by omega
    simp -dsimp (disch := omega) [hc, hc', mc, mc']
    refine works_call ?_
    simp -dsimp (disch := omega)
    exact RetF.same hwf (by simp) (Nat.zero_le _) (fun _ _ => rfl) hK
  have mc' : ¬ (40 : Int) < m.length := by omega
  simp -dsimp (disch := omega) [hc, hc', mc, mc']
  refine new_call ?_
  simp -dsimp (disch := omega)
  refine new_call ?_
  simp -dsimp (disch := omega)
  rw [rC_st0]
  refine awp_loop (fun t h' => ∃ (k : Nat) (s : St), k ≤ l.length ∧ Two h h' h.next (h.next + 2) s ∧ Inv3 s ∧ Two h h' (h.next + 1) (h.next + 3) st0 ∧ t 0 = .slice va l.length vc ∧ t 1 = .slice wa m.length wc ∧ t 5 = ptr h.next ∧ t 6 = ptr (h.next + 1) ∧ t 7 = ptr (h.next + 2) ∧ t 8 = ptr (h.next + 3) ∧ t 9 = .int .i64 k) (fun t _ => l.length - ivN (t 9)) ?_ ?_
  · simp -dsimp (disch := omega)
    refine ⟨0, by omega, st0, ⟨Inv2.st0, by simp <;> omega, fun i hi => by simp (disch := omega), by simp (disch := omega), by simp (disch := omega), by simp <;> omega, by simp <;> omega, by omega, by omega, by omega⟩, Inv3.st0, ⟨Inv2.st0, by simp <;> omega, fun i hi => by simp (disch := omega), by simp (disch := omega), by simp (disch := omega), by simp <;> omega, by simp <;> omega, by omega, by omega, by omega⟩, rfl⟩
  · rintro t h' ⟨k, s, hk, q, z, q0, t0, t1, t5, t6, t7, t8, t9⟩
    refine vcF_sound mixed (tb := tb5) _ (by kernel_rfl) ?_
    by_cases hc1 : k < l.length
    · have hc1' : (k : Int) < l.length := by omega
      obtain ⟨a, hx⟩ : ∃ e, l[k]? = some e := ⟨l[k], List.getElem?_eq_getElem hc1⟩
      obtain ⟨a', c', b', q1, f1, g1, x1⟩ := act_at (hv.mono fun b hb => q.old b (hvb b hb)) hx
      cases q1
      have ha := hok a (List.mem_of_getElem? hx)
      have x0 : b'.cells[a'.off + k * 6]? = some (.int .u8 a.what) := by
        have := congrArg (fun (A : Array Value) => A[0]?) x1
        simp only [Array.getElem?_extract] at this
        rw [if_pos (by omega)] at this
        simpa [actC] using this
      have wl := ha.what
      obtain ⟨c, hcd⟩ : ∃ c, c = a.what % 13 := ⟨_, rfl⟩
      have hci : (a.what : Int) % 13 = c := by omega
      by_cases c12 : c = 12
      · have hci : (a.what : Int) % 13 = 12 := by omega
        simp -dsimp (disch := omega) [t0, t1, t5, t6, t7, t8, t9, hc1, hc1', f1, x0, hci, -getElem?_pos]
        exact ⟨⟨k + 1, by omega, s, q, z, q0, by simp⟩, by simp [ivN]; omega⟩
      · have c12' : ¬ (c : Int) = 12 := by omega
        simp -dsimp (disch := omega) [t0, t1, t5, t6, t7, t8, t9, hc1, hc1', f1, g1, x0, x1, hci, c12, c12', -getElem?_pos]
        refine one_call ha q fun h1 e1 e2 q2 => ?_
        have z2 := z.one q.inv a
        have q02 : Two h h1 (h.next + 1) (h.next + 3) st0 := ⟨q0.inv, q2.le, q2.old, by rw [e2 _ q0.pl (by omega) (by omega)]; exact q0.bp, by rw [e2 _ q0.rl (by omega) (by omega)]; exact q0.br, by have := q0.pl; omega, by have := q0.rl; omega, q0.ne, q0.pg, q0.rg⟩
        simp -dsimp (disch := omega) [t0, t1, t5, t6, t7, t8, t9]
        exact ⟨⟨k + 1, by omega, _, q2, z2, q02, by simp⟩, by simp [ivN]; omega⟩
    · have hc1' : ¬ (k : Int) < l.length := by omega
      simp -dsimp (disch := omega) [t0, t1, t5, t6, t7, t8, t9, hc1, hc1']
      clear t9
      refine awp_loop (fun t h' => ∃ (k : Nat) (s' : St), k ≤ m.length ∧ Two h h' h.next (h.next + 2) s ∧ Inv3 s' ∧ Two h h' (h.next + 1) (h.next + 3) s' ∧ t 0 = .slice va l.length vc ∧ t 1 = .slice wa m.length wc ∧ t 5 = ptr h.next ∧ t 6 = ptr (h.next + 1) ∧ t 7 = ptr (h.next + 2) ∧ t 8 = ptr (h.next + 3) ∧ t 10 = .int .i64 k) (fun t _ => m.length - ivN (t 10)) ?_ ?_
      · simp -dsimp (disch := omega) [t0, t1, t5, t6, t7, t8]
        exact ⟨0, by omega, q, st0, Inv3.st0, q0, rfl⟩
      · clear q q0 t0 t1 t5 t6 t7 t8 hc1 hc1' hk
        rintro t' h2 ⟨j, s', hj, q, z', q', t0, t1, t5, t6, t7, t8, t10⟩
        refine vcF_sound mixed (tb := tb5) _ (by kernel_rfl) ?_
        by_cases hc1 : j < m.length
        · have hc1' : (j : Int) < m.length := by omega
          obtain ⟨a, hx⟩ : ∃ e, m[j]? = some e := ⟨m[j], List.getElem?_eq_getElem hc1⟩
          obtain ⟨a', c', b', q1, f1, g1, x1⟩ := act_at (mv.mono fun b hb => q.old b (mvb b hb)) hx
          cases q1
          have ha := mok a (List.mem_of_getElem? hx)
          have x0 : b'.cells[a'.off + j * 6]? = some (.int .u8 a.what) := by
            have := congrArg (fun (A : Array Value) => A[0]?) x1
            simp only [Array.getElem?_extract] at this
            rw [if_pos (by omega)] at this
            simpa [actC] using this
          have wl := ha.what
          obtain ⟨c, hcd⟩ : ∃ c, c = a.what % 13 := ⟨_, rfl⟩
          have hci : (a.what : Int) % 13 = c := by omega
          by_cases c12 : c = 12
          · have hci : (a.what : Int) % 13 = 12 := by omega
            simp -dsimp (disch := omega) [t0, t1, t5, t6, t7, t8, t10, hc1, hc1', f1, x0, hci, -getElem?_pos]
            exact ⟨⟨j + 1, by omega, q, s', z', q', by simp⟩, by simp [ivN]; omega⟩
          · have c12' : ¬ (c : Int) = 12 := by omega
            simp -dsimp (disch := omega) [t0, t1, t5, t6, t7, t8, t10, hc1, hc1', f1, g1, x0, x1, hci, c12, c12', -getElem?_pos]
            refine one_call ha q' fun h1 e1 e2 q2 => ?_
            have z2 := z'.one q'.inv a
            have q02 : Two h h1 h.next (h.next + 2) s := ⟨q.inv, q2.le, q2.old, by rw [e2 _ q.pl (by omega) (by omega)]; exact q.bp, by rw [e2 _ q.rl (by omega) (by omega)]; exact q.br, by have := q.pl; omega, by have := q.rl; omega, q.ne, q.pg, q.rg⟩
            simp -dsimp (disch := omega) [t0, t1, t5, t6, t7, t8, t10]
            exact ⟨⟨j + 1, by omega, q02, _, z2, q2, by simp⟩, by simp [ivN]; omega⟩
        · have hc1' : ¬ (j : Int) < m.length := by omega
          simp -dsimp (disch := omega) [t0, t1, t5, t6, t7, t8, t10, hc1, hc1']
          refine same_call q.bp q'.bp fun r1 hr1 => ?_
          obtain ⟨r2, e2, hr2⟩ := eq_rC s s'
          have hr2 : r2 = true ↔ Eqv s s' := by rw [hr2]; exact ⟨Eqv.of_rcell q.inv q'.inv, Eqv.rcell⟩
          have br := q.br
          have br' := q'.br
          have b50 : (rC s).size = 50 := rC_size s
          have b50' : (rC s').size = 50 := rC_size s'
          have htx : textS s = textS s' ↔ Eqv s s' := ⟨Eqv.of_text q.inv q'.inv z z', Eqv.text⟩
          by_cases he : Eqv s s'
          · obtain rfl : r1 = true := hr1.2 he
            obtain rfl : r2 = true := hr2.2 he
            have ht := htx.2 he
            simp -dsimp (disch := omega) [t0, t1, t5, t6, t7, t8, br, br', b50, b50', rC_all, e2, -abin_agg_eql]
            refine text_call q.inv q.bp q.pl ?_
            simp -dsimp (disch := omega) [t0, t1, t5, t6, t7, t8]
            refine text_call q'.inv q'.bp q'.pl ?_
            simp -dsimp (disch := omega) [t0, t1, t5, t6, t7, t8, br, br', b50, b50', rC_all, e2, ht, -abin_agg_eql]
            refine copy_call q.bp ?_
            simp -dsimp (disch := omega) [t0, t1, t5, t6, t7, t8]
            refine same_call (s := s) (s' := s) (by rw [blks_alloc_ne _ _ _ (by have := q.pl; omega)]; exact q.bp) (blks_alloc_eq _ _) fun r3 hr3 => ?_
            obtain rfl : r3 = true := hr3.2 (Eqv.refl s)
            simp -dsimp (disch := omega)
            refine works_call ?_
            simp -dsimp (disch := omega)
            exact RetF.same hwf (by simp) (Nat.zero_le _) (fun i hi => by rw [blks_alloc_ne _ _ _ (by have := q.le; omega)]; exact q.old i hi) hK
          · obtain rfl : r1 = false := by cases r1 with | true => exact absurd (hr1.1 rfl) he | false => rfl
            obtain rfl : r2 = false := by cases r2 with | true => exact absurd (hr2.1 rfl) he | false => rfl
            have ht : ¬ textS s = textS s' := fun h => he (htx.1 h)
            simp -dsimp (disch := omega) [t0, t1, t5, t6, t7, t8, br, br', b50, b50', rC_all, e2, -abin_agg_eql]
            refine text_call q.inv q.bp q.pl ?_
            simp -dsimp (disch := omega) [t0, t1, t5, t6, t7, t8]
            refine text_call q'.inv q'.bp q'.pl ?_
            simp -dsimp (disch := omega) [t0, t1, t5, t6, t7, t8, br, br', b50, b50', rC_all, e2, ht, -abin_agg_eql]
            refine copy_call q.bp ?_
            simp -dsimp (disch := omega) [t0, t1, t5, t6, t7, t8]
            refine same_call (s := s) (s' := s) (by rw [blks_alloc_ne _ _ _ (by have := q.pl; omega)]; exact q.bp) (blks_alloc_eq _ _) fun r3 hr3 => ?_
            obtain rfl : r3 = true := hr3.2 (Eqv.refl s)
            simp -dsimp (disch := omega)
            refine works_call ?_
            simp -dsimp (disch := omega)
            exact RetF.same hwf (by simp) (Nat.zero_le _) (fun i hi => by rw [blks_alloc_ne _ _ _ (by have := q.le; omega)]; exact q.old i hi) hK
end
end Go.Proofs.YtfdhahnnhaeibaaDoor
