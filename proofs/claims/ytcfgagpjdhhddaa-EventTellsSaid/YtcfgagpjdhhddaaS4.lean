/-
  Each record is kept or dropped; what is kept is kept again. Plain laws.
-/
import Derived.Test.YtcfgagpjdhhddaaS3
set_option linter.unusedSimpArgs false
set_option linter.unusedVariables false
set_option linter.unusedSectionVars false
namespace Go.Proofs.Ytcfgagpjdhhddaa
open Go Go.Mini

theorem digs_num : ∀ l : List UInt8, digs ((num l : Nat) : Int) l.length = l
  | [] => rfl
  | b :: l => by
    have hb := b.toNat_lt
    rw [List.length_cons, digs_front, num, show (b.toNat + 256 * num l) % 256 = b.toNat from by omega, show (b.toNat + 256 * num l) / 256 = num l from by omega, digs_num l, UInt8.ofNat_toNat]
theorem digs_numN {l : List UInt8} {n : Nat} (h : l.length = n) : digs ((num l : Nat) : Int) n = l := by subst h; exact digs_num l
/-- A whole record's bytes. -/
theorem bytes_recA {L : List UInt8} {o : Nat} (h : o + 10 ≤ L.length) : bytesE (recA L o) = (L.drop o).take 10 := by
  have n1 : ∀ i, i + 1 ≤ L.length → digs (byteAt L i : Int) 1 = (L.drop i).take 1 := fun i hi => by
    rw [← num_one]
    exact digs_numN (by rw [List.length_take, List.length_drop]; omega)
  have n4 : ∀ i, i + 4 ≤ L.length → digs ((num ((L.drop i).take 4) : Nat) : Int) 4 = (L.drop i).take 4 := fun i hi =>
    digs_numN (by rw [List.length_take, List.length_drop]; omega)
  rw [bytesE_eq]
  unfold recA
  simp only
  rw [n4 _ (by omega), n1 _ (by omega), n1 _ (by omega), n4 _ (by omega)]
  have e1 : (L.drop o).take 10 = (L.drop o).take 4 ++ ((L.drop o).drop 4).take 6 := List.take_add (i := 4) (j := 6)
  have e2 : ((L.drop o).drop 4).take 6 = ((L.drop o).drop 4).take 1 ++ (((L.drop o).drop 4).drop 1).take 5 := List.take_add (i := 1) (j := 5)
  have e3 : (((L.drop o).drop 4).drop 1).take 5 = (((L.drop o).drop 4).drop 1).take 1 ++ ((((L.drop o).drop 4).drop 1).drop 1).take 4 := List.take_add (i := 1) (j := 4)
  rw [e1, e2, e3]
  simp only [List.drop_drop]

theorem foldl_ge (g : Nat) (l : List Ev) : ∀ n : Nat, n ≤ l.foldl (fun n e => if e.g = g ∧ n < e.t then e.t else n) n := by
  induction l with
  | nil => intro n; exact Nat.le_refl _
  | cons e l ih =>
    intro n
    refine Nat.le_trans ?_ (ih _)
    show n ≤ if e.g = g ∧ n < e.t then e.t else n
    split <;> omega
theorem great_ge {l : List Ev} {x : Ev} (h : x ∈ l) : x.t ≤ great l x.g := by
  unfold great
  have : ∀ (l : List Ev) (n : Nat), x ∈ l → x.t ≤ l.foldl (fun n e => if e.g = x.g ∧ n < e.t then e.t else n) n := by
    intro l
    induction l with
    | nil => intro n h; cases h
    | cons e l ih =>
      intro n h
      rcases List.mem_cons.1 h with rfl | h
      · refine Nat.le_trans ?_ (foldl_ge _ l _)
        show x.t ≤ if x.g = x.g ∧ n < x.t then x.t else n
        split <;> omega
      · exact ih _ h
  exact this l 0 h
theorem why_zero {guests : Int} {K : List Ev} {e : Ev} (h : whyE guests K e = 0) : (e.g : Int) < guests ∧ ∀ x ∈ K, x.g = e.g → x.t ≤ e.t := by
  unfold whyE at h
  split at h
  · omega
  · split at h
    · omega
    · split at h
      · omega
      · refine ⟨by omega, fun x hx hg => ?_⟩
        have := great_ge hx
        rw [hg] at this
        omega

/-- Each is kept behind those ahead of it. -/
def good (guests : Int) (l : List Ev) : Prop := ∀ i e, l[i]? = some e → whyE guests (l.take i) e = 0
theorem good_snoc {guests : Int} {l : List Ev} {e : Ev} (h : good guests l) (he : whyE guests l e = 0) : good guests (l ++ [e]) := by
  intro i x hx
  by_cases hi : i < l.length
  · rw [List.getElem?_append_left hi] at hx
    rw [List.take_append_of_le_length (by omega)]
    exact h i x hx
  · have hlt := (List.getElem?_eq_some_iff.1 hx).1
    rw [List.length_append, List.length_singleton] at hlt
    obtain rfl : i = l.length := by omega
    rw [List.getElem?_append_right (by omega), Nat.sub_self] at hx
    obtain rfl : e = x := Option.some.inj hx
    rw [List.take_left' rfl]
    exact he
theorem pst_good (guests : Int) (R : Nat → Ev) (n : Nat) : good guests (pst guests R n).1 := by
  induction n with
  | zero => intro i e h; simp [pst] at h
  | succ n ih =>
    unfold pst
    split
    · exact good_snoc ih (by assumption)
    · exact ih
theorem parse_pst (guests : Int) (L : List UInt8) : (parse guests L).1 = (pst guests (recs L) (L.length / 10)).1 := by
  unfold parse
  split <;> rfl
theorem parse_good (guests : Int) (L : List UInt8) : good guests (parse guests L).1 := by rw [parse_pst]; exact pst_good _ _ _
theorem parse_ok (guests : Int) (L : List UInt8) : ∀ e ∈ (parse guests L).1, e.ok := by rw [parse_pst]; exact pst_ok (fun i => recA_ok _ _) _
theorem good_pst {guests : Int} {l : List Ev} (h : good guests l) (ok : ∀ e ∈ l, e.ok) : ∀ n, n ≤ l.length → pst guests (recs (buildL l)) n = (l.take n, []) := by
  intro n
  induction n with
  | zero => intro _; rfl
  | succ n ih =>
    intro hn
    have hx : l[n]? = some l[n] := List.getElem?_eq_getElem (by omega)
    unfold pst
    rw [ih (by omega), recs_build l ok n _ hx, if_pos (h n _ hx), take_snoc hx]
theorem parse_again {guests : Int} {l : List Ev} (h : good guests l) (ok : ∀ e ∈ l, e.ok) : parse guests (buildL l) = (l, []) := by
  rw [parse_build guests l ok, good_pst h ok _ (Nat.le_refl _), List.take_length]

theorem pst_late (guests : Int) (R : Nat → Ev) (i d : Nat) : ∀ j x, (pst guests R i).2.length ≤ j → (pst guests R (i + d)).2[j]? = some x → i ≤ x.1 := by
  induction d with
  | zero =>
    intro j x hj hx
    have := (List.getElem?_eq_some_iff.1 hx).1
    rw [Nat.add_zero] at this
    omega
  | succ d ih =>
    intro j x hj hx
    rw [show i + (d + 1) = (i + d) + 1 from by omega] at hx
    unfold pst at hx
    split at hx
    · exact ih j x hj hx
    · rcases Nat.lt_or_ge j (pst guests R (i + d)).2.length with hlt | hge
      · rw [List.getElem?_append_left hlt] at hx
        exact ih j x hj hx
      · have hl := (List.getElem?_eq_some_iff.1 hx).1
        simp only [List.length_append, List.length_singleton] at hl
        rw [List.getElem?_append_right hge, show j - (pst guests R (i + d)).2.length = 0 from by omega] at hx
        obtain rfl := Option.some.inj hx
        show i ≤ i + d
        omega

/-- Behind so many records, a torn one counted. -/
def stp (guests : Int) (L : List UInt8) (i : Nat) : List Ev × List (Nat × Nat) := if i ≤ L.length / 10 then pst guests (recs L) i else parse guests L
theorem stp_zero (guests : Int) (L : List UInt8) : stp guests L 0 = ([], []) := by unfold stp; rw [if_pos (Nat.zero_le _)]; rfl
theorem stp_end (guests : Int) (L : List UInt8) : stp guests L ((L.length + 9) / 10) = parse guests L := by
  unfold stp
  split
  · unfold parse
    rw [if_pos (by omega), show (L.length + 9) / 10 = L.length / 10 from by omega]
  · rfl
theorem parse_count (guests : Int) (L : List UInt8) : (parse guests L).1.length + (parse guests L).2.length = (L.length + 9) / 10 := by
  have := pst_len guests (recs L) (L.length / 10)
  unfold parse
  split
  · omega
  · simp only [List.length_append, List.length_singleton]; omega
theorem parse_drops (guests : Int) (L : List UInt8) : ∃ r, (parse guests L).2 = (pst guests (recs L) (L.length / 10)).2 ++ r ∧ ∀ d ∈ r, d.1 = L.length / 10 := by
  unfold parse
  split
  · exact ⟨[], by simp, fun d hd => by cases hd⟩
  · exact ⟨_, rfl, fun d hd => by rw [List.mem_singleton.1 hd]⟩
theorem stp_step (guests : Int) (L : List UInt8) (i : Nat) (hi : i < (L.length + 9) / 10) :
    (∃ w, 1 ≤ w ∧ w ≤ 3 ∧ (parse guests L).2[(stp guests L i).2.length]? = some (i, w) ∧ (stp guests L (i + 1)).1 = (stp guests L i).1 ∧ (stp guests L (i + 1)).2.length = (stp guests L i).2.length + 1) ∨
    (10 * i + 10 ≤ L.length ∧ (∀ d, (parse guests L).2[(stp guests L i).2.length]? = some d → d.1 ≠ i) ∧ (stp guests L (i + 1)).1 = (stp guests L i).1 ++ [recs L i] ∧ (stp guests L (i + 1)).2 = (stp guests L i).2) := by
  have e0 : stp guests L i = pst guests (recs L) i := by unfold stp; rw [if_pos (by omega)]
  by_cases him : i < L.length / 10
  · have e1 : stp guests L (i + 1) = pst guests (recs L) (i + 1) := by unfold stp; rw [if_pos (by omega)]
    obtain ⟨r, hr, hrd⟩ := parse_drops guests L
    rw [e0, e1]
    have hm : ∃ d, L.length / 10 = (i + 1) + d := ⟨L.length / 10 - (i + 1), by omega⟩
    obtain ⟨d, hd⟩ := hm
    obtain ⟨_, ⟨r2, h2⟩⟩ := pst_prefix guests (recs L) (i + 1) d
    by_cases hw : whyE guests (pst guests (recs L) i).1 (recs L i) = 0
    · refine .inr ⟨by omega, ?_, by conv => lhs; rw [pst, if_pos hw], by conv => lhs; rw [pst, if_pos hw]⟩
      have e2 : (pst guests (recs L) (i + 1)).2 = (pst guests (recs L) i).2 := by conv => lhs; rw [pst, if_pos hw]
      intro x hx
      rw [hr, hd] at hx
      rcases Nat.lt_or_ge (pst guests (recs L) i).2.length (pst guests (recs L) (i + 1 + d)).2.length with hlt | hge
      · rw [List.getElem?_append_left hlt] at hx
        have := pst_late guests (recs L) (i + 1) d _ x (by rw [e2]; exact Nat.le_refl _) hx
        omega
      · rw [List.getElem?_append_right hge] at hx
        have := hrd x (List.mem_of_getElem? hx)
        omega
    · have e2 : pst guests (recs L) (i + 1) = ((pst guests (recs L) i).1, (pst guests (recs L) i).2 ++ [(i, whyE guests (pst guests (recs L) i).1 (recs L i))]) := by conv => lhs; rw [pst, if_neg hw]
      refine .inl ⟨whyE guests (pst guests (recs L) i).1 (recs L i), by omega, whyE_le _ _ _, ?_, by rw [e2], by rw [e2]; simp⟩
      rw [hr, hd, h2, e2]
      simp
  · have hi' : i = L.length / 10 := by omega
    have htorn : L.length % 10 ≠ 0 := by omega
    have hp : parse guests L = ((pst guests (recs L) i).1, (pst guests (recs L) i).2 ++ [(i, 1)]) := by unfold parse; rw [if_neg htorn, hi']
    have e1 : stp guests L (i + 1) = parse guests L := by unfold stp; rw [if_neg (by omega)]
    refine .inl ⟨1, by omega, by omega, ?_, by rw [e1, e0, hp], by rw [e1, e0, hp]; simp⟩
    rw [e0, hp]
    simp

end Go.Proofs.Ytcfgagpjdhhddaa
