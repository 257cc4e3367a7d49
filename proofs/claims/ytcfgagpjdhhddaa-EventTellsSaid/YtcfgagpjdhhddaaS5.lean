/-
  Each event is told once, in its guest's order. Plain laws.
-/
import Derived.Test.YtcfgagpjdhhddaaD12
set_option linter.unusedSimpArgs false
set_option linter.unusedVariables false
set_option linter.unusedSectionVars false
namespace Go.Proofs.Ytcfgagpjdhhddaa
open Go Go.Mini

def srt (l : List Ev) : Prop := l.Pairwise fun a b => a.g = b.g → a.t ≤ b.t
theorem good_srt {guests : Int} {l : List Ev} (h : good guests l) : srt l := by
  unfold srt
  rw [List.pairwise_iff_getElem]
  intro i j hi hj hij hg
  have hw := (why_zero (h j l[j] (List.getElem?_eq_getElem hj))).2
  exact hw l[i] (List.mem_of_getElem? (i := i) (by rw [List.getElem?_take_of_lt hij]; exact List.getElem?_eq_getElem hi)) hg
theorem srt_later {t : Nat} {l : List Ev} (h : srt l) : srt (laterL t l) := List.Pairwise.filter _ h
theorem due_none {t g : Nat} {l : List Ev} (h : ∀ e ∈ l, e.g = g → t < e.t) : ofG (dueL t l) g = [] := by
  unfold ofG dueL
  rw [List.filter_filter]
  apply List.filter_eq_nil_iff.2
  intro e he
  simp
  intro hg
  have := h e he hg
  omega
/-- What is due and what is not are together the guest's events. -/
theorem due_later {t : Nat} {l : List Ev} (h : srt l) (g : Nat) : ofG (dueL t l) g ++ ofG (laterL t l) g = ofG l g := by
  induction l with
  | nil => rfl
  | cons e l ih =>
    have h' := List.pairwise_cons.1 h
    have ih := ih h'.2
    by_cases ht : e.t ≤ t
    · have e1 : dueL t (e :: l) = e :: dueL t l := by unfold dueL; rw [List.filter_cons, if_pos (by simpa using ht)]
      have e2 : laterL t (e :: l) = laterL t l := by unfold laterL; rw [List.filter_cons, if_neg (by simpa using ht)]
      rw [e1, e2]
      unfold ofG at ih ⊢
      rw [List.filter_cons, List.filter_cons]
      split
      · rw [List.cons_append, ih]
      · exact ih
    · have e1 : dueL t (e :: l) = dueL t l := by unfold dueL; rw [List.filter_cons, if_neg (by simpa using ht)]
      have e2 : laterL t (e :: l) = e :: laterL t l := by unfold laterL; rw [List.filter_cons, if_pos (by simpa using ht)]
      rw [e1, e2]
      by_cases hg : e.g = g
      · have hn : ofG (dueL t l) g = [] := due_none fun x hx hxg => by have := h'.1 x hx (by rw [hg, hxg]); omega
        rw [hn] at ih ⊢
        unfold ofG at ih ⊢
        rw [List.filter_cons, List.filter_cons, if_pos (by simpa using hg), if_pos (by simpa using hg), ← ih]
        rfl
      · unfold ofG at ih ⊢
        rw [List.filter_cons, List.filter_cons, if_neg (by simpa using hg), if_neg (by simpa using hg)]
        exact ih
theorem ofG_append (l l' : List Ev) (g : Nat) : ofG (l ++ l') g = ofG l g ++ ofG l' g := by unfold ofG; exact List.filter_append ..
theorem due_count (t : Nat) (l : List Ev) : (dueL t l).length + (laterL t l).length = l.length := by
  unfold dueL laterL
  induction l with
  | nil => rfl
  | cons e l ih =>
    rw [List.filter_cons, List.filter_cons]
    by_cases h : e.t ≤ t
    · rw [if_pos (by simpa using h), if_neg (by simpa using h)]; simp only [List.length_cons]; omega
    · rw [if_neg (by simpa using h), if_pos (by simpa using h)]; simp only [List.length_cons]; omega
theorem mem_due {t : Nat} {l : List Ev} {e : Ev} (h : e ∈ dueL t l) : e ∈ l ∧ e.t ≤ t := by
  have := List.mem_filter.1 h
  exact ⟨this.1, by simpa using this.2⟩
theorem mem_later {t : Nat} {l : List Ev} {e : Ev} (h : e ∈ laterL t l) : e ∈ l ∧ t < e.t := by
  have := List.mem_filter.1 h
  exact ⟨this.1, by simpa using this.2⟩
theorem later_nil {t : Nat} {l : List Ev} (h : ∀ e ∈ l, e.t ≤ t) : laterL t l = [] := by
  apply List.filter_eq_nil_iff.2
  intro e he
  simpa using h e he

/-- Told so far, and what is left. -/
structure Told (kp a q : List Ev) (t : Nat) (first : Bool) : Prop where
  of : ∀ g, ofG a g ++ ofG q g = ofG kp g
  srt : srt q
  cnt : a.length + q.length = kp.length
  mem : ∀ e ∈ q, e ∈ kp
  gt : first = false → ∀ e ∈ q, t < e.t
theorem Told.init {guests : Int} {kp : List Ev} (h : good guests kp) : Told kp [] kp 0 true :=
  ⟨fun g => rfl, good_srt h, by simp, fun e he => he, fun h => by cases h⟩
theorem Told.step {kp a q : List Ev} {t : Nat} {f : Bool} (h : Told kp a q t f) (t' : Nat) : Told kp (a ++ dueL t' q) (laterL t' q) t' false :=
  ⟨fun g => by rw [ofG_append, List.append_assoc, due_later h.srt, h.of], srt_later h.srt, by have := due_count t' q; have := h.cnt; rw [List.length_append]; omega, fun e he => h.mem e (mem_later he).1, fun _ e he => (mem_later he).2⟩
theorem Told.fin {kp a q : List Ev} {t : Nat} {f : Bool} (h : Told kp a q t f) (hq : q = []) : (∀ g, ofG a g = ofG kp g) ∧ a.length = kp.length := by
  subst hq
  exact ⟨fun g => by have := h.of g; simpa [ofG] using this, by have := h.cnt; simpa using this⟩

end Go.Proofs.Ytcfgagpjdhhddaa
