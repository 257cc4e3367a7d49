/-
  What comes in: arrays, too.
-/
import Derived.Test.YtmnemfeofhinaaaDoorM19
import Derived.OpenShut
set_option linter.unusedSimpArgs false
set_option linter.unusedVariables false
set_option linter.unusedSectionVars false
namespace Go.Mini
open Go

def repL (l : List Leaf) : Nat → List Leaf
  | 0 => []
  | n + 1 => l ++ repL l n
theorem repL_length (l : List Leaf) : ∀ n, (repL l n).length = n * l.length
  | 0 => by simp [repL]
  | n + 1 => by rw [repL, List.length_append, repL_length l n, Nat.succ_mul, Nat.add_comm]
def leavesA (P : Program) : Nat → TypeId → Option (List Leaf)
  | 0, _ => none
  | d + 1, t => match P.underlying t with
    | some .bool => some [.bool]
    | some (.int k) => some [.int k]
    | some .string => some [.str]
    | some (.struct fs) => leavesF (leavesA P d) P fs.toList 0
    | some (.array n e) => match leavesA P d e with
      | some l => if l.length = P.cellsOf e then some (repL l n) else none
      | none => none
    | _ => none

section
variable {H : Type} {enc : TypeId × Value → H} {P : Program} {w : World} {base : Nat} {spare : Nat → Bool} {held : Bool}
theorem leavesA_in : ∀ (d : Nat) (t : TypeId) (ls : List Leaf) (n : Nat) (cs : List Value) (x : DataW H × List MemPlace), leavesA P d t = some ls → P.cellsOf t = ls.length → DataW.trod enc P w base spare held n t cs = some x → leavesIn ls cs := by
  intro d
  induction d with
  | zero => intro t ls n cs x h; simp [leavesA] at h
  | succ d ih =>
    intro t ls n cs x h hsz ht
    unfold leavesA at h
    split at h
    · rename_i hu
      cases h
      cases n with
      | zero => simp [DataW.trod] at ht
      | succ n =>
        unfold DataW.trod at ht
        rw [hu] at ht
        split at ht <;> simp_all
        exact ⟨⟨_, rfl⟩, trivial⟩
    · rename_i k hu
      cases h
      obtain ⟨m, rfl, _, hw⟩ := DataW.trod_int hu ht
      simp only [Lit.wf, Bool.and_eq_true, decide_eq_true_eq] at hw
      exact ⟨⟨m, rfl, hw.1, hw.2⟩, trivial⟩
    · rename_i hu
      cases h
      obtain ⟨s, rfl, _, hw⟩ := DataW.trod_string hu ht
      exact ⟨⟨s, rfl, hw⟩, trivial⟩
    · rename_i fs hu
      obtain ⟨xs, n', _, _, hcs, hxs, hf⟩ := DataW.trod_struct hu ht
      have := leavesF_in (enc := enc) (P := P) (w := w) (base := base) (spare := spare) (held := held) (g := leavesA P d) (cs := cs) ?_ fs.toList 0 ls h ?_
      · rw [List.drop_zero, List.take_of_length_le (by omega)] at this
        exact this
      · rintro f l hl hc ⟨m, y, hy⟩
        exact ih f.type l m _ y hl hc.symm hy
      · intro f hfm
        obtain ⟨i, hi⟩ := List.getElem?_of_mem hfm
        have hi' : fs[i]? = some f := by simpa using hi
        have := hf i f hi'
        have hlt : i < xs.length := by rw [hxs]; exact (Array.getElem?_eq_some_iff.1 hi').1
        exact ⟨n', xs[i], by rw [this, List.getElem?_eq_getElem hlt]⟩
    · rename_i n' e' hu
      split at h
      · rename_i l hl
        split at h
        · rename_i hlen
          cases h
          obtain ⟨xs, n2, _, _, hcs, hxs, hf⟩ := DataW.trod_array hu ht
          have all : ∀ i, i < n' → leavesIn l ((cs.drop (i * P.cellsOf e')).take (P.cellsOf e')) := fun i hi => by
            have hlt : i < xs.length := by omega
            have := hf i hi
            exact ih e' l n2 _ xs[i] hl hlen.symm (by rw [this, List.getElem?_eq_getElem hlt])
          have key : ∀ m k, k + m = n' → leavesIn (repL l m) ((cs.drop (k * P.cellsOf e')).take (m * P.cellsOf e')) := by
            intro m
            induction m with
            | zero => intro k _; rw [Nat.zero_mul, List.take_zero]; trivial
            | succ m ihm =>
              intro k hk
              have h1 := all k (by omega)
              have h2 := ihm (k + 1) (by omega)
              have e : (cs.drop (k * P.cellsOf e')).take ((m + 1) * P.cellsOf e') = (cs.drop (k * P.cellsOf e')).take (P.cellsOf e') ++ (cs.drop ((k + 1) * P.cellsOf e')).take (m * P.cellsOf e') := by
                rw [Nat.succ_mul, Nat.add_comm (m * P.cellsOf e'), List.take_add, List.drop_drop, Nat.succ_mul]
              rw [e]
              exact leavesIn_append h1 h2
          have := key n' 0 (by omega)
          rw [Nat.zero_mul, List.drop_zero, List.take_of_length_le] at this
          · exact this
          · rw [hsz, repL_length, hlen] at hcs
            omega
        · cases h
      · cases h
    · cases h
end
end Go.Mini
