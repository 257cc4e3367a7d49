/-
  DeleteFunc, lose, Add, Find, Wrote: of one entry at most.
-/
import Derived.Test.YtmlpcnpkidmlhaaZ4
set_option linter.unusedSimpArgs false
set_option linter.unusedVariables false
set_option linter.unusedSectionVars false
namespace Go.Proofs.Ytmlpcnpkidmlhaa
open Go Go.Mini Go.Proofs.Try

theorem set_self {h : Hp} {p : Nat} {c : Blk} (hp : h.blks p = some c) : h.set p c = h := by
  obtain ⟨n, bl⟩ := h
  unfold Hp.set
  congr
  funext j
  by_cases hj : j = p
  · subst hj; rw [if_pos rfl]; exact hp.symm
  · rw [if_neg hj]
theorem aclear_any {h : Hp} {b n c esz : Nat} {cs z : Array Value} {K : Value → Hp → Prop} {u : Tag K} (hb : h.blks b = some ⟨cs, esz, true⟩) (hs : n * z.size ≤ cs.size) (hn : 0 < n) (hK : ∀ cs', K (.tuple #[]) (h.set b ⟨cs', esz, true⟩)) : OptF (aclear h z (.slice (some ⟨b, 0, none⟩) n c)) K u := by
  unfold aclear
  simp only [hb]
  rw [if_neg (by omega), if_pos ⟨trivial, by simpa using hs⟩]
  exact hK _
def none8 : Array Value := #[.int .u64 0, .int .u64 0, .int .u64 0, .int .i64 0, .int .u64 0, .int .u64 0, .int .u64 0, .int .i64 0]

section
variable {h : Hp} {K : Value → Hp → Prop}
theorem del_nil {a : Option Addr} {c : Nat} {f : Value} (hK : K (.slice a 0 c) h) (ha : ∀ x, a = some x → x.block < h.next) : ACall prog 34 [.slice a 0 c, f] h K := by
  refine acallF_of tb0 func34 rfl rfl mixed (by kernel_rfl) fun hwf => ?_
  simp -dsimp (disch := omega)
  refine idx35_nil ?_
  simp -dsimp (disch := omega)
  exact RetF.same (r := .slice a 0 c) hwf (by simp) (by cases a with | none => exact Nat.zero_le _ | some x => exact ha x rfl) (fun _ _ => rfl) hK
theorem del_no {e : Ent} {sb c f : Nat} {cs : List Value} (hl : sb < h.next) (hb : h.blks sb = some ⟨entA e, 8, true⟩) (hcl : ∀ K', K' (.bool false) h → ACall prog f (.agg (entA e) :: cs) h K') (hK : K (.slice (some ⟨sb, 0, none⟩) 1 c) h) : ACall prog 34 [.slice (some ⟨sb, 0, none⟩) 1 c, fnV f cs] h K := by
  refine acallF_of tb0 func34 rfl rfl mixed (by kernel_rfl) fun hwf => ?_
  simp -dsimp (disch := omega)
  refine idx35_one hb hcl ?_
  simp -dsimp (disch := omega)
  exact RetF.same (r := .slice (some ⟨sb, 0, none⟩) 1 c) hwf (by simp) hl (fun _ _ => rfl) hK
theorem del_yes {e : Ent} {sb f : Nat} {cs : List Value} (hl : sb < h.next) (hb : h.blks sb = some ⟨entA e, 8, true⟩) (hcl : ∀ K', K' (.bool true) h → ACall prog f (.agg (entA e) :: cs) h K') (hK : ∀ cs', K (.slice (some ⟨sb, 0, none⟩) 0 3) (h.set sb ⟨cs', 8, true⟩)) : ACall prog 34 [.slice (some ⟨sb, 0, none⟩) 1 3, fnV f cs] h K := by
  refine acallF_of tb0 func34 rfl rfl mixed (by kernel_rfl) fun hwf => ?_
  simp -dsimp (disch := omega)
  refine idx35_one hb hcl ?_
  simp -dsimp (disch := omega)
  refine awp_loop (fun t h' => h' = h ∧ t 0 = .slice (some ⟨sb, 0, none⟩) 1 3 ∧ t 5 = .int .i64 0 ∧ t 6 = .int .i64 1) (fun _ _ => 0) ?_ ?_
  · simp -dsimp (disch := omega)
  · rintro t h' ⟨rfl, g0, g5, g6⟩
    refine vcF_sound mixed (tb := tb0) _ (by kernel_rfl) ?_
    have s1 : asliceRow ⟨sb, 0, none⟩ 8 1 3 (some (.int .i64 0)) none none = some (.slice (some ⟨sb, 0, none⟩) 1 3) := rfl
    have s2 : asliceRow ⟨sb, 0, none⟩ 8 1 3 none (some (.int .i64 0)) none = some (.slice (some ⟨sb, 0, none⟩) 0 3) := rfl
    simp -dsimp (disch := omega) [g0, g5, g6, s1, s2]
    refine aclear_any hb (by simp [entA]) (by omega) fun cs' => ?_
    simp -dsimp (disch := omega) [g0, g5, g6, s1, s2]
    exact RetF.all (by simp) (hK cs')

abbrev tlA (v : Value) : Array Value := #[.bool true, v]
theorem is_call {tp : Nat} {v : Value} (ht : h.blks tp = some ⟨tlA v, 1, true⟩) (hK : K (.bool true) h) : ACall prog 21 [ptr tp] h K := by
  refine acallF_of tb0 func21 rfl rfl mixed (by kernel_rfl) fun hwf => ?_
  simp -dsimp (disch := omega) [ht]
  exact RetF.same hwf (by simp) (Nat.zero_le _) (fun _ _ => rfl) hK

theorem lose_nil {tp : Nat} {f : Value} (ht : h.blks tp = some ⟨tlA (.slice none 0 0), 1, true⟩) (hK : K (.int .i64 0) h) : ACall prog 22 [ptr tp, f] h K := by
  refine acallF_of tb0 func22 rfl rfl mixed (by kernel_rfl) fun hwf => ?_
  have hss := set_self ht
  simp -dsimp (disch := omega) [ht]
  refine is_call ht ?_
  simp -dsimp (disch := omega) [ht]
  refine del_nil ?_ (fun x hx => by cases hx)
  simp -dsimp (disch := omega) [ht, hss]
  exact RetF.same hwf (by simp) (Nat.zero_le _) (fun _ _ => rfl) hK
theorem lose_no {e : Ent} {tp sb f : Nat} {cs : List Value} (ht : h.blks tp = some ⟨tlA (.slice (some ⟨sb, 0, none⟩) 1 3), 1, true⟩) (hl : sb < h.next) (hb : h.blks sb = some ⟨entA e, 8, true⟩) (hcl : ∀ K', K' (.bool false) h → ACall prog f (.agg (entA e) :: cs) h K') (hK : K (.int .i64 0) h) : ACall prog 22 [ptr tp, fnV f cs] h K := by
  refine acallF_of tb0 func22 rfl rfl mixed (by kernel_rfl) fun hwf => ?_
  have hss := set_self ht
  simp -dsimp (disch := omega) [ht]
  refine is_call ht ?_
  simp -dsimp (disch := omega) [ht]
  refine del_no hl hb hcl ?_
  simp -dsimp (disch := omega) [ht, hss]
  exact RetF.same hwf (by simp) (Nat.zero_le _) (fun _ _ => rfl) hK
theorem lose_yes {e : Ent} {tp sb f : Nat} {cs : List Value} (ht : h.blks tp = some ⟨tlA (.slice (some ⟨sb, 0, none⟩) 1 3), 1, true⟩) (hne : sb ≠ tp) (hl : sb < h.next) (hb : h.blks sb = some ⟨entA e, 8, true⟩) (hcl : ∀ K', K' (.bool true) h → ACall prog f (.agg (entA e) :: cs) h K') (hK : ∀ cs', K (.int .i64 1) ((h.set sb ⟨cs', 8, true⟩).set tp ⟨tlA (.slice (some ⟨sb, 0, none⟩) 0 3), 1, true⟩)) : ACall prog 22 [ptr tp, fnV f cs] h K := by
  refine acallF_of tb0 func22 rfl rfl mixed (by kernel_rfl) fun hwf => ?_
  have hn2 : ¬ tp = sb := fun e => hne e.symm
  simp -dsimp (disch := omega) [ht]
  refine is_call ht ?_
  simp -dsimp (disch := omega) [ht]
  refine del_yes hl hb hcl fun cs' => ?_
  simp -dsimp (disch := omega) [ht, hn2]
  exact RetF.all (by simp) (hK cs')
end
end Go.Proofs.Ytmlpcnpkidmlhaa
