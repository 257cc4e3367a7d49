/-
  What comes in, beside the program's variables told whole: a variable may hold what leads to other variables (a type's handle).
-/
import Derived.Test.YtmnemfeofhinaaaDoorM29
set_option linter.unusedSimpArgs false
set_option linter.unusedVariables false
set_option linter.unusedSectionVars false
namespace Go.Mini
open Go Go.Sort

/-- How a renaming tells the program's variables. -/
def GlRn (ρ : Rn) : Prop := ∀ k, ρ (100 + k) = ⟨k, 0, 0⟩
def TabsRn (W : World) (ts : Nat → Option (Array Value)) : Prop := ∀ g c, ts g = some c → g < 50 ∧ (∀ ρ, GlRn ρ → ∃ e fr, W.heap[g]? = some (.cells (c.map (rl ρ)) e fr)) ∧ ∀ v ∈ c, vtop v ≤ 150 ∧ v.oneCell' = true
theorem law_simR {W : World} {l : List Arg} {ts : Nat → Option (Array Value)} (hl : ∀ p ∈ l, ArgOk W p) (ht : TabsRn W ts) (hlen : l.length ≤ 100) : Sim ⟨W.heap.size, fun _ => False⟩ W (argsRn l) (lawHp l ts) W := by
  have a := args_sim hl hlen
  have rg : ∀ g, argsRn l (100 + g) = ⟨g, 0, 0⟩ := fun g => by simp [argsRn, List.getElem?_eq_none (show l.length ≤ 100 + g by omega)]
  refine ⟨?_, ?_, ?_, ?_, ⟨Nat.le_refl _, fun _ h => h.elim⟩, BelowF.refl _ _, fun g _ => rg g, Nat.le_refl _⟩
  · intro i b hb
    rcases lawHp_blks hb with ⟨_, hb⟩ | ⟨g, c, rfl, hc, _⟩
    · exact a.lt i b hb
    · have := (ht g c hc).1
      show 100 + g < 150
      omega
  · intro i b hb v hv
    rcases lawHp_blks hb with ⟨_, hb⟩ | ⟨g, c, rfl, hc, rfl⟩
    · exact a.wf i b hb v hv
    · exact (ht g c hc).2.2 v hv
  · intro i b hb
    rcases lawHp_blks hb with ⟨_, hb⟩ | ⟨g, c, rfl, hc, rfl⟩
    · exact a.real i b hb
    · obtain ⟨_, q, _⟩ := ht g c hc
      obtain ⟨e, fr, q1⟩ := q (argsRn l) rg
      refine ⟨c.map (rl (argsRn l)), e, fr, ?_, ?_, ?_, ?_⟩
      · rw [rg]; exact q1
      · intro j hj
        have hj : j < c.size := hj
        rw [rg]
        simp [hj]
      · intro ho; cases ho
      · intro _; rw [rg]; exact ⟨(Array.getElem?_eq_some_iff.1 q1).1, fun _ => by simp⟩
  · intro i j b c hb _ ho _ _
    rcases lawHp_blks hb with ⟨_, hb⟩ | ⟨g, c, _, _, rfl⟩
    · obtain ⟨p, c', _, _, rfl⟩ := argsHp_blks hb
      cases ho
    · cases ho
theorem law_tabsR {P : Program} {f : FuncId} {args : List Value} {l : List Arg} {ts : Nat → Option (Array Value)} {W : World} (hl : ∀ p ∈ l, ArgOk W p) (hts : TabsRn W ts) (ht : ∀ v ∈ args, vtop v ≤ l.length) (hc : ACall P f args (lawHp l ts) (fun r _ => r = .bool true)) (hlen : l.length ≤ 100 := by simp) :
    Calls P f (args.map (rl (argsRn l))).toArray W fun e w' => e = .returned (.bool true) ∧ RowKit.Below W.heap.size W w' :=
  (hc.2 ⟨W.heap.size, fun _ => False⟩ W (argsRn l) W (SimE.plain (law_simR hl hts hlen)) fun v hv => by have := ht v hv; show vtop v ≤ 150; omega).mono fun e w' ⟨r, h', ρ', he, hr, hs, _⟩ => by
    subst hr
    exact ⟨by rw [he]; simp [rl], ⟨hs.sim.below.os, hs.sim.below.tape, hs.sim.below.output, hs.sim.below.size, fun k hk => hs.sim.below.block k (.inl hk)⟩⟩
end Go.Mini
