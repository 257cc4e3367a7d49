/-
  A call of which the library says what it gives back, and that it lets all be that was there.
-/
import Derived.Test.YtmnemfeofhinaaaDoorM23
set_option linter.unusedSimpArgs false
set_option linter.unusedVariables false
set_option linter.unusedSectionVars false
namespace Go.Mini
open Go
variable [E : REnv]

theorem Sim.grown {B : Bd} {w0 : World} {ρ : Rn} {h : Hp} {w w' : World} (hs : Sim B w0 ρ h w) (hb : RowKit.Below w.heap.size w w') : Sim B w0 ρ h w' := by
  refine ⟨hs.lt, hs.wf, fun i b hi => ?_, hs.inj, ⟨Nat.le_trans hs.base.1 hb.size, fun k hk => Nat.lt_of_lt_of_le (hs.base.2 k hk) hb.size⟩, hs.below.trans ⟨hb.os, hb.tape, hb.output, hb.size, fun k hk => hb.block k (by rcases hk with hk | hk; exact Nat.lt_of_lt_of_le hk hs.base.1; exact hs.base.2 k hk)⟩, hs.gl, hs.nx⟩
  obtain ⟨cs, e, fr, q⟩ := hs.real i b hi
  refine ⟨cs, e, fr, ?_, q.cell, q.own, q.ro⟩
  have hlt : (ρ i).blk < w.heap.size := (Array.getElem?_eq_some_iff.1 q.at_).1
  rw [hb.block _ hlt]
  exact q.at_

theorem SimE.grown {B : Bd} {w0 : World} {ρ : Rn} {h : Hp} {w w' : World} (hs : SimE B w0 ρ h w) (hb : RowKit.Below w.heap.size w w') : SimE B w0 ρ h w' :=
  ⟨hs.sim.grown hb, E.mono hs.env (fun _ _ => rfl) fun k hk => hb.block k (hs.sep k hk).1, hs.top, fun k hk => ⟨Nat.lt_of_lt_of_le (hs.sep k hk).1 hb.size, (hs.sep k hk).2⟩, hs.own⟩

theorem ACall.of_calls {P : Program} {f : FuncId} {args : List Value} {h : Hp} {K : Value → Hp → Prop} {r : Value} (hcl : Callable P f) (ha : ∀ v ∈ args, vtop v = 0) (hr : vtop r = 0)
    (hc : ∀ w, Calls P f args.toArray w fun e w' => e = .returned r ∧ RowKit.Below w.heap.size w w') (hK : K r h) : ACall P f args h K :=
  ⟨hcl, fun B w0 ρ w hs _ => by
    have e : args.map (rl ρ) = args := by
      rw [List.map_congr_left (fun v hv => rl_id v (ha v hv)), List.map_id']
    rw [e]
    refine (hc w).mono fun ex w' ⟨he, hb⟩ => ⟨r, h, ρ, by rw [he, rl_id r hr], hK, hs.grown hb, by omega, Nat.le_refl _, Goes.refl _ _, fun _ => rfl⟩⟩

end Go.Mini
