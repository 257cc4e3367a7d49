/-
  What comes in, beside tables that the program's text lays: their variables are told whole.
-/
import Derived.Test.YtmnemfeofhinaaaDoorM28
import Derived.Test.YtmnemfeofhinaaaDoorM19
import Derived.Lib.LaidTab
import Derived.Deep.Draws
import Derived.Sort.Grow
set_option linter.unusedSimpArgs false
set_option linter.unusedVariables false
set_option linter.unusedSectionVars false
namespace Go.Mini
open Go Go.Sort

/-- Arguments, and tables: variable g has the name 100 + g. -/
def lawHp (l : List Arg) (ts : Nat → Option (Array Value)) : Hp := ⟨150, fun i => if i < 100 then (argsHp l).blks i else (ts (i - 100)).map fun c => ⟨c, 0, false⟩, none⟩
def TabsOk (W : World) (ts : Nat → Option (Array Value)) : Prop := ∀ g c, ts g = some c → g < 50 ∧ (∃ e fr, W.heap[g]? = some (.cells c e fr)) ∧ ∀ v ∈ c, vtop v = 0 ∧ v.oneCell' = true ∧ ∀ ρ, rl ρ v = v
theorem lawHp_blks {l : List Arg} {ts : Nat → Option (Array Value)} {i : Nat} {b : Blk} (h : (lawHp l ts).blks i = some b) : (i < 100 ∧ (argsHp l).blks i = some b) ∨ (∃ g c, i = 100 + g ∧ ts g = some c ∧ b = ⟨c, 0, false⟩) := by
  simp only [lawHp] at h
  split at h
  · rename_i hi; exact .inl ⟨hi, h⟩
  · rename_i hi
    cases hc : ts (i - 100) with
    | none => rw [hc] at h; cases h
    | some c => rw [hc] at h; exact .inr ⟨i - 100, c, by omega, hc, by simpa using h.symm⟩
theorem law_sim {W : World} {l : List Arg} {ts : Nat → Option (Array Value)} (hl : ∀ p ∈ l, ArgOk W p) (ht : TabsOk W ts) (hlen : l.length ≤ 100) : Sim ⟨W.heap.size, fun _ => False⟩ W (argsRn l) (lawHp l ts) W := by
  have a := args_sim hl hlen
  have rg : ∀ g, argsRn l (100 + g) = ⟨g, 0, 0⟩ := fun g => by simp [argsRn, List.getElem?_eq_none (show l.length ≤ 100 + g by omega)]
  refine ⟨?_, ?_, ?_, ?_, ⟨Nat.le_refl _, fun _ h => h.elim⟩, BelowF.refl _ _, fun g _ => rg g, Nat.le_refl _⟩
  · intro i b hb
    rcases lawHp_blks hb with ⟨_, hb⟩ | ⟨g, c, rfl, hc, _⟩
    · exact a.lt i b hb
    · have := (ht g c hc).1
      show 100 + g < 150
      omega
  · intro i b hb v hv
    rcases lawHp_blks hb with ⟨_, hb⟩ | ⟨g, c, rfl, hc, rfl⟩
    · exact a.wf i b hb v hv
    · obtain ⟨q1, q2, _⟩ := (ht g c hc).2.2 v hv
      exact ⟨by rw [q1]; exact Nat.zero_le _, q2⟩
  · intro i b hb
    rcases lawHp_blks hb with ⟨_, hb⟩ | ⟨g, c, rfl, hc, rfl⟩
    · exact a.real i b hb
    · obtain ⟨_, ⟨e, fr, q1⟩, q3⟩ := ht g c hc
      refine ⟨c, e, fr, ?_, ?_, ?_, ?_⟩
      · rw [rg]; exact q1
      · intro j hj
        rw [rg, (q3 _ (Array.getElem_mem hj)).2.2]
        simp
      · intro ho; cases ho
      · intro _; rw [rg]; exact ⟨(Array.getElem?_eq_some_iff.1 q1).1, fun _ => by simp⟩
  · intro i j b c hb _ ho _ _
    rcases lawHp_blks hb with ⟨_, hb⟩ | ⟨g, c, _, _, rfl⟩
    · obtain ⟨p, c', _, _, rfl⟩ := argsHp_blks hb
      cases ho
    · cases ho
theorem law_tabs {P : Program} {f : FuncId} {args : List Value} {l : List Arg} {ts : Nat → Option (Array Value)} {W : World} (hl : ∀ p ∈ l, ArgOk W p) (hts : TabsOk W ts) (ht : ∀ v ∈ args, vtop v ≤ l.length) (hc : ACall P f args (lawHp l ts) (fun r _ => r = .bool true)) (hlen : l.length ≤ 100 := by simp) :
    Calls P f (args.map (rl (argsRn l))).toArray W fun e w' => e = .returned (.bool true) ∧ RowKit.Below W.heap.size W w' :=
  (hc.2 ⟨W.heap.size, fun _ => False⟩ W (argsRn l) W (SimE.plain (law_sim hl hts hlen)) fun v hv => by have := ht v hv; show vtop v ≤ 150; omega).mono fun e w' ⟨r, h', ρ', he, hr, hs, _⟩ => by
    subst hr
    exact ⟨by rw [he]; simp [rl], ⟨hs.sim.below.os, hs.sim.below.tape, hs.sim.below.output, hs.sim.below.size, fun k hk => hs.sim.below.block k (.inl hk)⟩⟩

/-- A table that stands in the heap is the variable's. -/
theorem Sim.table {P : Program} {B : Bd} {w0 w : World} {ρ : Rn} {h : Hp} (hs : Sim B w0 ρ h w) {g : Nat} (hg : g < 50) {c : Array Value} (hb : h.blks (100 + g) = some ⟨c, 0, false⟩) (hv : ∀ v ∈ c, ∀ ρ, rl ρ v = v) {name : String} (hn : P.globalNamed name = some g) : w.var? P name = some c := by
  obtain ⟨cs, e, fr, q⟩ := hs.real _ _ hb
  have hr := hs.gl g hg
  have h1 := q.at_
  have h2 := (q.ro rfl).2 rfl
  have h3 := q.cell
  rw [hr] at h1 h2 h3
  have e1 : cs = c := by
    apply Array.ext_getElem?
    intro j
    by_cases hj : j < c.size
    · have := h3 j hj
      rw [hv _ (Array.getElem_mem hj)] at this
      simp only [Nat.zero_add] at this
      rw [this, Array.getElem?_eq_getElem hj]
    · rw [Array.getElem?_eq_none (by simp at h2; omega), Array.getElem?_eq_none (by omega)]
  unfold World.var?
  rw [hn]
  simp only [Option.bind_some, h1, e1]
theorem below_grow (w : World) (k : Nat) (os : Array Obj) : RowKit.Below w.heap.size w (grow (w.drewN k) os) :=
  ⟨rfl, rfl, rfl, by simp [grow, World.drewN], fun i hi => by show (w.heap ++ os)[i]? = w.heap[i]?; exact Array.getElem?_append_left hi⟩
/-- A call of the library that reads a table. -/
theorem ACall.of_table [E : REnv] {P : Program} {f : FuncId} {args : List Value} {h : Hp} {K : Value → Hp → Prop} {r : Value} {g : Nat} {c : Array Value} {name : String} (hcl : Callable P f) (ha : ∀ v ∈ args, vtop v = 0) (hr : vtop r = 0) (hg : g < 50) (hb : h.blks (100 + g) = some ⟨c, 0, false⟩) (hv : ∀ v ∈ c, ∀ ρ, rl ρ v = v) (hn : P.globalNamed name = some g)
    (hc : ∀ w, w.var? P name = some c → Calls P f args.toArray w fun e w' => e = .returned r ∧ ∃ k os, w' = grow (w.drewN k) os) (hK : K r h) : ACall P f args h K := by
  refine ACall.of_world hcl hr (fun B w0 ρ w hs => ?_) hK
  have e : args.map (rl ρ) = args := by
    rw [List.map_congr_left (fun v hv => rl_id v (ha v hv)), List.map_id']
  rw [e]
  exact (hc w (hs.table hg hb hv hn)).mono fun ex w' ⟨he, k, os, hw⟩ => ⟨he, by rw [hw]; exact below_grow w k os⟩
theorem app_rowJ [E : REnv] {m : Nat} {h : Hp} {esz bytes n : Nat} {cs : List Value} {v x : Value} {k : Nat} {new : Array Value} {K : Value → Hp → Prop} {u : Tag K} (hr : Row m h esz n cs v) (hm : m ≤ h.next) (hx : srcCells h esz x = some (k, new)) (hk : 0 < k) (hsz : new.size = k * esz) (room : (n + k) * bytes ≤ ROOM ∧ n + k ≤ ROOM)
    (hK : ∀ v' h', Row m h' esz (n + k) (cs ++ new.toList) v' → h'.next = h.next + 1 → h'.jump = h.jump → sblk v' = some h.next → (∀ i, i < h.next → sblk v ≠ some i → h'.blks i = h.blks i) → K v' h') : OptF (aappend h esz bytes v x) K u := by
  have hne : k ≠ 0 := by omega
  obtain ⟨h0, ⟨rfl, rfl⟩ | ⟨b, h1, h2, rfl, h3⟩⟩ := hr
  · have hcs : cs = [] := List.length_eq_zero_iff.1 (by simpa using h0)
    subst hcs
    unfold aappend
    simp only [hx]
    rw [if_pos ⟨trivial, trivial⟩, if_neg hne]
    unfold agrown
    rw [if_pos (by simpa using room)]
    refine hK _ _ ⟨by simp [hsz], .inr ⟨h.next, hm, by simp, by simp, by simp [Hp.blks_alloc]⟩⟩ rfl rfl rfl ?_
    intro i hi _
    simp [Hp.blks_alloc, Nat.ne_of_lt hi]
  · unfold aappend
    simp only [hx]
    rw [if_neg (by omega), if_neg (by omega), h3]
    simp only
    rw [if_pos ⟨trivial, trivial, trivial, by simp [h0], by omega⟩]
    unfold agrown
    rw [if_pos room]
    refine hK _ _ ⟨by simp [hsz, h0, Nat.add_mul], .inr ⟨h.next, hm, by simp, by simp, by simp [Hp.blks_alloc]⟩⟩ rfl rfl rfl ?_
    intro i hi hs
    have : i ≠ b := fun e => hs (by rw [e]; rfl)
    simp [Hp.blks_alloc, Hp.blks_kill, Nat.ne_of_lt hi, this]
end Go.Mini
