/-
  What comes in, of any number of blocks, and blocks that lead to others of them.
-/
import Derived.Test.YtmnemfeofhinaaaDoorM26
import Derived.Test.YtmnemfeofhinaaaDoorM32
import Derived.Test.YtmnemfeofhinaaaDoorM34
set_option linter.unusedSimpArgs false
set_option linter.unusedVariables false
set_option linter.unusedSectionVars false
namespace Go.Mini
open Go Go.Sort

def bigRn (pl : List (Nat × Nat)) : Rn := fun i => if i < 150 then ⟨i - 100, 0, 0⟩ else match pl[i - 150]? with
  | some p => ⟨p.1, p.2, 0⟩
  | none => ⟨0, 0, 0⟩
theorem bigRn_at {pl : List (Nat × Nat)} {i : Nat} {p : Nat × Nat} (h : pl[i]? = some p) : bigRn pl (150 + i) = ⟨p.1, p.2, 0⟩ := by
  unfold bigRn
  rw [if_neg (by omega), show 150 + i - 150 = i by omega, h]
theorem bigRn_gl (pl : List (Nat × Nat)) (g : Nat) (hg : g < 50) : bigRn pl (100 + g) = ⟨g, 0, 0⟩ := by
  unfold bigRn
  rw [if_pos (by omega), show 100 + g - 100 = g by omega]
def Arg.pl (l : List Arg) : List (Nat × Nat) := l.map fun p => (p.blk, p.off)
def bigHp (l : List Arg) (ts : Nat → Option (Array Value)) : Hp := ⟨150 + l.length, fun i => if i < 100 then none else if i < 150 then (ts (i - 100)).map fun c => ⟨c, 0, false⟩ else (l[i - 150]?).bind fun p => p.cells.map fun c => ⟨c, 1, false⟩, none⟩
def BigAt (W : World) (pl : List (Nat × Nat)) (p : Arg) : Prop := ∀ c, p.cells = some c → (∃ cs e fr, W.heap[p.blk]? = some (.cells cs e fr) ∧ ∀ (j : Nat) (hj : j < c.size), cs[p.off + j]? = some (rl (bigRn pl) c[j])) ∧ ∀ v ∈ c, vtop v ≤ 150 + pl.length ∧ v.oneCell' = true
def BigOk (W : World) (l : List Arg) : Prop := ∀ p ∈ l, BigAt W (Arg.pl l) p
theorem BigAt.of {W : World} {p : Arg} (h : ArgOk W p) (pl : List (Nat × Nat)) : BigAt W pl p := fun c hc => by
  obtain ⟨⟨cs, e, fr, q1, q2⟩, q3⟩ := h c hc
  exact ⟨⟨cs, e, fr, q1, fun j hj => by rw [q2 j hj, (q3 _ (Array.getElem_mem hj)).2.2]⟩, fun v hv => ⟨by have := (q3 v hv).1; omega, (q3 v hv).2.1⟩⟩
theorem bigHp_blks {l : List Arg} {ts : Nat → Option (Array Value)} {i : Nat} {b : Blk} (h : (bigHp l ts).blks i = some b) : (∃ j p c, i = 150 + j ∧ l[j]? = some p ∧ p.cells = some c ∧ b = ⟨c, 1, false⟩) ∨ (∃ g c, i = 100 + g ∧ g < 50 ∧ ts g = some c ∧ b = ⟨c, 0, false⟩) := by
  simp only [bigHp] at h
  split at h
  · cases h
  · split at h
    · rename_i h1 h2
      cases hc : ts (i - 100) with
      | none => rw [hc] at h; cases h
      | some c => rw [hc] at h; exact .inr ⟨i - 100, c, by omega, by omega, hc, by simpa using h.symm⟩
    · rename_i h1 h2
      cases hp : l[i - 150]? with
      | none => rw [hp] at h; cases h
      | some p =>
        rw [hp] at h
        cases hc : p.cells with
        | none => simp [hc] at h
        | some c => simp [hc] at h; exact .inl ⟨i - 150, p, c, by omega, hp, hc, h.symm⟩
theorem bigHp_at {l : List Arg} (ts : Nat → Option (Array Value)) {j : Nat} {p : Arg} {c : Array Value} (hp : l[j]? = some p) (hc : p.cells = some c) : (bigHp l ts).blks (150 + j) = some ⟨c, 1, false⟩ := by
  simp only [bigHp]
  rw [if_neg (by omega), if_neg (by omega), show 150 + j - 150 = j by omega, hp]
  simp [hc]
/-- As 'TabsRn', of renamings that tell the first fifty variables. -/
def TabsBg (W : World) (ts : Nat → Option (Array Value)) : Prop := ∀ g c, ts g = some c → g < 50 ∧ (∀ pl, ∃ e fr, W.heap[g]? = some (.cells (c.map (rl (bigRn pl))) e fr)) ∧ ∀ v ∈ c, vtop v ≤ 150 ∧ v.oneCell' = true
theorem TabsRn.bg {W : World} {ts : Nat → Option (Array Value)} (h : TabsRn W ts) : TabsBg W ts := fun g c hc => by
  obtain ⟨h1, h2, h3⟩ := h g c hc
  refine ⟨h1, fun pl => ?_, h3⟩
  obtain ⟨e, fr, q⟩ := h2 (fun i => ⟨i - 100, 0, 0⟩) (fun k => by simp)
  refine ⟨e, fr, q.trans ?_⟩
  congr 2
  apply Array.map_congr_left
  intro v hv
  refine rl_congr v 150 (h3 v hv).1 fun i hi => ?_
  unfold bigRn
  rw [if_pos hi]
theorem big_sim {W : World} {l : List Arg} {ts : Nat → Option (Array Value)} (hl : BigOk W l) (ht : TabsBg W ts) : Sim ⟨W.heap.size, fun _ => False⟩ W (bigRn (Arg.pl l)) (bigHp l ts) W := by
  refine ⟨?_, ?_, ?_, ?_, ⟨Nat.le_refl _, fun _ h => h.elim⟩, BelowF.refl _ _, bigRn_gl _, by show 150 ≤ 150 + l.length; omega⟩
  · intro i b hb
    rcases bigHp_blks hb with ⟨j, p, c, rfl, hp, _⟩ | ⟨g, c, rfl, hg, _⟩
    · have := (List.getElem?_eq_some_iff.1 hp).1
      show 150 + j < 150 + l.length
      omega
    · show 100 + g < 150 + l.length
      omega
  · intro i b hb v hv
    rcases bigHp_blks hb with ⟨j, p, c, rfl, hp, hc, rfl⟩ | ⟨g, c, rfl, hg, hc, rfl⟩
    · have := (hl p (List.mem_of_getElem? hp) c hc).2 v hv
      simpa [Arg.pl, bigHp] using this
    · obtain ⟨q1, q2⟩ := (ht g c hc).2.2 v hv
      exact ⟨by show vtop v ≤ 150 + l.length; omega, q2⟩
  · intro i b hb
    rcases bigHp_blks hb with ⟨j, p, c, rfl, hp, hc, rfl⟩ | ⟨g, c, rfl, hg, hc, rfl⟩
    · obtain ⟨⟨cs, e, fr, q1, q2⟩, q3⟩ := hl p (List.mem_of_getElem? hp) c hc
      have hr : bigRn (Arg.pl l) (150 + j) = ⟨p.blk, p.off, 0⟩ := bigRn_at (p := (p.blk, p.off)) (by simp [Arg.pl, hp])
      refine ⟨cs, e, fr, ?_, ?_, ?_, ?_⟩
      · rw [hr]; exact q1
      · intro j' hj
        rw [hr, q2 j' hj]
      · intro ho; cases ho
      · intro _; rw [hr]; exact ⟨(Array.getElem?_eq_some_iff.1 q1).1, fun e => by cases e⟩
    · obtain ⟨_, q, _⟩ := ht g c hc
      obtain ⟨e, fr, q1⟩ := q (Arg.pl l)
      have hr := bigRn_gl (Arg.pl l) g hg
      refine ⟨c.map (rl (bigRn (Arg.pl l))), e, fr, ?_, ?_, ?_, ?_⟩
      · rw [hr]; exact q1
      · intro j hj
        have hj : j < c.size := hj
        rw [hr]
        simp [hj]
      · intro ho; cases ho
      · intro _; rw [hr]; exact ⟨(Array.getElem?_eq_some_iff.1 q1).1, fun _ => by simp⟩
  · intro i j b c hb _ ho _ _
    rcases bigHp_blks hb with ⟨_, _, _, _, _, _, rfl⟩ | ⟨_, _, _, _, _, rfl⟩ <;> cases ho
theorem law_big {P : Program} {f : FuncId} {args : List Value} {l : List Arg} {ts : Nat → Option (Array Value)} {W : World} (hl : BigOk W l) (hts : TabsBg W ts) (ht : ∀ v ∈ args, vtop v ≤ 150 + l.length) (hc : ACall P f args (bigHp l ts) (fun r _ => r = .bool true)) :
    Calls P f (args.map (rl (bigRn (Arg.pl l)))).toArray W fun e w' => e = .returned (.bool true) ∧ RowKit.Below W.heap.size W w' :=
  (hc.2 ⟨W.heap.size, fun _ => False⟩ W (bigRn (Arg.pl l)) W (SimE.plain (big_sim hl hts)) fun v hv => by have := ht v hv; show vtop v ≤ 150 + l.length; omega).mono fun e w' ⟨r, h', ρ', he, hr, hs, _⟩ => by
    subst hr
    exact ⟨by rw [he]; simp [rl], ⟨hs.sim.below.os, hs.sim.below.tape, hs.sim.below.output, hs.sim.below.size, fun k hk => hs.sim.below.block k (.inl hk)⟩⟩

section
variable {H : Type} {enc : TypeId × Value → H} {P : Program} {W : World}
/-- A slice of plain elements, at any place: told under any names. -/
theorem open_slR {t e : TypeId} {d : Nat} {ls : List Leaf} {v : Value} {fuel : Nat} {x : DataW H × List MemPlace} (ht : P.underlying t = some (.slice e)) (hl : leavesA P d e = some ls) (hc : P.cellsOf e = ls.length) (hpos : 0 < ls.length)
    (hf : DataW.trod enc P W 0 (fun _ => true) true fuel t [v] = some x) :
    ∃ (A : Arg) (rows : List (List Value)), ArgOk W A ∧ (∀ x ∈ rows, leavesIn ls x) ∧ rows.length ≤ maxLen ∧
      ∀ (ρ : Rn) (nm : Nat), ρ nm = ⟨A.blk, A.off, 0⟩ → ∃ v', rl ρ v' = v ∧ vtop v' ≤ nm + 1 ∧ v'.oneCell' = true ∧ (∀ b, sblk v' = some b → b = nm) ∧
        ∀ h : Hp, (∀ c, A.cells = some c → h.blks nm = some ⟨c, 1, false⟩) → Sl h ls.length rows.length rows.flatten v' ∨ (rows = [] ∧ (∃ k a s, v' = .complex k a s) ∧ ∃ a s, v = .slice (some a) 0 0 ∧ a.spot = some s) := by
  rcases Deep.open_slice ht hf with ⟨hcs, _⟩ | ⟨a', len', cap', m, n, Df, Pl, hcs, _, hle, hm, hmm, _, hall⟩
  · simp only [List.cons.injEq, and_true] at hcs
    subst hcs
    exact ⟨⟨0, 0, none⟩, [], (fun c hc => by cases hc), by simp, by simp, fun ρ nm _ => ⟨.slice none 0 0, by simp [rl], by simp [vtop], rfl, (fun b hb => by cases hb), fun h _ => .inl ⟨by simp, .inl ⟨_, _, rfl, rfl⟩⟩⟩⟩
  · simp only [List.cons.injEq, and_true] at hcs
    subst hcs
    simp only [if_true] at hmm
    subst hmm
    by_cases h0 : m = 0
    · subst h0
      obtain rfl : len' = 0 := by omega
      obtain ⟨ab, ao, asp⟩ := a'
      cases asp with
      | none => exact ⟨⟨ab, ao, none⟩, [], (fun c hc => by cases hc), by simp, by simp, fun ρ nm hA => ⟨.slice (some ⟨nm, 0, none⟩) 0 0, by simp [rl, rlAddr, rlCap, hA], by simp [vtop], rfl, (fun b hb => by simpa [sblk] using hb.symm), fun h _ => .inl ⟨by simp, .inl ⟨_, _, rfl, rfl⟩⟩⟩⟩
      | some s => exact ⟨⟨ab, ao, none⟩, [], (fun c hc => by cases hc), by simp, by simp, fun ρ nm hA => ⟨.complex .f64 nm s, by simp [rl, hA], by simp [vtop], rfl, (fun b hb => by cases hb), fun h _ => .inr ⟨rfl, ⟨_, _, _, rfl⟩, _, _, rfl, rfl⟩⟩⟩
    · have hspot : a'.spot = none := by
        obtain ⟨cs', q1, _⟩ := hall 0 (by omega)
        have := (World.cells?_some q1).2.2 0 (by omega)
        have hlen := (World.cells?_some q1).2.1
        rw [List.getElem?_eq_getElem (by omega)] at this
        simp only [Nat.zero_mul] at this
        rw [show a'.add 0 = a' from rfl, show a'.add 0 = a' from rfl] at this
        unfold World.cell? at this
        split at this
        · split at this
          · cases this
          · rename_i hs
            cases ha : a'.spot with
            | none => rfl
            | some s => rw [ha] at hs; simp at hs
        · cases this
      obtain ⟨ab, ao, asp⟩ := a'
      simp only at hspot
      subst hspot
      let R : Nat → List Value := fun i => if h : i < m then Classical.choose (hall i h) else []
      have hR : ∀ i, i < m → W.cells? 0 ((⟨ab, ao, none⟩ : Addr).add (i * P.cellsOf e)) (P.cellsOf e) = some (R i) ∧ leavesIn ls (R i) := fun i hi => by
        have := Classical.choose_spec (hall i hi)
        simp only [R, dif_pos hi]
        exact ⟨this.1, leavesA_in d e ls n _ _ hl hc this.2⟩
      have hcell : ∀ i j, i < m → j < ls.length → W.cell? ⟨ab, ao + (i * ls.length + j), none⟩ = (R i)[j]? := fun i j hi hj => by
        have := (World.cells?_some (hR i hi).1).2.2 j (by omega)
        rw [← this, hc, addr_add, addr_add, Nat.add_assoc]
      have hRl : ∀ k, ∀ r ∈ (List.range k).map R, k ≤ m → r.length = ls.length := fun k r hr hk => by
        obtain ⟨i, hi, rfl⟩ := List.mem_map.1 hr
        exact leavesIn_length (hR i (by have := List.mem_range.1 hi; omega)).2
      have hdiv : ∀ k j, j < k * ls.length → j / ls.length < k ∧ j % ls.length < ls.length ∧ j / ls.length * ls.length + j % ls.length = j := fun k j hj => by
        refine ⟨(Nat.div_lt_iff_lt_mul hpos).2 hj, Nat.mod_lt _ hpos, ?_⟩
        rw [Nat.mul_comm]; exact Nat.div_add_mod _ _
      have hat : ∀ k j, k ≤ m → j < k * ls.length → ((List.range k).map R).flatten[j]? = (R (j / ls.length))[j % ls.length]? := fun k j hk hj => by
        obtain ⟨q1, q2, q3⟩ := hdiv k j hj
        have := flatten_at ls.length ((List.range k).map R) (j / ls.length) (j % ls.length) (fun r hr => hRl k r hr hk) q2
        rw [q3] at this
        rw [this]
        simp [q1]
      have hlenF := flatten_length ls.length ((List.range m).map R) (fun r hr => hRl m r hr (Nat.le_refl _))
      simp only [List.length_map, List.length_range] at hlenF
      have hb : ∃ cs ty fr, W.heap[ab]? = some (.cells cs ty fr) := by
        have h1 := hcell 0 0 (by omega) hpos
        have h2 : (R 0)[0]? ≠ none := by
          have := leavesIn_length (hR 0 (by omega)).2
          rw [List.getElem?_eq_getElem (by omega)]; simp
        rw [← h1] at h2
        unfold World.cell? at h2
        split at h2
        · rename_i c ty fr hh; exact ⟨c, ty, fr, hh⟩
        · exact (h2 rfl).elim
      obtain ⟨cs, ty, fr, hh⟩ := hb
      have hcell' : ∀ i j, i < m → j < ls.length → cs[ao + (i * ls.length + j)]? = (R i)[j]? := fun i j hi hj => by
        have := hcell i j hi hj
        simpa [World.cell?, hh] using this
      refine ⟨⟨ab, ao, some ((List.range m).map R).flatten.toArray⟩, (List.range len').map R, ?_, ?_, by simp; omega, ?_⟩
      · intro c hc'
        simp only [Option.some.injEq] at hc'
        subst hc'
        refine ⟨⟨cs, ty, fr, hh, fun j hj => ?_⟩, fun v hv => ?_⟩
        · have hj' : j < m * ls.length := by rw [← hlenF]; simpa using hj
          obtain ⟨q1, q2, q3⟩ := hdiv m j hj'
          have e1 := hcell' _ _ q1 q2
          rw [q3, ← hat m j (Nat.le_refl _) hj'] at e1
          rw [e1]
          simp only [List.getElem_toArray]
          exact List.getElem?_eq_getElem (by rw [hlenF]; exact hj')
        · simp only [List.mem_toArray, List.mem_flatten, List.mem_map, List.mem_range] at hv
          obtain ⟨_, ⟨i, hi, rfl⟩, hv⟩ := hv
          exact leavesIn_plain (hR i hi).2 v hv
      · intro x hx
        obtain ⟨i, hi, rfl⟩ := List.mem_map.1 hx
        exact (hR i (by have := List.mem_range.1 hi; omega)).2
      · intro ρ nm hA
        have hlen2 := flatten_length ls.length ((List.range len').map R) (fun r hr => hRl len' r hr hle)
        refine ⟨.slice (some ⟨nm, 0, none⟩) len' (2 * m), by simp [rl, rlAddr, rlCap, hA], by simp [vtop], rfl, (fun b hb => by simpa [sblk] using hb.symm), fun h hh => .inl ⟨hlen2, .inr ⟨⟨nm, 0, none⟩, 2 * m, ⟨((List.range m).map R).flatten.toArray, 1, false⟩, by simp, hh _ rfl, ?_, fun j hj => ?_⟩⟩⟩
        · simp only [List.length_map, List.length_range, List.size_toArray, hlenF, Nat.zero_add]
          exact Nat.mul_le_mul_right _ hle
        · simp only [List.length_map, List.length_range] at hj
          simp only [Nat.zero_add, List.getElem?_toArray]
          rw [hat m j (Nat.le_refl _) (Nat.lt_of_lt_of_le hj (Nat.mul_le_mul_right _ hle)), hat len' j hle hj]
end
end Go.Mini
