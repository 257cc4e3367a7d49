/-
  A call of the library that lays a number's digits into a row of ours.
-/
import Derived.Test.YtkbiadobkheafaaDoorM29
import Derived.Test.YtkbiadobkheafaaDoorM21
import Derived.Lib.ItoaMem
set_option linter.unusedSimpArgs false
set_option linter.unusedVariables false
set_option linter.unusedSectionVars false
namespace Go.Mini
open Go Go.Sort

/-- A block's cells are others now. -/
theorem Sim.recells {B : Bd} {w0 w w' : World} {ρ : Rn} {h : Hp} {i : Nat} {b : Blk} {cells' cs cs' : Array Value} {e : TypeId} {fr : Nat × Nat} (hs : Sim B w0 ρ h w) (hb : h.blks i = some b) (ho : b.own = true) (hat : w.heap[(ρ i).blk]? = some (.cells cs e fr)) (hat' : w'.heap[(ρ i).blk]? = some (.cells cs' e fr))
    (hsz : cs'.size = cs.size) (hc : cells'.size = b.cells.size) (hcell : ∀ (j : Nat) (hj : j < cells'.size), cs'[j]? = some (rl ρ cells'[j])) (hw : ∀ v ∈ cells', vtop v ≤ h.next ∧ v.oneCell' = true) (hoth : ∀ k, k ≠ (ρ i).blk → w'.heap[k]? = w.heap[k]?) (hhs : w'.heap.size = w.heap.size) (h1 : w'.os = w.os) (h2 : w'.tape = w.tape) (h3 : w'.output = w.output) :
    Sim B w0 ρ (h.set i { b with cells := cells' }) w' := by
  obtain ⟨cs0, e0, fr0, hr⟩ := hs.real i b hb
  have hh := hr.at_
  rw [hat] at hh
  cases hh
  obtain ⟨hB, hbase, hsz0, hfr⟩ := hr.own ho
  have look : ∀ j c, (h.set i { b with cells := cells' }).blks j = some c → (j = i ∧ c = { b with cells := cells' }) ∨ (j ≠ i ∧ h.blks j = some c) := fun j c hx => by
    rw [Hp.blks_set] at hx
    by_cases hj : j = i
    · rw [if_pos hj] at hx; cases hx; exact .inl ⟨hj, rfl⟩
    · rw [if_neg hj] at hx; exact .inr ⟨hj, hx⟩
  have low : ∀ j c, (h.set i { b with cells := cells' }).blks j = some c → ∃ c', h.blks j = some c' ∧ c'.own = c.own := fun j c hx => by
    rcases look j c hx with ⟨rfl, rfl⟩ | ⟨_, hx⟩
    · exact ⟨b, hb, rfl⟩
    · exact ⟨c, hx, rfl⟩
  refine ⟨fun j c hx => ?_, fun j c hx => ?_, fun j c hx => ?_, fun j k c d hx hy oc od he => ?_, by rw [hhs]; exact hs.base, hs.below.trans ⟨h1, h2, h3, by rw [hhs]; exact Nat.le_refl _, fun k hk => hoth k fun e => ?_⟩, hs.gl, hs.nx⟩
  · obtain ⟨c', h0, _⟩ := low j c hx; exact hs.lt j c' h0
  · rcases look j c hx with ⟨rfl, rfl⟩ | ⟨_, hx⟩
    · exact hw
    · exact hs.wf j c hx
  · rcases look j c hx with ⟨rfl, rfl⟩ | ⟨hj, hx⟩
    · exact ⟨cs', e, fr, hat', fun q hq => by rw [hbase, Nat.zero_add]; exact hcell q hq, fun _ => ⟨hB, hbase, by rw [hsz, hc]; exact hsz0, fun q hq => hfr q (by rw [← hsz]; exact hq)⟩, fun ho' => by rw [show ({ b with cells := cells' } : Blk).own = b.own from rfl, ho] at ho'; cases ho'⟩
    · obtain ⟨cs2, e2, fr2, q⟩ := hs.real j c hx
      have hne : (ρ j).blk ≠ (ρ i).blk := by
        intro he
        cases oc : c.own with
        | true => exact hj (hs.inj j i c b hx hb oc ho he)
        | false => have := (q.ro oc).1; have := hB.1; omega
      exact ⟨cs2, e2, fr2, by rw [hoth _ hne]; exact q.at_, q.cell, q.own, q.ro⟩
  · obtain ⟨c', q1, q2⟩ := low j c hx
    obtain ⟨d', q3, q4⟩ := low k d hy
    exact hs.inj j k c' d' q1 q3 (q2.trans oc) (q4.trans od) he
  · subst e
    rcases hk with hk | hk
    · have := hB.1; omega
    · exact hB.2 hk

theorem putCells_size {α : Type} [Inhabited α] (enc : α → Value) (off : Nat) (d : Array α) (c : Array Value) : (putCells enc off d c).size = c.size := by simp [putCells]
theorem putCells_at {α : Type} [Inhabited α] (enc : α → Value) (off : Nat) (d : Array α) (c : Array Value) (j : Nat) : (putCells enc off d c)[j]? = if off ≤ j ∧ j < off + d.size then c[j]?.map (fun _ => enc d[j - off]!) else c[j]? := by
  unfold putCells
  rw [Array.getElem?_mapIdx]
  split
  · rename_i h; cases c[j]? <;> simp [h]
  · rename_i h; cases c[j]? <;> simp [h]

theorem mem_of_putL {v : Value} {cs : Array Value} {off : Nat} {l : List Value} (h : v ∈ putL cs off l) : v ∈ cs ∨ v ∈ l := by
  obtain ⟨j, hj⟩ := Array.mem_iff_getElem?.1 h
  rw [getElem?_putL] at hj
  split at hj
  · exact .inr (List.mem_of_getElem? hj)
  · exact .inl (Array.mem_of_getElem? hj)
/-- A number's digits are laid into a row of zeros. -/
theorem ACall.of_fmt [E : REnv] {P : Program} {f : FuncId} {h : Hp} {K : Value → Hp → Prop} {i off cap u : Nat} {cells : Array Value} (hcl : Callable P f)
    (F : ∀ (blk off cap u : Nat) (d : Array UInt8) (w : World), Holds (fun (b : UInt8) => Value.int .u8 (b.toNat : Int)) w blk off d → u < 10 ^ d.size → u < 18446744073709551616 → d.size < 4611686018427387904 →
      Calls P f #[.slice (some ⟨blk, off, none⟩) d.size cap, .int .u64 u] w fun e w' => e = .returned (.tuple #[]) ∧ ∃ (n v' : Nat) (dk : Array UInt8), w' = (putRow (fun (b : UInt8) => Value.int .u8 (b.toNat : Int)) w blk off dk).drewN n ∧ Lib.FmtInv d.size u 0 v' dk)
    (hb : h.blks i = some ⟨cells, 1, true⟩) (hoff : off + Lib.nDigits u ≤ cells.size) (hz : ∀ j, j < Lib.nDigits u → cells[off + j]? = some (.int .u8 0)) (hu : u < 18446744073709551616) (hnd : Lib.nDigits u ≤ 20)
    (hK : K (.tuple #[]) (h.set i ⟨putL cells off ((Lib.decDigits u).map byteV), 1, true⟩)) : ACall P f [.slice (some ⟨i, off, none⟩) (Lib.nDigits u) cap, .int .u64 u] h K := by
  refine ⟨hcl, fun B w0 ρ w hs ha => ?_⟩
  obtain ⟨cs, e, fr, q⟩ := hs.sim.real i _ hb
  obtain ⟨hB, hbase, hsz, hfr⟩ := q.own rfl
  have hcell := q.cell
  simp only [hbase, Nat.zero_add] at hcell
  obtain ⟨nd, hndd⟩ : ∃ nd, nd = Lib.nDigits u := ⟨_, rfl⟩
  rw [← hndd] at hoff hz hnd ⊢
  have hle : cells.size ≤ cs.size := by rw [hsz]; exact Nat.le_add_right _ _
  have hH : Holds (fun (b : UInt8) => Value.int .u8 (b.toNat : Int)) w (ρ i).blk off (Array.replicate nd 0) := fun j hj => by
    have hj' : j < nd := by simpa using hj
    refine ⟨?_, ?_⟩
    · rw [cell_of_row w _ _ cs e fr q.at_, hcell (off + j) (by omega)]
      have := hz j hj'
      rw [Array.getElem?_eq_getElem (by omega)] at this
      rw [Option.some.inj this]
      simp [rl, hj']
    · have := hfr (off + j) (by omega)
      simp only [World.frozen?, q.at_, Bool.and_eq_false_iff, decide_eq_false_iff_not]
      omega
  have hF := F (ρ i).blk off (rlCap ρ ⟨i, off, none⟩ cap) u (Array.replicate nd 0) w hH (by rw [Array.size_replicate, hndd]; exact Lib.lt_pow_nDigits u) hu (by rw [Array.size_replicate]; omega)
  rw [Array.size_replicate] at hF
  have ea : ([Value.slice (some ⟨i, off, none⟩) nd cap, .int .u64 u].map (rl ρ)).toArray = #[.slice (some ⟨(ρ i).blk, off, none⟩) nd (rlCap ρ ⟨i, off, none⟩ cap), .int .u64 u] := by
    simp only [List.map_cons, List.map_nil, rl, rlAddr, hbase, Nat.zero_add]
  rw [ea]
  refine hF.mono ?_
  rintro ex w' ⟨he, n, v', dk, hw', hinv⟩
  have hdk : dk.size = nd := hinv.size
  have hdd : (Lib.decDigits u).length = nd := by rw [Lib.decDigits_length, hndd]
  have hat' : w'.heap[(ρ i).blk]? = some (.cells (putCells (fun (b : UInt8) => Value.int .u8 (b.toNat : Int)) off dk cs) e fr) := by
    rw [hw']
    show (w.heap.modify (ρ i).blk _)[(ρ i).blk]? = _
    rw [Array.getElem?_modify, if_pos rfl, q.at_]
    rfl
  have hoth : ∀ k, k ≠ (ρ i).blk → w'.heap[k]? = w.heap[k]? := fun k hk => by
    rw [hw']
    show (w.heap.modify (ρ i).blk _)[k]? = _
    rw [Array.getElem?_modify, if_neg (Ne.symm hk)]
  have hws : w'.heap.size = w.heap.size := by
    rw [hw']
    show (w.heap.modify (ρ i).blk _).size = _
    simp
  have hSim : Sim B.un w ρ (h.set i ⟨putL cells off ((Lib.decDigits u).map byteV), 1, true⟩) w' := by
    refine Sim.recells (b := ⟨cells, 1, true⟩) (cells' := putL cells off ((Lib.decDigits u).map byteV)) hs.open_ hb rfl q.at_ hat' (putCells_size _ _ _ _) (by simp) (fun j hj => ?_) (fun v hv => ?_) hoth hws (by rw [hw']; rfl) (by rw [hw']; rfl) (by rw [hw']; rfl)
    · have hj' : j < cells.size := by simpa using hj
      have hx : (putL cells off ((Lib.decDigits u).map byteV))[j]? = some ((putL cells off ((Lib.decDigits u).map byteV))[j]) := Array.getElem?_eq_getElem hj
      rw [getElem?_putL] at hx
      rw [putCells_at, hdk]
      by_cases c : off ≤ j ∧ j < off + nd
      · rw [if_pos ⟨c.1, by simp [hdd]; omega, hj'⟩, List.getElem?_map, List.getElem?_eq_getElem (by omega)] at hx
        rw [if_pos c, hcell j hj', ← Option.some.inj hx]
        have hr := Lib.row_is_numeral (u := u) (v' := v') (dk := dk) (by rw [← hndd]; exact hinv) (j - off) (by omega)
        rw [hr]
        rfl
      · rw [if_neg (fun z => c ⟨z.1, by have := z.2.1; simp [hdd] at this; omega⟩), Array.getElem?_eq_getElem hj'] at hx
        rw [if_neg c, hcell j hj', ← Option.some.inj hx]
    · rcases mem_of_putL hv with hv | hv
      · exact hs.sim.wf i _ hb v hv
      · obtain ⟨b, _, rfl⟩ := List.mem_map.1 hv
        exact ⟨by simp [byteV, vtop], rfl⟩
  exact ⟨.tuple #[], _, ρ, by rw [he]; simp [rl_tuple], hK, hs.close_ hSim rfl (Nat.le_refl _) (Goes.refl _ _), by simp [vtop, vtopL], Nat.le_refl _, Goes.refl _ _, fun _ => rfl⟩
end Go.Mini
