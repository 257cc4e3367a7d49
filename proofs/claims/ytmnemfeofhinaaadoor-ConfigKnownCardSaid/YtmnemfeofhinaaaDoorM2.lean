/-
  What the primitive acts on memory (a load, a store, a new block) do to a heap of named blocks and to the world that realises it.
-/
import Derived.Test.YtmnemfeofhinaaaDoorM1
set_option linter.unusedSimpArgs false
set_option linter.unusedVariables false
set_option linter.unusedSectionVars false
namespace Go.Mini
open Go

theorem add_mk (b o k : Nat) : (⟨b, o, none⟩ : Addr).add k = ⟨b, o + k, none⟩ := by
  unfold Addr.add; split <;> simp_all

/-- A part of a row of cells, written over. -/
def putL : Array Value → Nat → List Value → Array Value
  | cs, _, [] => cs
  | cs, off, v :: l => putL (cs.setIfInBounds off v) (off + 1) l
@[simp] theorem putL_nil (cs : Array Value) (off : Nat) : putL cs off [] = cs := rfl
@[simp] theorem putL_cons (cs : Array Value) (off : Nat) (v : Value) (l : List Value) : putL cs off (v :: l) = putL (cs.setIfInBounds off v) (off + 1) l := rfl
@[simp] theorem size_putL (cs : Array Value) (off : Nat) (l : List Value) : (putL cs off l).size = cs.size := by
  induction l generalizing cs off with
  | nil => rfl
  | cons v l ih => simp [putL, ih]

theorem getElem?_putL (l : List Value) : ∀ (cs : Array Value) (off j : Nat), (putL cs off l)[j]? = if off ≤ j ∧ j < off + l.length ∧ j < cs.size then l[j - off]? else cs[j]? := by
  induction l with
  | nil => intro cs off j; simp; intro h1 h2; omega
  | cons v l ih =>
    intro cs off j
    rw [putL, ih]
    simp only [Array.size_setIfInBounds, List.length_cons, Array.getElem?_setIfInBounds]
    by_cases hj : off = j
    · subst hj
      rw [if_neg (by omega), if_pos rfl]
      by_cases hs : off < cs.size
      · rw [if_pos hs, if_pos (by omega)]; simp
      · rw [if_neg hs, if_neg (by omega)]; simp at hs; simp [hs]
    · by_cases hc : off + 1 ≤ j ∧ j < off + 1 + l.length ∧ j < cs.size
      · rw [if_pos hc, if_pos (by omega)]
        obtain ⟨k, rfl⟩ : ∃ k, j = off + 1 + k := ⟨j - (off + 1), by omega⟩
        rw [show off + 1 + k - (off + 1) = k from by omega, show off + 1 + k - off = k + 1 from by omega]
        simp
      · rw [if_neg hc, if_neg hj, if_neg (by omega)]

def Blk.put (b : Blk) (off : Nat) (l : List Value) : Blk := { b with cells := putL b.cells off l }

section
variable {B : Bd} {w0 w : World} {ρ : Rn} {h : Hp} {i : Nat} {b : Blk} {P : Program}

theorem Sim.cell (hs : Sim B w0 ρ h w) (hb : h.blks i = some b) {j : Nat} (hj : j < b.cells.size) : w.cell? ⟨(ρ i).blk, (ρ i).base + j, none⟩ = some (rl ρ b.cells[j]) := by
  obtain ⟨cs, e, fr, hr⟩ := hs.real i b hb
  rw [cell_of_row w _ _ cs e fr hr.at_]
  exact hr.cell j hj

theorem Sim.blk_lt (hs : Sim B w0 ρ h w) (hb : h.blks i = some b) : (ρ i).blk < w.heap.size := by
  obtain ⟨cs, e, fr, hr⟩ := hs.real i b hb
  exact (Array.getElem?_eq_some_iff.1 hr.at_).1

theorem Sim.load (hs : Sim B w0 ρ h w) (hb : h.blks i = some b) {off : Nat} {s : Option Nat} (hj : off < b.cells.size) (m : Go.Mode) :
    (Go.load (rlAddr ρ ⟨i, off, s⟩) m).run P w = .ok (rl ρ b.cells[off]) w := by
  have := hs.cell hb hj
  simp only [rlAddr, run_load, this]

theorem Sim.loadCells (hs : Sim B w0 ρ h w) (hb : h.blks i = some b) {off n : Nat} {s : Option Nat} (hj : off + n ≤ b.cells.size) :
    (Go.loadCells (rlAddr ρ ⟨i, off, s⟩) n).run P w = .ok ((b.cells.extract off (off + n)).map (rl ρ)) w := by
  rw [run_loadCells w (rlAddr ρ ⟨i, off, s⟩) n (fun j => rl ρ (b.cells.getD (off + j) undef)) (fun j hjn => ?_)]
  · congr 1
    apply Array.ext
    · simp; omega
    · intro j h1 h2
      simp only [List.size_toArray, List.length_map, List.length_range] at h1
      have : off + j < b.cells.size := by omega
      simp [this]
  · have := hs.cell hb (j := off + j) (by omega)
    simp only [rlAddr, add_mk, Nat.add_assoc, this]
    have : off + j < b.cells.size := by omega
    simp [this]

theorem Sim.of_heap {w' : World} (hs : Sim B w0 ρ h w) (hh : w'.heap = w.heap) (h1 : w'.os = w.os) (h2 : w'.tape = w.tape) (h3 : w'.output = w.output) : Sim B w0 ρ h w' :=
  ⟨hs.lt, hs.wf, fun i b hb => by
    obtain ⟨cs, e, fr, hr⟩ := hs.real i b hb
    exact ⟨cs, e, fr, ⟨by rw [hh]; exact hr.at_, hr.cell, hr.own, hr.ro⟩⟩, hs.inj, by rw [hh]; exact hs.base,
    ⟨h1.trans hs.below.os, h2.trans hs.below.tape, h3.trans hs.below.output, by rw [hh]; exact hs.below.size, fun k hk => by rw [hh]; exact hs.below.block k hk⟩, hs.gl, hs.nx⟩

theorem Sim.drew (hs : Sim B w0 ρ h w) : Sim B w0 ρ h w.drew := hs.of_heap rfl rfl rfl rfl

/-- One store. -/
theorem Sim.store_one (hs : Sim B w0 ρ h w) (hb : h.blks i = some b) (ho : b.own = true) {off : Nat} (hj : off < b.cells.size) {v : Value} (hv : vtop v ≤ h.next) (h1 : v.oneCell' = true) (m : Go.Mode) (s : Option Nat) :
    (Go.store (rlAddr ρ ⟨i, off, s⟩) (rl ρ v) m).run P w = .ok () (w.setCell ⟨(ρ i).blk, off, none⟩ (rl ρ v)) ∧
    Sim B w0 ρ (h.set i { b with cells := b.cells.setIfInBounds off v }) (w.setCell ⟨(ρ i).blk, off, none⟩ (rl ρ v)) := by
  obtain ⟨cs, e, fr, hr⟩ := hs.real i b hb
  obtain ⟨hB, hbase, hsz, hfr⟩ := hr.own ho
  have hcell := hs.cell hb hj
  rw [hbase, Nat.zero_add] at hcell
  have hlt : off < cs.size := by rw [hsz]; exact Nat.lt_of_lt_of_le hj (Nat.le_add_right _ _)
  have hf : w.frozen? ⟨(ρ i).blk, off, none⟩ = false := by
    have := hfr off hlt
    simp only [World.frozen?, hr.at_]
    simp only [Bool.and_eq_false_iff, decide_eq_false_iff_not]
    omega
  have hat : (w.setCell ⟨(ρ i).blk, off, none⟩ (rl ρ v)).heap[(ρ i).blk]? = some (.cells (cs.setIfInBounds off (rl ρ v)) e fr) := by
    simp [World.setCell, Array.getElem?_modify, hr.at_]
  have hoth : ∀ k, k ≠ (ρ i).blk → (w.setCell ⟨(ρ i).blk, off, none⟩ (rl ρ v)).heap[k]? = w.heap[k]? := fun k hk => heap_setCell_other w _ k _ hk
  refine ⟨?_, ?_⟩
  · rw [run_store P w _ _ m (by rw [rl_oneCell]; exact h1)]
    simp only [rlAddr, hbase, Nat.zero_add, hcell, hf, Bool.false_eq_true, if_false]
  · refine ⟨fun j c hc => ?_, fun j c hc u hu => ?_, fun j c hc => ?_, fun j k c d hc hd oc od he => ?_, by simp [World.setCell]; exact hs.base, hs.below.setCell hB _, hs.gl, hs.nx⟩
    · simp only [Hp.blks_set] at hc
      split at hc
      · rename_i hji; subst hji; exact hs.lt _ _ hb
      · exact hs.lt _ _ hc
    · simp only [Hp.blks_set] at hc
      split at hc
      · cases hc
        rcases Array.mem_or_eq_of_mem_setIfInBounds hu with hu | hu
        · exact hs.wf _ _ hb u hu
        · subst hu; exact ⟨hv, h1⟩
      · exact hs.wf _ _ hc u hu
    · simp only [Hp.blks_set] at hc
      split at hc
      · rename_i hji
        subst hji
        cases hc
        refine ⟨_, e, fr, ⟨hat, fun q hq => ?_, fun _ => ⟨hB, hbase, by simp [hsz], fun q hq => hfr q (by simpa using hq)⟩, fun ho' => by simp [ho] at ho'⟩⟩
        have hq' : q < b.cells.size := by simpa using hq
        have h0 := hr.cell q hq'
        rw [hbase, Nat.zero_add] at h0 ⊢
        rw [Array.getElem?_setIfInBounds]
        by_cases hoq : off = q
        · subst hoq; simp [hlt]
        · have e1 : (b.cells.setIfInBounds off v)[q]? = b.cells[q]? := Array.getElem?_setIfInBounds_ne hoq
          have e2 : (b.cells.setIfInBounds off v)[q]'hq = b.cells[q] := by
            rw [Array.getElem?_eq_getElem hq, Array.getElem?_eq_getElem hq'] at e1; exact Option.some.inj e1
          rw [if_neg hoq, h0]; exact congrArg (fun u => some (rl ρ u)) e2.symm
      · rename_i hji
        obtain ⟨cs', e', fr', hr'⟩ := hs.real j c hc
        have hne : (ρ j).blk ≠ (ρ i).blk := by
          intro he
          cases oc : c.own with
          | true => exact hji (hs.inj j i c b hc hb oc ho he)
          | false => have := (hr'.ro oc).1; have := hB.1; omega
        exact ⟨cs', e', fr', ⟨by rw [hoth _ hne]; exact hr'.at_, hr'.cell, hr'.own, hr'.ro⟩⟩
    · simp only [Hp.blks_set] at hc hd
      have key : ∀ j c, (if j = i then some { b with cells := b.cells.setIfInBounds off v } else h.blks j) = some c → ∃ c', h.blks j = some c' ∧ c'.own = c.own := by
        intro j c hx
        split at hx
        · rename_i hji; subst hji; cases hx; exact ⟨b, hb, rfl⟩
        · exact ⟨c, hx, rfl⟩
      obtain ⟨c', hc', e1⟩ := key j c hc
      obtain ⟨d', hd', e2⟩ := key k d hd
      exact hs.inj j k c' d' hc' hd' (e1.trans oc) (e2.trans od) he

theorem Hp.set_set (h : Hp) (i : Nat) (b c : Blk) : (h.set i b).set i c = h.set i c := by
  simp only [Hp.set]; congr 1; funext j; split <;> rfl

/-- A row of stores. -/
theorem Sim.storeCells (l : List Value) : ∀ {w : World} {h : Hp} {b : Blk} (_ : Sim B w0 ρ h w) (_ : h.blks i = some b) (_ : b.own = true) (off k : Nat) (_ : off + k + l.length ≤ b.cells.size)
    (_ : ∀ v ∈ l, vtop v ≤ h.next ∧ v.oneCell' = true) (s : Option Nat),
    ∃ w', (Go.storeCells (rlAddr ρ ⟨i, off, s⟩) (l.map (rl ρ)) k).run P w = .ok () w' ∧ Sim B w0 ρ (h.set i (b.put (off + k) l)) w' := by
  induction l with
  | nil =>
    intro w h b hs hb ho off k hl hv s
    refine ⟨w, by simp [Go.storeCells], ?_⟩
    have : h.set i (b.put (off + k) []) = h := by
      simp only [Hp.set, Blk.put, putL_nil]
      cases h; simp only at *; congr 1; funext j; split
      · rename_i hji; subst hji; exact hb.symm
      · rfl
    rw [this]; exact hs
  | cons v l ih =>
    intro w h b hs hb ho off k hl hv s
    simp only [List.length_cons] at hl
    obtain ⟨h1, h2⟩ := hs.store_one (P := P) hb ho (off := off + k) (by omega) (hv v (by simp)).1 (hv v (by simp)).2 .plain s
    obtain ⟨w', h3, h4⟩ := ih h2 (b := { b with cells := b.cells.setIfInBounds (off + k) v }) (by simp [Hp.blks_set]) ho off (k + 1) (by simp; omega) (fun u hu => hv u (by simp [hu])) s
    refine ⟨w', ?_, ?_⟩
    · simp only [List.map_cons, Go.storeCells, Sem.run_bind]
      have ha : (rlAddr ρ ⟨i, off, s⟩).add k = rlAddr ρ ⟨i, off + k, s⟩ := by simp only [rlAddr, add_mk, Nat.add_assoc]
      rw [ha, h1]
      simp only [Result.andThen_ok, h3]
    · rw [Hp.set_set] at h4
      exact h4

/-- A row of stores into a block of the world, whatever is known of it. -/
theorem raw_store {g : Nat} {e : TypeId} {fr : Nat × Nat} (l : List Value) : ∀ (w : World) (cs : Array Value) (off k : Nat), w.heap[g]? = some (.cells cs e fr) → off + k + l.length ≤ cs.size → (∀ j, j < cs.size → ¬ (fr.1 ≤ j ∧ j < fr.2)) → (∀ v ∈ l, v.oneCell' = true) →
    ∃ w', (Go.storeCells ⟨g, off, none⟩ l k).run P w = .ok () w' ∧ w'.heap[g]? = some (.cells (putL cs (off + k) l) e fr) ∧ (∀ j, j ≠ g → w'.heap[j]? = w.heap[j]?) ∧ w'.heap.size = w.heap.size ∧ w'.os = w.os ∧ w'.tape = w.tape ∧ w'.output = w.output := by
  induction l with
  | nil => intro w cs off k hg _ _ _; exact ⟨w, by simp [Go.storeCells], hg, fun _ _ => rfl, rfl, rfl, rfl, rfl⟩
  | cons v l ih =>
    intro w cs off k hg hl hfr h1
    simp only [List.length_cons] at hl
    have hc : w.cell? ⟨g, off + k, none⟩ = some cs[off + k] := by rw [cell_of_row w g _ cs e fr hg]; simp
    have hf : w.frozen? ⟨g, off + k, none⟩ = false := by
      have := hfr (off + k) (by omega)
      simp only [World.frozen?, hg, Bool.and_eq_false_iff, decide_eq_false_iff_not]
      omega
    have hat : (w.setCell ⟨g, off + k, none⟩ v).heap[g]? = some (.cells (cs.setIfInBounds (off + k) v) e fr) := by
      simp [World.setCell, Array.getElem?_modify, hg]
    obtain ⟨w', h2, h3, h4, h5, h6, h7, h8⟩ := ih (w.setCell ⟨g, off + k, none⟩ v) (cs.setIfInBounds (off + k) v) off (k + 1) hat (by simp; omega) (by simpa using hfr) (fun u hu => h1 u (by simp [hu]))
    refine ⟨w', ?_, h3, fun j hj => (h4 j hj).trans (heap_setCell_other w _ j _ hj), by rw [h5]; simp, h6, h7, h8⟩
    simp only [Go.storeCells, Sem.run_bind, add_mk]
    rw [run_store P w _ _ .plain (h1 v (by simp))]
    simp only [hc, hf, Bool.false_eq_true, if_false, Result.andThen_ok]
    exact h2

/-- How a new block is named. -/
def Rn.new (ρ : Rn) (n : Nat) (r : Rb) : Rn := fun i => if i = n then r else ρ i
theorem Goes.new (ρ : Rn) (n : Nat) (r : Rb) : Goes n ρ (ρ.new n r) := fun i hi => by simp [Rn.new, Nat.ne_of_lt hi]

/-- A new block. -/
theorem Sim.alloc (hs : Sim B w0 ρ h w) (b : Blk) (cs : Array Value) (e : TypeId) (fr : Nat × Nat) (extra : Nat)
    (hv : ∀ v ∈ b.cells, vtop v ≤ h.next ∧ v.oneCell' = true) (hsz : cs.size = b.cells.size + extra * b.esz) (hfr : ∀ j, j < cs.size → ¬ (fr.1 ≤ j ∧ j < fr.2))
    (hc : ∀ (j : Nat) (hj : j < b.cells.size), cs[j]? = some (rl ρ b.cells[j])) (ho : b.own = true) :
    Sim B w0 (ρ.new h.next ⟨w.heap.size, 0, extra⟩) (h.alloc b) (w.alloc (.cells cs e fr)) := by
  have hg := Goes.new ρ h.next ⟨w.heap.size, 0, extra⟩
  have hnew : (ρ.new h.next ⟨w.heap.size, 0, extra⟩) h.next = ⟨w.heap.size, 0, extra⟩ := by simp [Rn.new]
  refine ⟨fun j c hc => ?_, fun j c hc u hu => ?_, fun j c hc' => ?_, fun j k c d hc hd oc od he => ?_, ⟨by have := hs.base.1; simp; omega, fun k hk => by have := hs.base.2 k hk; simp; omega⟩, hs.below.alloc hs.base _, fun g hg' => by rw [← hg (100 + g) (by have := hs.nx; omega)]; exact hs.gl g hg', by have := hs.nx; simp; omega⟩
  · simp only [Hp.blks_alloc] at hc
    simp only [Hp.next_alloc]
    split at hc
    · omega
    · have := hs.lt _ _ hc; omega
  · simp only [Hp.blks_alloc] at hc
    simp only [Hp.next_alloc]
    split at hc
    · cases hc; have := hv u hu; exact ⟨by omega, this.2⟩
    · have := hs.wf _ _ hc u hu; exact ⟨by omega, this.2⟩
  · simp only [Hp.blks_alloc] at hc'
    split at hc'
    · rename_i hj
      subst hj
      cases hc'
      refine ⟨cs, e, fr, ?_⟩
      rw [hnew]
      refine ⟨heap_alloc_new w _, fun q hq => ?_, fun _ => ⟨⟨hs.base.1, fun hF => Nat.lt_irrefl _ (hs.base.2 _ hF)⟩, rfl, hsz, hfr⟩, fun h' => by simp [ho] at h'⟩
      rw [Nat.zero_add, hc q hq, hg.rl (hv _ (Array.getElem_mem hq)).1]
    · have hlt := hs.lt _ _ hc'
      obtain ⟨cs', e', fr', hr'⟩ := hs.real j c hc'
      refine ⟨cs', e', fr', ?_⟩
      rw [← hg j hlt]
      refine ⟨by rw [heap_alloc_old w _ _ (Array.getElem?_eq_some_iff.1 hr'.at_).1]; exact hr'.at_, fun q hq => ?_, hr'.own, hr'.ro⟩
      rw [hr'.cell q hq, hg.rl (hs.wf _ _ hc' _ (Array.getElem_mem hq)).1]
  · simp only [Hp.blks_alloc] at hc hd
    split at hc <;> split at hd
    · omega
    · rename_i hj hk
      rw [hj, hnew, ← hg k (hs.lt _ _ hd)] at he
      have := hs.blk_lt hd
      simp at he; omega
    · rename_i hj hk
      rw [hk, hnew, ← hg j (hs.lt _ _ hc)] at he
      have := hs.blk_lt hc
      simp at he; omega
    · rw [← hg k (hs.lt _ _ hd), ← hg j (hs.lt _ _ hc)] at he
      exact hs.inj j k c d hc hd oc od he

/-- Part of what is known may be forgotten. -/
theorem Sim.forget (hs : Sim B w0 ρ h w) (h' : Hp) (hn : 150 ≤ h'.next) (hsub : ∀ i b, h'.blks i = some b → h.blks i = some b ∧ i < h'.next ∧ ∀ v ∈ b.cells, vtop v ≤ h'.next) : Sim B w0 ρ h' w :=
  ⟨fun i b hb => (hsub i b hb).2.1, fun i b hb v hv => ⟨(hsub i b hb).2.2 v hv, (hs.wf i b (hsub i b hb).1 v hv).2⟩, fun i b hb => hs.real i b (hsub i b hb).1,
   fun i j b c hb hc => hs.inj i j b c (hsub i b hb).1 (hsub j c hc).1, hs.base, hs.below, hs.gl, hn⟩

end
end Go.Mini
