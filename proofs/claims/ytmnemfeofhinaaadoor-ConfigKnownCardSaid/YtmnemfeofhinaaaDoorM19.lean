/-
  What comes in: arguments that a statement reads, as values with names and a heap of named blocks that are only read.
-/
import Derived.Test.YtmnemfeofhinaaaDoorM18
import Derived.ProofKit
import Derived.Deep.Slices
set_option linter.unusedSimpArgs false
set_option linter.unusedVariables false
set_option linter.unusedSectionVars false
namespace Go.Mini
open Go

inductive Leaf where
  | bool
  | int (k : IntKind)
  | str
  deriving DecidableEq
def leafIn : Leaf → Value → Prop
  | .bool, v => ∃ b, v = .bool b
  | .int k, v => ∃ n, v = .int k n ∧ k.min ≤ n ∧ n ≤ k.max
  | .str, v => ∃ s : ByteArray, v = .string s ∧ s.size ≤ maxLen
def leavesIn : List Leaf → List Value → Prop
  | [], [] => True
  | l :: ls, v :: vs => leafIn l v ∧ leavesIn ls vs
  | _, _ => False
theorem leavesIn_length : ∀ {ls : List Leaf} {vs : List Value}, leavesIn ls vs → vs.length = ls.length
  | [], [], _ => rfl
  | _ :: ls, _ :: vs, h => by simp [leavesIn_length (ls := ls) (vs := vs) h.2]
  | [], _ :: _, h => h.elim
  | _ :: _, [], h => h.elim
theorem leavesIn_append : ∀ {l1 l2 : List Leaf} {v1 v2 : List Value}, leavesIn l1 v1 → leavesIn l2 v2 → leavesIn (l1 ++ l2) (v1 ++ v2)
  | [], _, [], _, _, h2 => h2
  | _ :: l1, l2, _ :: v1, v2, h1, h2 => ⟨h1.1, leavesIn_append (l1 := l1) (v1 := v1) h1.2 h2⟩
  | [], _, _ :: _, _, h, _ => h.elim
  | _ :: _, _, [], _, h, _ => h.elim
theorem leafIn_plain {l : Leaf} {v : Value} (h : leafIn l v) : vtop v = 0 ∧ v.oneCell' = true ∧ ∀ ρ, rl ρ v = v := by
  cases l
  · obtain ⟨b, rfl⟩ := h; exact ⟨rfl, rfl, fun _ => by simp [rl]⟩
  · obtain ⟨n, rfl, _⟩ := h; exact ⟨rfl, rfl, fun _ => by simp [rl]⟩
  · obtain ⟨s, rfl, _⟩ := h; exact ⟨rfl, rfl, fun _ => by simp [rl]⟩
theorem leavesIn_plain : ∀ {ls : List Leaf} {vs : List Value}, leavesIn ls vs → ∀ v ∈ vs, vtop v = 0 ∧ v.oneCell' = true ∧ ∀ ρ, rl ρ v = v
  | [], [], _, _, hv => by simp at hv
  | _ :: ls, _ :: vs, h, v, hv => by
    rcases List.mem_cons.1 hv with rfl | hv
    · exact leafIn_plain h.1
    · exact leavesIn_plain (ls := ls) (vs := vs) h.2 v hv
  | [], _ :: _, h, _, _ => h.elim
  | _ :: _, [], h, _, _ => h.elim

def leavesF (g : TypeId → Option (List Leaf)) (P : Program) : List Field → Nat → Option (List Leaf)
  | [], _ => some []
  | f :: fs, off => if f.offset = off then match g f.type with
      | some l => if l.length = P.cellsOf f.type then (leavesF g P fs (off + l.length)).map (l ++ ·) else none
      | none => none
    else none
def leaves (P : Program) : Nat → TypeId → Option (List Leaf)
  | 0, _ => none
  | d + 1, t => match P.underlying t with
    | some .bool => some [.bool]
    | some (.int k) => some [.int k]
    | some .string => some [.str]
    | some (.struct fs) => leavesF (leaves P d) P fs.toList 0
    | _ => none

section
variable {H : Type} {enc : TypeId × Value → H} {P : Program} {w : World} {base : Nat} {spare : Nat → Bool} {held : Bool}

theorem leavesF_in {g : TypeId → Option (List Leaf)} {cs : List Value} (hg : ∀ (f : Field) (l : List Leaf), g f.type = some l → l.length = P.cellsOf f.type → (∃ n x, DataW.trod enc P w base spare held n f.type ((cs.drop f.offset).take (P.cellsOf f.type)) = some x) → leavesIn l ((cs.drop f.offset).take (P.cellsOf f.type))) :
    ∀ (fs : List Field) (off : Nat) (ls : List Leaf), leavesF g P fs off = some ls → (∀ f ∈ fs, ∃ n x, DataW.trod enc P w base spare held n f.type ((cs.drop f.offset).take (P.cellsOf f.type)) = some x) → leavesIn ls ((cs.drop off).take ls.length) := by
  intro fs
  induction fs with
  | nil => intro off ls h _; simp only [leavesF, Option.some.injEq] at h; subst h; trivial
  | cons f fs ih =>
    intro off ls h hall
    simp only [leavesF] at h
    split at h
    · rename_i ho
      subst ho
      split at h
      · rename_i l hl
        split at h
        · rename_i hlen
          cases hr : leavesF g P fs (f.offset + l.length) with
          | none => simp [hr] at h
          | some r =>
            simp only [hr, Option.map_some, Option.some.injEq] at h
            subst h
            have h1 := hg f l hl hlen (hall f (by simp))
            have h2 := ih _ _ hr (fun f' hf' => hall f' (by simp [hf']))
            have e : (cs.drop f.offset).take (l ++ r).length = (cs.drop f.offset).take (P.cellsOf f.type) ++ (cs.drop (f.offset + l.length)).take r.length := by
              rw [List.length_append, List.take_add, ← hlen, List.drop_drop]
            rw [e]
            exact leavesIn_append h1 h2
        · cases h
      · cases h
    · cases h

theorem leaves_in : ∀ (d : Nat) (t : TypeId) (ls : List Leaf) (n : Nat) (cs : List Value) (x : DataW H × List MemPlace), leaves P d t = some ls → P.cellsOf t = ls.length → DataW.trod enc P w base spare held n t cs = some x → leavesIn ls cs := by
  intro d
  induction d with
  | zero => intro t ls n cs x h; simp [leaves] at h
  | succ d ih =>
    intro t ls n cs x h hsz ht
    unfold leaves at h
    split at h
    · rename_i hu
      cases h
      cases n with
      | zero => simp [DataW.trod] at ht
      | succ n =>
        unfold DataW.trod at ht
        rw [hu] at ht
        split at ht <;> simp_all
        exact ⟨⟨_, rfl⟩, trivial⟩
    · rename_i k hu
      cases h
      obtain ⟨m, rfl, _, hw⟩ := DataW.trod_int hu ht
      simp only [Lit.wf, Bool.and_eq_true, decide_eq_true_eq] at hw
      exact ⟨⟨m, rfl, hw.1, hw.2⟩, trivial⟩
    · rename_i hu
      cases h
      obtain ⟨s, rfl, _, hw⟩ := DataW.trod_string hu ht
      exact ⟨⟨s, rfl, hw⟩, trivial⟩
    · rename_i fs hu
      obtain ⟨xs, n', _, _, hcs, hxs, hf⟩ := DataW.trod_struct hu ht
      have := leavesF_in (enc := enc) (P := P) (w := w) (base := base) (spare := spare) (held := held) (g := leaves P d) (cs := cs) ?_ fs.toList 0 ls h ?_
      · rw [List.drop_zero, List.take_of_length_le (by omega)] at this
        exact this
      · rintro f l hl hc ⟨m, y, hy⟩
        exact ih f.type l m _ y hl hc.symm hy
      · intro f hfm
        obtain ⟨i, hi⟩ := List.getElem?_of_mem hfm
        have hi' : fs[i]? = some f := by simpa using hi
        have := hf i f hi'
        have hlt : i < xs.length := by rw [hxs]; exact (Array.getElem?_eq_some_iff.1 hi').1
        exact ⟨n', xs[i], by rw [this, List.getElem?_eq_getElem hlt]⟩
    · cases h

end

/-! ### The heap of what comes in -/
structure Arg where
  blk : Nat
  off : Nat
  cells : Option (Array Value)
def argsHp (l : List Arg) : Hp := ⟨150, fun i => (l[i]?).bind fun p => p.cells.map fun c => ⟨c, 1, false⟩, none⟩
def argsRn (l : List Arg) : Rn := fun i => match l[i]? with | some p => ⟨p.blk, p.off, 0⟩ | none => ⟨i - 100, 0, 0⟩
def ArgOk (W : World) (p : Arg) : Prop := ∀ c, p.cells = some c → (∃ cs e fr, W.heap[p.blk]? = some (.cells cs e fr) ∧ ∀ (j : Nat) (hj : j < c.size), cs[p.off + j]? = some c[j]) ∧ ∀ v ∈ c, vtop v = 0 ∧ v.oneCell' = true ∧ ∀ ρ, rl ρ v = v
theorem argsHp_blks {l : List Arg} {i : Nat} {b : Blk} (h : (argsHp l).blks i = some b) : ∃ p c, l[i]? = some p ∧ p.cells = some c ∧ b = ⟨c, 1, false⟩ := by
  simp only [argsHp] at h
  cases hp : l[i]? with
  | none => simp [hp] at h
  | some p =>
    cases hc : p.cells with
    | none => simp [hp, hc] at h
    | some c => simp [hp, hc] at h; exact ⟨p, c, rfl, hc, h.symm⟩
theorem args_sim {W : World} {l : List Arg} (h : ∀ p ∈ l, ArgOk W p) (hlen : l.length ≤ 100) : Sim ⟨W.heap.size, fun _ => False⟩ W (argsRn l) (argsHp l) W := by
  refine ⟨?_, ?_, ?_, ?_, ⟨Nat.le_refl _, fun _ h => h.elim⟩, BelowF.refl _ _, fun g _ => by simp [argsRn, List.getElem?_eq_none (show l.length ≤ 100 + g by omega)], Nat.le_refl _⟩
  · intro i b hb
    obtain ⟨p, c, hp, hc, rfl⟩ := argsHp_blks hb
    have := (List.getElem?_eq_some_iff.1 hp).1
    show i < 150
    omega
  · intro i b hb v hv
    obtain ⟨p, c, hp, hc, rfl⟩ := argsHp_blks hb
    obtain ⟨q1, q2, _⟩ := (h p (List.mem_of_getElem? hp) c hc).2 v hv
    exact ⟨by show vtop v ≤ 150; omega, q2⟩
  · intro i b hb
    obtain ⟨p, c, hp, hc, rfl⟩ := argsHp_blks hb
    obtain ⟨⟨cs, e, fr, q1, q2⟩, q3⟩ := h p (List.mem_of_getElem? hp) c hc
    have hr : argsRn l i = ⟨p.blk, p.off, 0⟩ := by simp [argsRn, hp]
    refine ⟨cs, e, fr, ?_, ?_, ?_, ?_⟩
    · rw [hr]; exact q1
    · intro j hj
      rw [hr, q2 j hj, (q3 _ (Array.getElem_mem hj)).2.2]
    · intro ho; cases ho
    · intro _; rw [hr]; exact ⟨(Array.getElem?_eq_some_iff.1 q1).1, fun e => by cases e⟩
  · intro i j b c hb _ ho _ _
    obtain ⟨p, c', hp, hc, rfl⟩ := argsHp_blks hb
    cases ho

theorem flatten_at {α : Type} (sz : Nat) : ∀ (rows : List (List α)) (i j : Nat), (∀ r ∈ rows, r.length = sz) → j < sz → rows.flatten[i * sz + j]? = (rows[i]?).bind (·[j]?)
  | [], i, j, _, _ => by simp
  | r :: rows, 0, j, h, hj => by
    have := h r (by simp)
    simp only [List.flatten_cons, Nat.zero_mul, Nat.zero_add]
    rw [List.getElem?_append_left (by omega)]; rfl
  | r :: rows, i + 1, j, h, hj => by
    have := h r (by simp)
    simp only [List.flatten_cons]
    rw [List.getElem?_append_right (by rw [Nat.succ_mul]; omega), show (i + 1) * sz + j - r.length = i * sz + j by rw [Nat.succ_mul]; omega, flatten_at sz rows i j (fun r hr => h r (by simp [hr])) hj]
    rfl
theorem flatten_length {α : Type} (sz : Nat) : ∀ (rows : List (List α)), (∀ r ∈ rows, r.length = sz) → rows.flatten.length = rows.length * sz
  | [], _ => by simp
  | r :: rows, h => by
    have := h r (by simp)
    rw [List.flatten_cons, List.length_append, flatten_length sz rows (fun r hr => h r (by simp [hr])), List.length_cons, Nat.succ_mul]; omega

section
variable {H : Type} {enc : TypeId × Value → H} {P : Program} {W : World}

theorem addr_add (b o x : Nat) : (⟨b, o, none⟩ : Addr).add x = ⟨b, o + x, none⟩ := by
  unfold Addr.add
  split
  · rename_i h; subst h; rfl
  · rfl
/-- A slice of plain elements that came in. -/
theorem open_sl {t e : TypeId} {d : Nat} {ls : List Leaf} {r : Reach} {bs : Nat} {v : Value} {D : DataW H} {p : List MemPlace} (ht : P.underlying t = some (.slice e)) (hl : leaves P d e = some ls) (hc : P.cellsOf e = ls.length) (hpos : 0 < ls.length)
    (hok : Value.okWide P W r bs t v) (h : DataW.Trod enc P W 0 (fun _ => true) true t v D p) :
    ∃ (A : Arg) (rows : List (List Value)), ArgOk W A ∧ (∀ x ∈ rows, leavesIn ls x) ∧ rows.length ≤ maxLen ∧
      ∀ (l : List Arg) (i : Nat), l[i]? = some A → ∃ v', rl (argsRn l) v' = v ∧ vtop v' ≤ i + 1 ∧ Sl (argsHp l) ls.length rows.length rows.flatten v' := by
  obtain ⟨fuel, hf⟩ := h
  obtain ⟨a, len, cap, rfl⟩ := WideShapes.okWide_slice ht hok
  rcases Deep.open_slice ht hf with ⟨hcs, _⟩ | ⟨a', len', cap', m, n, Df, Pl, hcs, _, hle, hm, hmm, _, hall⟩
  · simp only [Value.cells, List.cons.injEq, Value.slice.injEq, and_true] at hcs
    obtain ⟨rfl, rfl, rfl⟩ := hcs
    exact ⟨⟨0, 0, none⟩, [], (fun c hc => by cases hc), by simp, by simp, fun l i _ => ⟨.slice none 0 0, by simp [rl], by simp [vtop], by simp, .inl ⟨_, _, rfl, rfl⟩⟩⟩
  · simp only [Value.cells, List.cons.injEq, Value.slice.injEq, and_true] at hcs
    obtain ⟨rfl, rfl, rfl⟩ := hcs
    simp only [if_true] at hmm
    subst hmm
    have hspot : a'.spot = none := by
      simp only [Value.okWide, ht, Cell.okWide, Cell.ok] at hok
      exact hok.2.2.2.1
    obtain ⟨ab, ao, asp⟩ := a'
    simp only at hspot
    subst hspot
    let R : Nat → List Value := fun i => if h : i < m then Classical.choose (hall i h) else []
    have hR : ∀ i, i < m → W.cells? 0 ((⟨ab, ao, none⟩ : Addr).add (i * P.cellsOf e)) (P.cellsOf e) = some (R i) ∧ leavesIn ls (R i) := fun i hi => by
      have := Classical.choose_spec (hall i hi)
      simp only [R, dif_pos hi]
      exact ⟨this.1, leaves_in d e ls n _ _ hl hc this.2⟩
    have hcell : ∀ i j, i < m → j < ls.length → W.cell? ⟨ab, ao + (i * ls.length + j), none⟩ = (R i)[j]? := fun i j hi hj => by
      have := (World.cells?_some (hR i hi).1).2.2 j (by omega)
      rw [← this, hc, addr_add, addr_add, Nat.add_assoc]
    have hRl : ∀ k, ∀ r ∈ (List.range k).map R, k ≤ m → r.length = ls.length := fun k r hr hk => by
      obtain ⟨i, hi, rfl⟩ := List.mem_map.1 hr
      exact leavesIn_length (hR i (by have := List.mem_range.1 hi; omega)).2
    have hdiv : ∀ k j, j < k * ls.length → j / ls.length < k ∧ j % ls.length < ls.length ∧ j / ls.length * ls.length + j % ls.length = j := fun k j hj => by
      refine ⟨(Nat.div_lt_iff_lt_mul hpos).2 hj, Nat.mod_lt _ hpos, ?_⟩
      rw [Nat.mul_comm]; exact Nat.div_add_mod _ _
    have hat : ∀ k j, k ≤ m → j < k * ls.length → ((List.range k).map R).flatten[j]? = (R (j / ls.length))[j % ls.length]? := fun k j hk hj => by
      obtain ⟨q1, q2, q3⟩ := hdiv k j hj
      have := flatten_at ls.length ((List.range k).map R) (j / ls.length) (j % ls.length) (fun r hr => hRl k r hr hk) q2
      rw [q3] at this
      rw [this]
      simp [q1]
    by_cases h0 : m = 0
    · subst h0
      have : len = 0 := by omega
      subst this
      exact ⟨⟨ab, ao, none⟩, [], (fun c hc => by cases hc), by simp, by simp, fun l i hA => ⟨.slice (some ⟨i, 0, none⟩) 0 0, by simp [rl, rlAddr, rlCap, argsRn, hA], by simp [vtop], by simp, .inl ⟨_, _, rfl, rfl⟩⟩⟩
    · have hlenF := flatten_length ls.length ((List.range m).map R) (fun r hr => hRl m r hr (Nat.le_refl _))
      simp only [List.length_map, List.length_range] at hlenF
      have hb : ∃ cs ty fr, W.heap[ab]? = some (.cells cs ty fr) := by
        have h1 := hcell 0 0 (by omega) hpos
        have h2 : (R 0)[0]? ≠ none := by
          have := leavesIn_length (hR 0 (by omega)).2
          rw [List.getElem?_eq_getElem (by omega)]; simp
        rw [← h1] at h2
        unfold World.cell? at h2
        split at h2
        · rename_i c ty fr hh; exact ⟨c, ty, fr, hh⟩
        · exact (h2 rfl).elim
      obtain ⟨cs, ty, fr, hh⟩ := hb
      have hcell' : ∀ i j, i < m → j < ls.length → cs[ao + (i * ls.length + j)]? = (R i)[j]? := fun i j hi hj => by
        have := hcell i j hi hj
        simpa [World.cell?, hh] using this
      refine ⟨⟨ab, ao, some ((List.range m).map R).flatten.toArray⟩, (List.range len).map R, ?_, ?_, by simp; omega, ?_⟩
      · intro c hc'
        simp only [Option.some.injEq] at hc'
        subst hc'
        refine ⟨⟨cs, ty, fr, hh, fun j hj => ?_⟩, fun v hv => ?_⟩
        · have hj' : j < m * ls.length := by rw [← hlenF]; simpa using hj
          obtain ⟨q1, q2, q3⟩ := hdiv m j hj'
          have e1 := hcell' _ _ q1 q2
          rw [q3, ← hat m j (Nat.le_refl _) hj'] at e1
          rw [e1]
          simp only [List.getElem_toArray]
          exact List.getElem?_eq_getElem (by rw [hlenF]; exact hj')
        · simp only [List.mem_toArray, List.mem_flatten, List.mem_map, List.mem_range] at hv
          obtain ⟨_, ⟨i, hi, rfl⟩, hv⟩ := hv
          exact leavesIn_plain (hR i hi).2 v hv
      · intro x hx
        obtain ⟨i, hi, rfl⟩ := List.mem_map.1 hx
        exact (hR i (by have := List.mem_range.1 hi; omega)).2
      · intro l i hA
        have hlen2 := flatten_length ls.length ((List.range len).map R) (fun r hr => hRl len r hr hle)
        refine ⟨.slice (some ⟨i, 0, none⟩) len (2 * m), by simp [rl, rlAddr, rlCap, argsRn, hA], by simp [vtop], hlen2, .inr ⟨⟨i, 0, none⟩, 2 * m, ⟨((List.range m).map R).flatten.toArray, 1, false⟩, by simp, by simp [argsHp, hA], ?_, fun j hj => ?_⟩⟩
        · simp only [List.length_map, List.length_range, List.size_toArray, hlenF, Nat.zero_add]
          exact Nat.mul_le_mul_right _ hle
        · simp only [List.length_map, List.length_range] at hj
          simp only [Nat.zero_add, List.getElem?_toArray]
          rw [hat m j (Nat.le_refl _) (Nat.lt_of_lt_of_le hj (Nat.mul_le_mul_right _ hle)), hat len j hle hj]

end
/-- A law that answers true over what came in. -/
theorem law_of {P : Program} {f : FuncId} {args : List Value} {l : List Arg} {W : World} (hl : ∀ p ∈ l, ArgOk W p) (ht : ∀ v ∈ args, vtop v ≤ l.length) (hc : ACall P f args (argsHp l) (fun r _ => r = .bool true)) (hlen : l.length ≤ 100 := by simp) :
    Calls P f (args.map (rl (argsRn l))).toArray W fun e w' => e = .returned (.bool true) ∧ RowKit.Below W.heap.size W w' :=
  (hc.2 ⟨W.heap.size, fun _ => False⟩ W (argsRn l) W (SimE.plain (args_sim hl hlen)) fun v hv => by have := ht v hv; show vtop v ≤ 150; omega).mono fun e w' ⟨r, h', ρ', he, hr, hs, _⟩ => by
    subst hr
    exact ⟨by rw [he]; simp [rl], ⟨hs.sim.below.os, hs.sim.below.tape, hs.sim.below.output, hs.sim.below.size, fun k hk => hs.sim.below.block k (.inl hk)⟩⟩

/-! ### A table that the program lays itself: variable 0. -/
def tabHp (c : Array Value) : Hp := ⟨150, fun i => if i = 100 then some ⟨c, 1, false⟩ else none, none⟩
def TabOk (W : World) (c : Array Value) : Prop := (∃ cs e fr, W.heap[0]? = some (.cells cs e fr) ∧ ∀ (j : Nat) (hj : j < c.size), cs[j]? = some c[j]) ∧ ∀ v ∈ c, vtop v = 0 ∧ v.oneCell' = true ∧ ∀ ρ, rl ρ v = v
theorem tab_sim {W : World} {c : Array Value} (h : TabOk W c) : Sim ⟨W.heap.size, fun _ => False⟩ W (argsRn []) (tabHp c) W := by
  obtain ⟨⟨cs, e, fr, q1, q2⟩, q3⟩ := h
  have hblk : ∀ i b, (tabHp c).blks i = some b → i = 100 ∧ b = ⟨c, 1, false⟩ := fun i b hb => by
    simp only [tabHp] at hb
    split at hb
    · rename_i hi; exact ⟨hi, by simpa using hb.symm⟩
    · cases hb
  refine ⟨?_, ?_, ?_, ?_, ⟨Nat.le_refl _, fun _ h => h.elim⟩, BelowF.refl _ _, fun g _ => by simp [argsRn], Nat.le_refl _⟩
  · intro i b hb
    obtain ⟨rfl, _⟩ := hblk i b hb
    show 100 < 150
    omega
  · intro i b hb v hv
    obtain ⟨rfl, rfl⟩ := hblk i b hb
    obtain ⟨r1, r2, _⟩ := q3 v hv
    exact ⟨by show vtop v ≤ 150; omega, r2⟩
  · intro i b hb
    obtain ⟨rfl, rfl⟩ := hblk i b hb
    refine ⟨cs, e, fr, ?_, ?_, ?_, ?_⟩
    · simpa [argsRn] using q1
    · intro j hj
      rw [(q3 _ (Array.getElem_mem hj)).2.2]
      simpa [argsRn] using q2 j hj
    · intro ho; cases ho
    · intro _; exact ⟨by simpa [argsRn] using (Array.getElem?_eq_some_iff.1 q1).1, fun e => by cases e⟩
  · intro i j b d hb _ ho _ _
    obtain ⟨rfl, rfl⟩ := hblk i b hb
    cases ho
theorem law_tab {P : Program} {f : FuncId} {args : List Value} {c : Array Value} {W : World} (hl : TabOk W c) (ht : ∀ v ∈ args, vtop v = 0) (hc : ACall P f args (tabHp c) (fun r _ => r = .bool true)) :
    Calls P f (args.map (rl (argsRn []))).toArray W fun e w' => e = .returned (.bool true) ∧ RowKit.Below W.heap.size W w' :=
  (hc.2 ⟨W.heap.size, fun _ => False⟩ W (argsRn []) W (SimE.plain (tab_sim hl)) fun v hv => by have := ht v hv; show vtop v ≤ 150; omega).mono fun e w' ⟨r, h', ρ', he, hr, hs, _⟩ => by
    subst hr
    exact ⟨by rw [he]; simp [rl], ⟨hs.sim.below.os, hs.sim.below.tape, hs.sim.below.output, hs.sim.below.size, fun k hk => hs.sim.below.block k (.inl hk)⟩⟩

theorem leaf_u64 {v : Value} (h : leafIn (.int .u64) v) : ∃ n : Int, v = .int .u64 n ∧ 0 ≤ n ∧ n ≤ 18446744073709551615 := by
  obtain ⟨n, h1, h2, h3⟩ := h
  have e1 : IntKind.u64.min = 0 := by decide
  have e2 : IntKind.u64.max = 18446744073709551615 := by decide
  rw [e1] at h2; rw [e2] at h3
  exact ⟨n, h1, h2, h3⟩
theorem leaf_i64 {v : Value} (h : leafIn (.int .i64) v) : ∃ n : Int, v = .int .i64 n ∧ -9223372036854775808 ≤ n ∧ n ≤ 9223372036854775807 := by
  obtain ⟨n, h1, h2, h3⟩ := h
  have e1 : IntKind.i64.min = -9223372036854775808 := by decide
  have e2 : IntKind.i64.max = 9223372036854775807 := by decide
  rw [e1] at h2; rw [e2] at h3
  exact ⟨n, h1, h2, h3⟩
theorem leaf_u32 {v : Value} (h : leafIn (.int .u32) v) : ∃ n : Int, v = .int .u32 n ∧ 0 ≤ n ∧ n ≤ 4294967295 := by
  obtain ⟨n, h1, h2, h3⟩ := h
  have e1 : IntKind.u32.min = 0 := by decide
  have e2 : IntKind.u32.max = 4294967295 := by decide
  rw [e1] at h2; rw [e2] at h3
  exact ⟨n, h1, h2, h3⟩
theorem leaf_lit {k : IntKind} {n : Int} (h : (Lit.int k n).wf = true) : leafIn (.int k) (.int k n) := ⟨n, rfl, by simpa [Lit.wf] using h⟩
theorem leaf_u16 {v : Value} (h : leafIn (.int .u16) v) : ∃ n : Int, v = .int .u16 n ∧ 0 ≤ n ∧ n ≤ 65535 := by
  obtain ⟨n, h1, h2, h3⟩ := h
  have e1 : IntKind.u16.min = 0 := by decide
  have e2 : IntKind.u16.max = 65535 := by decide
  rw [e1] at h2; rw [e2] at h3
  exact ⟨n, h1, h2, h3⟩
theorem leaf_u8 {v : Value} (h : leafIn (.int .u8) v) : ∃ n : Int, v = .int .u8 n ∧ 0 ≤ n ∧ n ≤ 255 := by
  obtain ⟨n, h1, h2, h3⟩ := h
  have e1 : IntKind.u8.min = 0 := by decide
  have e2 : IntKind.u8.max = 255 := by decide
  rw [e1] at h2; rw [e2] at h3
  exact ⟨n, h1, h2, h3⟩
theorem leaf_bool {v : Value} (h : leafIn .bool v) : ∃ b, v = .bool b := h
theorem leaf_str {v : Value} (h : leafIn .str v) : ∃ s : ByteArray, v = .string s ∧ s.size ≤ maxLen := h
theorem leaves2 {a b : Leaf} {r : List Value} (h : leavesIn [a, b] r) : ∃ x y, r = [x, y] ∧ leafIn a x ∧ leafIn b y := by
  match r, h with
  | [x, y], ⟨h1, h2, _⟩ => exact ⟨x, y, rfl, h1, h2⟩
theorem leaves1 {a : Leaf} {r : List Value} (h : leavesIn [a] r) : ∃ x, r = [x] ∧ leafIn a x := by
  match r, h with
  | [x], ⟨h1, _⟩ => exact ⟨x, rfl, h1⟩
theorem leaves3 {a b c : Leaf} {r : List Value} (h : leavesIn [a, b, c] r) : ∃ x y z, r = [x, y, z] ∧ leafIn a x ∧ leafIn b y ∧ leafIn c z := by
  match r, h with
  | [x, y, z], ⟨h1, h2, h3, _⟩ => exact ⟨x, y, z, rfl, h1, h2, h3⟩

end Go.Mini
