/-
  '==' of structs and arrays of plain cells.
-/
import Derived.Test.YtmnemfeofhinaaaDoorM18
import Derived.Laws.StructEq
set_option linter.unusedSimpArgs false
set_option linter.unusedVariables false
set_option linter.unusedSectionVars false
namespace Go.Mini
open Go

section
variable {P : Program}

theorem pure_sizeOf {ty : TypeId} {n : Nat} (h : szOf P ty = some n) : pureRun P (sizeOf ty) = some n := by
  unfold szOf at h
  cases hi : P.info? ty with
  | none => simp [hi] at h
  | some i => simp [hi] at h; simp [sizeOf, typeInfo, pureRun_bind, hi, h]
theorem pure_map {α β : Type} (f : α → β) (s : Sem α) : pureRun P (f <$> s) = (pureRun P s).map f := by
  rw [show (f <$> s) = (s >>= fun a => pure (f a)) from rfl, pureRun_bind]
  cases pureRun P s <;> rfl
theorem pure_isAgg {ty : TypeId} {z : Option Nat} (h : aggSz P ty = some z) : pureRun P (isAgg ty) = some z.isSome := by
  unfold aggSz at h
  cases hu : P.underlying ty with
  | none => simp [hu] at h
  | some d =>
    unfold isAgg
    rw [pure_und, hu, Option.bind_some]
    cases d <;> simp [hu] at h <;> subst h <;> rfl
theorem pure_part {ty : TypeId} {z : Option Nat} {cs : Array Value} {off : Nat} {v : Value} (h : aggSz P ty = some z) (hp : partOf z cs off = some v) : pureRun P (part ty cs off) = some v := by
  unfold part
  rw [pureRun_bind, pure_isAgg h, Option.bind_some]
  cases z with
  | some n =>
    have hsz : szOf P ty = some n := (aggSz_spec (w := default) h).2.2 n rfl
    unfold partOf at hp
    simp only at hp
    split at hp
    · cases hp
      simp [pure_map, pureRun_bind, pure_sizeOf hsz]
    · cases hp
  | none =>
    unfold partOf at hp
    simp only at hp
    simp [hp]

theorem pure_equal_struct {d : Nat} {t : TypeId} {xs ys : Array Value} {fs : Array Field} (ht : P.underlying t = some (.struct fs)) (hp : P.stoodInHeld t = false) :
    pureRun P (Op.equalIn (d + 1) t (.agg xs) (.agg ys)) = pureRun P (Op.eqFields d xs ys fs.toList) := by
  simp only [Op.equalIn]
  rw [pure_und, ht, Option.bind_some]
  simp only [pureRun_bind, pureRun_program, Option.bind_some, hp, Bool.false_eq_true, if_false]
  rw [← Array.forIn_toList]
  generalize fs.toList = fl
  clear ht
  induction fl with
  | nil => simp [Op.eqFields, pureRun]
  | cons f fl ih =>
    rw [List.forIn_cons]
    unfold Op.eqFields
    by_cases hn : f.name ≠ "_"
    · rw [if_pos hn, if_pos hn]
      simp only [pureRun_bind]
      cases pureRun P (part f.type xs f.offset) with
      | none => rfl
      | some a =>
        simp only [Option.bind_some]
        cases pureRun P (part f.type ys f.offset) with
        | none => rfl
        | some b =>
          simp only [Option.bind_some]
          cases pureRun P (Op.equalIn d f.type a b) with
          | none => rfl
          | some r =>
            cases r
            · rfl
            · simp only [Option.bind_some, Bool.not_true, Bool.false_eq_true, if_false, pureRun_pure]
              exact ih
    · rw [if_neg hn, if_neg hn]
      simp only [pureRun_bind, pureRun_pure, Option.bind_some]
      exact ih

/-- '==' of the elements of arrays, one behind the other. -/
def eqElems (d : Nat) (e : TypeId) (n : Nat) (xs ys : Array Value) : List Nat → Sem Bool
  | [] => pure true
  | i :: l => do
    let a ← part e xs (i * n)
    let b ← part e ys (i * n)
    let r ← Op.equalIn d e a b
    if (!r) = true then pure false else eqElems d e n xs ys l
theorem pure_equal_array {d : Nat} {t e : TypeId} {xs ys : Array Value} {len n : Nat} (ht : P.underlying t = some (.array len e)) (hn : szOf P e = some n) :
    pureRun P (Op.equalIn (d + 1) t (.agg xs) (.agg ys)) = pureRun P (eqElems d e n xs ys (List.range' 0 len)) := by
  simp only [Op.equalIn]
  rw [pure_und, ht, Option.bind_some]
  simp only [pureRun_bind, pure_sizeOf hn, Option.bind_some, Std.Legacy.Range.forIn_eq_forIn_range', Std.Legacy.Range.size, Nat.sub_zero, Nat.add_sub_cancel, Nat.div_one]
  generalize List.range' 0 len = l
  induction l with
  | nil => rfl
  | cons i l ih =>
    rw [List.forIn_cons]
    unfold eqElems
    simp only [pureRun_bind]
    cases pureRun P (part e xs (i * n)) with
    | none => rfl
    | some a =>
      simp only [Option.bind_some]
      cases pureRun P (part e ys (i * n)) with
      | none => rfl
      | some b =>
        simp only [Option.bind_some]
        cases pureRun P (Op.equalIn d e a b) with
        | none => rfl
        | some r =>
          cases r
          · rfl
          · simp only [Option.bind_some, Bool.not_true, Bool.false_eq_true, if_false, pureRun_pure]
            exact ih

/-! ### A plan of what is held against what -/
def lkOf : TypeDesc → Option Nat
  | .int _ => some 0
  | .bool => some 1
  | .string => some 2
  | _ => none
def leafEq : Nat → Value → Value → Option Bool
  | 0, .int k a, .int k' b => if k = k' then some (decide (a = b)) else none
  | 1, .bool a, .bool b => some (decide (a = b))
  | 2, .string a, .string b => some (decide (a = b))
  | _, _, _ => none
def plF (P : Program) (g : TypeId → Option (List (Nat × Nat))) (tot : Nat) : List Field → Option (List (Nat × Nat))
  | [] => some []
  | f :: fs => match g f.type, aggSz P f.type, plF P g tot fs with
    | some l, some z, some r => if f.name ≠ "_" ∧ f.offset + z.getD 1 ≤ tot ∧ l.all (fun p => decide (p.1 < z.getD 1)) = true then some (l.map (fun p => (f.offset + p.1, p.2)) ++ r) else none
    | _, _, _ => none
def plE (l : List (Nat × Nat)) (s : Nat) : List Nat → List (Nat × Nat)
  | [] => []
  | i :: is => l.map (fun p => (i * s + p.1, p.2)) ++ plE l s is
def eqPl (P : Program) : Nat → TypeId → Option (List (Nat × Nat))
  | 0, _ => none
  | d + 1, t => match P.underlying t with
    | some (.struct fs) => if P.stoodInHeld t = true then none else plF P (eqPl P d) (P.cellsOf t) fs.toList
    | some (.array n e) => match szOf P e, aggSz P e, eqPl P d e with
      | some s, some z, some l => if s = z.getD 1 ∧ n * s ≤ P.cellsOf t ∧ l.all (fun p => decide (p.1 < s)) = true then some (plE l s (List.range' 0 n)) else none
      | _, _, _ => none
    | some td => (lkOf td).map fun k => [(0, k)]
    | none => none
def allEq : List (Nat × Nat) → Array Value → Array Value → Option Bool
  | [], _, _ => some true
  | (o, k) :: r, xs, ys => match xs[o]?, ys[o]? with
    | some a, some b => match leafEq k a b, allEq r xs ys with
      | some p, some q => some (p && q)
      | _, _ => none
    | _, _ => none

theorem allEq_append {l r : List (Nat × Nat)} {xs ys : Array Value} {b : Bool} (h : allEq (l ++ r) xs ys = some b) : ∃ p q, allEq l xs ys = some p ∧ allEq r xs ys = some q ∧ b = (p && q) := by
  induction l generalizing b with
  | nil => exact ⟨true, b, rfl, h, by simp⟩
  | cons a l ih =>
    obtain ⟨o, k⟩ := a
    simp only [List.cons_append, allEq] at h ⊢
    split at h
    · split at h
      · rename_i x y hx hy p q hp hq
        cases h
        obtain ⟨p', q', h1, h2, h3⟩ := ih hq
        exact ⟨p && p', q', by simp [hp, h1], h2, by rw [h3, Bool.and_assoc]⟩
      · cases h
    · cases h
theorem allEq_shift {l : List (Nat × Nat)} {xs ys xs' ys' : Array Value} {off : Nat} {b : Bool} (h : allEq (l.map fun p => (off + p.1, p.2)) xs ys = some b) (hx : ∀ p ∈ l, xs'[p.1]? = xs[off + p.1]?) (hy : ∀ p ∈ l, ys'[p.1]? = ys[off + p.1]?) : allEq l xs' ys' = some b := by
  induction l generalizing b with
  | nil => exact h
  | cons a l ih =>
    obtain ⟨o, k⟩ := a
    simp only [List.map_cons, allEq] at h ⊢
    have e1 := hx (o, k) (by simp)
    have e2 := hy (o, k) (by simp)
    simp only at e1 e2
    rw [e1, e2]
    split at h
    · split at h
      · rename_i x y hx0 hy0 p q hp hq
        cases h
        rw [ih hq (fun p hp => hx p (by simp [hp])) (fun p hp => hy p (by simp [hp]))]
        simp [hp]
      · cases h
    · cases h

/-- A value of a type: its cells. -/
def fitsT (P : Program) (t : TypeId) (x : Value) : Prop := match aggSz P t with
  | some (some n) => ∃ cs, x = .agg cs ∧ cs.size = n
  | _ => x.cells = #[x]
theorem fits_part {ty : TypeId} {z : Option Nat} {cs : Array Value} {off : Nat} (h : aggSz P ty = some z) (hb : off + z.getD 1 ≤ cs.size) (hone : ∀ v ∈ cs, v.oneCell' = true) : ∃ v, partOf z cs off = some v ∧ fitsT P ty v ∧ ∀ o, o < z.getD 1 → v.cells[o]? = cs[off + o]? := by
  unfold fitsT
  cases z with
  | some n =>
    simp only [Option.getD_some] at hb
    refine ⟨.agg (cs.extract off (off + n)), by simp [partOf, hb], by rw [h]; exact ⟨_, rfl, by simp; omega⟩, fun o ho => ?_⟩
    simp only [Option.getD_some] at ho
    show (cs.extract off (off + n))[o]? = _
    rw [Array.getElem?_extract, if_pos (by omega)]
  | none =>
    simp only [Option.getD_none] at hb
    have hlt : off < cs.size := by omega
    have h1 := hone _ (Array.getElem_mem hlt)
    have hc : (cs[off]).cells = #[cs[off]] := by
      revert h1; cases cs[off] <;> simp [Value.oneCell', Value.cells]
    refine ⟨cs[off], by simp [partOf, hlt], by rw [h]; exact hc, fun o ho => ?_⟩
    simp only [Option.getD_none] at ho
    obtain rfl : o = 0 := by omega
    rw [hc]
    simp [hlt]

theorem leaf_run {td : TypeDesc} {k : Nat} {t : TypeId} {x y : Value} {p : Bool} {D : Nat} (hk : lkOf td = some k) (hu : P.underlying t = some td) (h : leafEq k x y = some p) : pureRun P (Op.equalIn (D + 1) t x y) = some p := by
  simp only [Op.equalIn]
  rw [pure_und, hu, Option.bind_some]
  cases td <;> simp only [lkOf, Option.some.injEq, reduceCtorEq] at hk <;> subst hk
  · unfold leafEq at h
    split at h
    · rename_i h1; cases h1
    · cases h
      rename_i a b _
      show some (a == b) = _
      by_cases hab : a = b <;> simp [hab]
    · rename_i h1; cases h1
    · cases h
  · unfold leafEq at h
    split at h
    · rename_i k1 a k2 b _
      split at h
      · rename_i hkk
        cases h
        show pureRun P (if k1 = k2 then pure (a == b) else _) = _
        rw [if_pos hkk]
        show some (a == b) = _
        by_cases hab : a = b <;> simp [hab]
      · cases h
    · rename_i h1; cases h1
    · rename_i h1; cases h1
    · cases h
  · unfold leafEq at h
    split at h
    · rename_i h1; cases h1
    · rename_i h1; cases h1
    · cases h
      rename_i a b _
      show some (a == b) = _
      by_cases hab : a = b
      · subst hab
        rw [beq_toListBytes]; simp
      · have : (a == b) = false := by
          rw [beq_toListBytes, ByteArray.toList_eq, ByteArray.toList_eq]
          apply Bool.eq_false_iff.2
          intro hh
          exact hab (by
            have := eq_of_beq hh
            apply ByteArray.ext
            exact Array.ext' this)
        rw [this, decide_eq_false hab]
    · cases h
theorem pure_eq (d : Nat) : ∀ {t : TypeId} {l : List (Nat × Nat)} {x y : Value} {b : Bool} {D : Nat}, eqPl P d t = some l → d ≤ D → fitsT P t x → fitsT P t y → (∀ v ∈ x.cells, v.oneCell' = true) → (∀ v ∈ y.cells, v.oneCell' = true) → allEq l x.cells y.cells = some b → pureRun P (Op.equalIn D t x y) = some b := by
  induction d with
  | zero => intro t l x y b D h; cases h
  | succ d ih =>
    intro t l x y b D h hD hx hy ox oy hb
    obtain ⟨D, rfl⟩ : ∃ D', D = D' + 1 := ⟨D - 1, by omega⟩
    unfold eqPl at h
    split at h
    · rename_i fs hu
      split at h
      · cases h
      · rename_i hst
        have hag : aggSz P t = some (some (P.cellsOf t)) := by unfold aggSz; rw [hu]
        unfold fitsT at hx hy
        rw [hag] at hx hy
        obtain ⟨xs, rfl, hxs⟩ := hx
        obtain ⟨ys, rfl, hys⟩ := hy
        rw [pure_equal_struct hu (by simpa using hst)]
        generalize fs.toList = fl at h
        simp only [Value.cells] at hb ox oy
        generalize P.cellsOf t = tot at h hxs hys
        clear hu hag hst
        induction fl generalizing l b with
        | nil => cases h; cases hb; rfl
        | cons f fl ihf =>
          unfold plF at h
          split at h
          · rename_i lf z r hg hz hr
            split at h
            · rename_i hc
              cases h
              obtain ⟨p, q, h1, h2, rfl⟩ := allEq_append hb
              obtain ⟨a, a1, a2, a3⟩ := fits_part hz (by rw [hxs]; exact hc.2.1) ox
              obtain ⟨b', b1, b2, b3⟩ := fits_part hz (by rw [hys]; exact hc.2.1) oy
              have hlt : ∀ p ∈ lf, p.1 < z.getD 1 := fun p hp => by simpa using List.all_eq_true.1 hc.2.2 p hp
              have key := ih (D := D) hg (by omega) a2 b2 (fun v hv => by
                  obtain ⟨i, hi, rfl⟩ := Array.mem_iff_getElem.1 hv
                  have hsz : a.cells.size = z.getD 1 := by
                    unfold fitsT at a2; rw [hz] at a2
                    cases z with
                    | some n => obtain ⟨_, rfl, hn⟩ := a2; exact hn
                    | none => rw [a2]; rfl
                  have := a3 i (by omega)
                  rw [Array.getElem?_eq_getElem hi] at this
                  exact ox _ (Array.mem_of_getElem? this.symm)) (fun v hv => by
                  obtain ⟨i, hi, rfl⟩ := Array.mem_iff_getElem.1 hv
                  have hsz : b'.cells.size = z.getD 1 := by
                    unfold fitsT at b2; rw [hz] at b2
                    cases z with
                    | some n => obtain ⟨_, rfl, hn⟩ := b2; exact hn
                    | none => rw [b2]; rfl
                  have := b3 i (by omega)
                  rw [Array.getElem?_eq_getElem hi] at this
                  exact oy _ (Array.mem_of_getElem? this.symm)) (allEq_shift h1 (fun p hp => a3 p.1 (hlt p hp)) (fun p hp => b3 p.1 (hlt p hp)))
              unfold Op.eqFields
              rw [if_pos hc.1]
              simp only [pureRun_bind, pure_part hz a1, pure_part hz b1, key, Option.bind_some]
              cases p
              · rfl
              · simp only [Bool.not_true, Bool.false_eq_true, if_false, Bool.true_and]
                exact ihf h2 hr
            · cases h
          · cases h
    · rename_i n e hu
      have hag : aggSz P t = some (some (P.cellsOf t)) := by unfold aggSz; rw [hu]
      unfold fitsT at hx hy
      rw [hag] at hx hy
      obtain ⟨xs, rfl, hxs⟩ := hx
      obtain ⟨ys, rfl, hys⟩ := hy
      split at h
      · rename_i s z le hs hz hg
        split at h
        · rename_i hc
          cases h
          rw [pure_equal_array hu hs]
          simp only [Value.cells] at hb ox oy
          have hall : ∀ i ∈ List.range' 0 n, i * s + s ≤ P.cellsOf t := fun i hi => by
            have : i < n := by have := List.mem_range'.1 hi; omega
            have := Nat.mul_le_mul_right s (show i + 1 ≤ n from this)
            rw [Nat.succ_mul] at this
            omega
          generalize List.range' 0 n = is at hb hall
          induction is generalizing b with
          | nil => cases hb; rfl
          | cons i is ihe =>
            unfold plE at hb
            obtain ⟨p, q, h1, h2, rfl⟩ := allEq_append hb
            have hi0 := hall i (by simp)
            obtain ⟨a, a1, a2, a3⟩ := fits_part (off := i * s) hz (by rw [hxs, ← hc.1]; exact hi0) ox
            obtain ⟨b', b1, b2, b3⟩ := fits_part (off := i * s) hz (by rw [hys, ← hc.1]; exact hi0) oy
            have hlt : ∀ p ∈ le, p.1 < z.getD 1 := fun p hp => by rw [← hc.1]; simpa using List.all_eq_true.1 hc.2.2 p hp
            have key := ih (D := D) hg (by omega) a2 b2 (fun v hv => by
                obtain ⟨j, hj, rfl⟩ := Array.mem_iff_getElem.1 hv
                have hsz : a.cells.size = z.getD 1 := by
                  unfold fitsT at a2; rw [hz] at a2
                  cases z with
                  | some n => obtain ⟨_, rfl, hn⟩ := a2; exact hn
                  | none => rw [a2]; rfl
                have := a3 j (by omega)
                rw [Array.getElem?_eq_getElem hj] at this
                exact ox _ (Array.mem_of_getElem? this.symm)) (fun v hv => by
                obtain ⟨j, hj, rfl⟩ := Array.mem_iff_getElem.1 hv
                have hsz : b'.cells.size = z.getD 1 := by
                  unfold fitsT at b2; rw [hz] at b2
                  cases z with
                  | some n => obtain ⟨_, rfl, hn⟩ := b2; exact hn
                  | none => rw [b2]; rfl
                have := b3 j (by omega)
                rw [Array.getElem?_eq_getElem hj] at this
                exact oy _ (Array.mem_of_getElem? this.symm)) (allEq_shift h1 (fun p hp => a3 p.1 (hlt p hp)) (fun p hp => b3 p.1 (hlt p hp)))
            unfold eqElems
            simp only [pureRun_bind, pure_part hz a1, pure_part hz b1, key, Option.bind_some]
            cases p
            · rfl
            · simp only [Bool.not_true, Bool.false_eq_true, if_false, Bool.true_and]
              exact ihe h2 fun j hj => hall j (by simp [hj])
        · cases h
      · cases h
    · rename_i td h1 h2 hu
      cases hk : lkOf td with
      | none => rw [hk] at h; cases h
      | some k =>
        rw [hk] at h
        cases h
        have hag : aggSz P t = some none := by
          unfold aggSz; rw [hu]
          cases td <;> first | rfl | (simp [lkOf] at hk)
        unfold fitsT at hx hy
        rw [hag] at hx hy
        simp only at hx hy
        rw [hx, hy] at hb
        simp only [allEq, List.getElem?_toArray, List.getElem?_cons_zero] at hb
        split at hb
        · rename_i p q hp hq
          cases hq
          cases hb
          rw [Bool.and_true]
          exact leaf_run hk hu hp
        · cases hb
    · cases h

/-! ### The rules -/
def eqGT (P : Program) (t : TypeId) : Bool := P.eqGuardType P.depth t
def eqAC (l : List (Nat × Nat)) (n : Nat) (xs ys : Array Value) : Option Bool :=
  if (xs.size = n ∧ ys.size = n) ∧ (oneAll xs.toList = true ∧ oneAll ys.toList = true) ∧ (vtopL xs.toList = 0 ∧ vtopL ys.toList = 0) then allEq l xs ys else none
def eqA (pl : Option (List (Nat × Nat))) (n : Option (Option Nat)) (g : Bool) (xs ys : Array Value) : Option Bool :=
  match pl, n, g with
  | some l, some (some n), false => eqAC l n xs ys
  | _, _, _ => none
def aggB (b : Option Bool) (z : Option Value) : Option Value := match b with | some b => some (.bool b) | none => z
def aggNB (b : Option Bool) (z : Option Value) : Option Value := match b with | some b => some (.bool !b) | none => z
def abinO := @abin
theorem eqA_equal {ty : TypeId} {xs ys : Array Value} {b : Bool} (h : eqA (eqPl P 8 ty) (aggSz P ty) (eqGT P ty) xs ys = some b) : vtop (.agg xs) = 0 ∧ vtop (.agg ys) = 0 ∧ P.eqGuardType P.depth ty = false ∧ pureRun P (Op.equal ty (.agg xs) (.agg ys)) = some b := by
  unfold eqA at h
  split at h
  · rename_i l n h1 h2 h3
    unfold eqAC at h
    split at h
    · rename_i hc
      obtain ⟨⟨c1, c2⟩, ⟨c3, c4⟩, c5, c6⟩ := hc
      refine ⟨?_, ?_, h3, ?_⟩
      · cases xs; simpa [vtop] using c5
      · cases ys; simpa [vtop] using c6
      · refine pure_eq (D := Op.maxDepth) 8 h1 (by decide) ?_ ?_ ?_ ?_ h
        · unfold fitsT; rw [h2]; exact ⟨xs, rfl, c1⟩
        · unfold fitsT; rw [h2]; exact ⟨ys, rfl, c2⟩
        · intro v hv; rw [← oneAll_eq] at c3; exact List.all_eq_true.1 c3 v (by simpa [Value.cells] using hv)
        · intro v hv; rw [← oneAll_eq] at c4; exact List.all_eq_true.1 c4 v (by simpa [Value.cells] using hv)
    · cases h
  · cases h
theorem abin_agg_eql (ty : TypeId) (xo yo : Operand) (xs ys : Array Value) : abin P .eql ty xo yo (.agg xs) (.agg ys) = aggB (eqA (eqPl P 8 ty) (aggSz P ty) (eqGT P ty) xs ys) (abinO P .eql ty xo yo (.agg xs) (.agg ys)) := by
  cases h : eqA (eqPl P 8 ty) (aggSz P ty) (eqGT P ty) xs ys with
  | none => rfl
  | some b =>
    obtain ⟨h1, h2, h3, h4⟩ := eqA_equal h
    have hg : pureRun P (eqGuard .eql ty xo yo (.agg xs) (.agg ys)) = some () := by
      simp [eqGuard, pureRun_bind, h3]
    unfold abin
    rw [if_pos ⟨h1, h2⟩, pureRun_bind, hg, Option.bind_some, show binOp .eql ty (.agg xs) (.agg ys) = (do pure (.bool (← Op.equal ty (.agg xs) (.agg ys)))) from rfl, pureRun_bind, h4]
    rfl
theorem abin_agg_neq (ty : TypeId) (xo yo : Operand) (xs ys : Array Value) : abin P .neq ty xo yo (.agg xs) (.agg ys) = aggNB (eqA (eqPl P 8 ty) (aggSz P ty) (eqGT P ty) xs ys) (abinO P .neq ty xo yo (.agg xs) (.agg ys)) := by
  cases h : eqA (eqPl P 8 ty) (aggSz P ty) (eqGT P ty) xs ys with
  | none => rfl
  | some b =>
    obtain ⟨h1, h2, h3, h4⟩ := eqA_equal h
    have hg : pureRun P (eqGuard .neq ty xo yo (.agg xs) (.agg ys)) = some () := by
      simp [eqGuard, pureRun_bind, h3]
    unfold abin
    rw [if_pos ⟨h1, h2⟩, pureRun_bind, hg, Option.bind_some, show binOp .neq ty (.agg xs) (.agg ys) = (do pure (.bool (!(← Op.equal ty (.agg xs) (.agg ys))))) from rfl, pureRun_bind, h4]
    rfl
theorem eqA_some (l : List (Nat × Nat)) (n : Nat) (xs ys : Array Value) : eqA (some l) (some (some n)) false xs ys = eqAC l n xs ys := _root_.id rfl
theorem eqAC_ok {l : List (Nat × Nat)} {n : Nat} {xs ys : Array Value} (h1 : xs.size = n ∧ ys.size = n) (h2 : oneAll xs.toList = true ∧ oneAll ys.toList = true) (h3 : vtopL xs.toList = 0 ∧ vtopL ys.toList = 0) : eqAC l n xs ys = allEq l xs ys := if_pos ⟨h1, h2, h3⟩
theorem aggB_some (b : Bool) (z : Option Value) : aggB (some b) z = some (.bool b) := _root_.id rfl
theorem aggNB_some (b : Bool) (z : Option Value) : aggNB (some b) z = some (.bool !b) := _root_.id rfl
def allC (p q : Option Bool) : Option Bool := match p, q with | some p, some q => some (p && q) | _, _ => none
def allV (k : Nat) (a b : Option Value) (r : Option Bool) : Option Bool := match a, b with | some a, some b => allC (leafEq k a b) r | _, _ => none
theorem allEq_nil (xs ys : Array Value) : allEq [] xs ys = some true := _root_.id rfl
theorem allEq_cons (o k : Nat) (l : List (Nat × Nat)) (xs ys : Array Value) : allEq ((o, k) :: l) xs ys = allV k xs[o]? ys[o]? (allEq l xs ys) := by
  conv => lhs; unfold allEq
  unfold allV allC
  cases xs[o]? <;> cases ys[o]? <;> rfl
theorem allV_some (k : Nat) (a b : Value) (r : Option Bool) : allV k (some a) (some b) r = allC (leafEq k a b) r := _root_.id rfl
theorem allC_some (p q : Bool) : allC (some p) (some q) = some (p && q) := _root_.id rfl
theorem leafEq_int (k : IntKind) (a b : Int) : leafEq 0 (.int k a) (.int k b) = some (decide (a = b)) := if_pos rfl
theorem leafEq_bool (a b : Bool) : leafEq 1 (.bool a) (.bool b) = some (decide (a = b)) := _root_.id rfl
theorem leafEq_str (a b : ByteArray) : leafEq 2 (.string a) (.string b) = some (decide (a = b)) := _root_.id rfl
theorem vtopL_nil : vtopL [] = 0 := _root_.id rfl
theorem vtopL_cons (v : Value) (l : List Value) : vtopL (v :: l) = max (vtop v) (vtopL l) := _root_.id rfl
theorem vtop_int (k : IntKind) (a : Int) : vtop (.int k a) = 0 := _root_.id rfl
theorem vtop_bool (a : Bool) : vtop (.bool a) = 0 := _root_.id rfl
theorem vtop_str (a : ByteArray) : vtop (.string a) = 0 := _root_.id rfl
theorem eqAC_def (l : List (Nat × Nat)) (n : Nat) (xs ys : Array Value) : eqAC l n xs ys = if (xs.size = n ∧ ys.size = n) ∧ (oneAll xs.toList = true ∧ oneAll ys.toList = true) ∧ (vtopL xs.toList = 0 ∧ vtopL ys.toList = 0) then allEq l xs ys else none := _root_.id rfl
attribute [simp] abin_agg_eql abin_agg_neq eqA_some eqAC_def aggB_some aggNB_some allEq_nil allEq_cons allV_some allC_some leafEq_int leafEq_bool leafEq_str vtopL_nil vtopL_cons vtop_int vtop_bool vtop_str

end
end Go.Mini
