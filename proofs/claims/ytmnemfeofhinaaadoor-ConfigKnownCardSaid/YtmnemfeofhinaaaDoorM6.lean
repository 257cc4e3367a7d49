/-
  Each operation that is no call does in the world what 'aop' says of names: memory, conversions, builtins.
-/
import Derived.Test.YtmnemfeofhinaaaDoorM5
import Derived.Laws.Append
set_option linter.unusedSimpArgs false
set_option linter.unusedVariables false
set_option linter.unusedSectionVars false
namespace Go.Mini
open Go

section
variable {P : Program} {B : Bd} {w0 w : World} {ρ : Rn} {h h' : Hp} {v : Value}

/-- What an operation comes to. -/
def Res (P : Program) (B : Bd) (w0 : World) (ρ : Rn) (h : Hp) (w : World) (s : Sem Value) (v : Value) (h' : Hp) : Prop :=
  ∃ ρ' w', s.run P w = .ok (rl ρ' v) w' ∧ Sim B w0 ρ' h' w' ∧ vtop v ≤ h'.next ∧ h.next ≤ h'.next ∧ Goes h.next ρ ρ'

theorem Res.same {s : Sem Value} (hs : Sim B w0 ρ h w) (h1 : s.run P w = .ok (rl ρ v) w ∧ vtop v ≤ h.next) : Res P B w0 ρ h w s v h :=
  ⟨ρ, w, h1.1, hs, h1.2, Nat.le_refl _, Goes.refl _ _⟩

theorem rowAt_spec (hs : Sim B w0 ρ h w) {a : Addr} {n : Nat} {cs : Array Value} (hr : rowAt h a n = some cs) :
    (Go.loadCells (rlAddr ρ a) n).run P w = .ok (cs.map (rl ρ)) w ∧ cs.size = n ∧ (∀ u ∈ cs, vtop u ≤ h.next ∧ u.oneCell' = true) ∧ a.block < h.next := by
  unfold rowAt at hr
  cases hb : h.blks a.block with
  | none => simp [hb] at hr
  | some b =>
    simp only [hb] at hr
    split at hr
    · rename_i hle
      cases hr
      refine ⟨hs.loadCells (s := a.spot) hb hle, by simp; omega, fun u hu => hs.wf _ _ hb u ?_, hs.lt _ _ hb⟩
      obtain ⟨i, hi, rfl⟩ := Array.mem_iff_getElem.1 hu
      simp at hi ⊢
    · cases hr

theorem run_aload {ty : TypeId} {x : Value} (hs : Sim B w0 ρ h w) (hl : aload P ty h x = some v) : (Instr.loadAt ty (rl ρ x)).run P w = .ok (rl ρ v) w ∧ vtop v ≤ h.next := by
  unfold aload at hl
  split at hl
  · rename_i a
    cases hz : aggSz P ty with
    | none => simp [hz] at hl
    | some z =>
      cases hb : h.blks a.block with
      | none => simp [hz, hb] at hl
      | some b =>
        simp only [hz, hb] at hl
        obtain ⟨_, h1, h2⟩ := aggSz_spec (w := w) hz
        refine ⟨?_, vtop_part (fun u hu => (hs.wf _ _ hb u hu).1) hl⟩
        simp only [Instr.loadAt, rl, Instr.sureAddr, Sem.run_bind, Sem.run_pure, Result.andThen_ok, loadVar, h1]
        cases z with
        | none =>
          simp only [partOf] at hl
          obtain ⟨hlt, rfl⟩ := Array.getElem?_eq_some_iff.1 hl
          have := hs.load (P := P) (s := a.spot) hb hlt .plain
          simpa using this
        | some n =>
          simp only [partOf] at hl
          split at hl
          · rename_i hle
            cases hl
            have := hs.loadCells (P := P) (s := a.spot) hb hle
            simp only [Option.isSome_some, if_true, Sem.run_bind, run_sizeOf (h2 n rfl), Result.andThen_ok, rl_agg]
            rw [this]; rfl
          · cases hl
  · cases hl

theorem run_astore {ty : TypeId} {x : Value} (hs : Sim B w0 ρ h w) (hst : astore P ty h x v = some h') (hv : vtop v ≤ h.next) :
    ∃ w', (Instr.storeAt ty (rl ρ x) (rl ρ v)).run P w = .ok () w' ∧ Sim B w0 ρ h' w' ∧ h'.next = h.next := by
  unfold astore at hst
  split at hst
  · rename_i a
    cases hb : h.blks a.block with
    | none => simp [hb] at hst
    | some b =>
      simp only [hb] at hst
      split at hst
      · rename_i hc
        cases hst
        obtain ⟨ho, hsz, hle, hok⟩ := hc
        have hok' : ∀ u ∈ v.cells, u.oneCell' = true := fun u hu => Array.all_eq_true'.1 hok u hu
        obtain ⟨w', h1, h2⟩ := hs.storeCells (P := P) v.cells.toList hb ho a.off 0 (by simpa using hle) (fun u hu => ⟨vtop_cells hv u (by simpa using hu), hok' u (by simpa using hu)⟩) a.spot
        refine ⟨w', ?_, by simpa using h2, rfl⟩
        simp only [Instr.storeAt, rl, Instr.sureAddr, Sem.run_bind, Sem.run_pure, Result.andThen_ok, storeVar, run_sizeOf hsz, rl_cells, Array.size_map, ne_eq, not_true_eq_false, if_false, Array.toList_map]
        exact h1
      · cases hst
  · cases hst

/-- A new row. -/
theorem run_newRow (hs : Sim B w0 ρ h w) (e : TypeId) (cs : Array Value) (esz : Nat) (hc : ∀ u ∈ cs, vtop u ≤ h.next ∧ u.oneCell' = true) :
    ∃ ρ' w', (newRow e (cs.map (rl ρ))).run P w = .ok (rlAddr ρ' ⟨h.next, 0, none⟩) w' ∧ Sim B w0 ρ' (h.alloc ⟨cs, esz, true⟩) w' ∧ Goes h.next ρ ρ' ∧ (ρ' h.next).extra = 0 := by
  have hA := hs.alloc ⟨cs, esz, true⟩ (cs.map (rl ρ)) e (0, 0) 0 hc (by simp) (by simp) (fun j hj => by simp at hj; simp [hj]) rfl
  refine ⟨_, _, ?_, hA, Goes.new _ _ _, by simp [Rn.new]⟩
  simp [newRow, Rn.new, rlAddr]

theorem rlA_ptr (ρ : Rn) (n : Nat) : rl ρ (.pointer (some ⟨n, 0, none⟩)) = .pointer (some (rlAddr ρ ⟨n, 0, none⟩)) := rfl

theorem run_box {e : TypeId} {u : Value} (hs : Sim B w0 ρ h w) (hu : vtop u ≤ h.next) (hok : cellsOk u = true) :
    Res P B w0 ρ h w (Instr.box e (rl ρ u)) (.pointer (some ⟨h.next, 0, none⟩)) (h.alloc ⟨u.cells, 1, true⟩) := by
  obtain ⟨ρ', w', h1, h2, h3, _⟩ := run_newRow (P := P) hs e u.cells 1 (fun x hx => ⟨vtop_cells hu x hx, Array.all_eq_true'.1 hok x hx⟩)
  refine ⟨ρ', w', ?_, h2, by simp [vtop], by simp, h3⟩
  simp only [Instr.box, newVar, rl_cells, Sem.run_bind, h1, Result.andThen_ok, Sem.run_pure, rlA_ptr]

theorem run_alloc {ty : TypeId} {z : Array Value} (hs : Sim B w0 ρ h w) (hz : zeroOf P ty = some z) :
    Res P B w0 ρ h w (Instr.alloc ty true (.tuple #[])) (.pointer (some ⟨h.next, 0, none⟩)) (h.alloc ⟨z, 1, true⟩) := by
  obtain ⟨i, zv, hi, hzv, hzc, hz0⟩ := zeroOf_spec hz
  obtain ⟨ρ', w', h1, h2, h3, _⟩ := run_newRow (P := P) hs ty z 1 (fun x hx => ⟨by have := (hz0 x hx).1; omega, (hz0 x hx).2⟩)
  rw [map_rl_zero (fun u hu => (hz0 u hu).1)] at h1
  refine ⟨ρ', w', ?_, h2, by simp [vtop], by simp, h3⟩
  simp only [Instr.alloc, zeroValue, typeInfo, Sem.run_bind, run_program, Result.andThen_ok, hi, Sem.run_pure, hzv, newVar, hzc, h1, rlA_ptr]

/-! ### Conversions -/
theorem vtop_byteV (b : UInt8) : vtop (byteV b) = 0 := rfl
theorem rl_byteV (ρ : Rn) (b : UInt8) : rl ρ (byteV b) = byteV b := rfl
theorem map_byteV (ρ : Rn) (s : ByteArray) : (s.data.toList.map byteV).toArray.map (rl ρ) = (s.data.toList.map byteV).toArray := by
  apply Array.ext
  · simp
  · intro i h1 h2; simp [rl_byteV]
theorem data_byteV (s : ByteArray) : (s.data.map fun b => Value.int .u8 b.toNat) = (s.data.toList.map byteV).toArray := by
  apply Array.ext
  · simp
  · intro i h1 h2; simp [byteV]

theorem isU8_spec {e : TypeId} (h : isU8 P e = true) : P.underlying e = some (.int .u8) := by
  unfold isU8 at h
  split at h
  · assumption
  · cases h

theorem strOf_step {u : Value} {l : List Value} {r : List UInt8} (h : strOf (u :: l) = some r) : ∃ n r', u = .int .u8 n ∧ strOf l = some r' ∧ r = UInt8.ofNat n.toNat :: r' := by
  cases u with
  | int k n =>
    cases k with
    | u8 =>
      simp only [strOf] at h
      cases hl : strOf l with
      | none => simp [hl] at h
      | some r' => simp [hl] at h; exact ⟨n, r', rfl, rfl, h.symm⟩
    | _ => simp [strOf] at h
  | _ => simp [strOf] at h

theorem run_bytesToString {a : Addr} {n c : Nat} {cs : Array Value} {l : List UInt8} (hl : strOf cs.toList = some l) (hr : (Go.loadCells a n).run P w = .ok cs w) :
    (Conv.bytesToString (.slice (some a) n c)).run P w = .ok (.string ⟨l.toArray⟩) w := by
  have key : ∀ (f : Value → ByteArray → Sem (ForInStep ByteArray)), (∀ n r, f (.int .u8 n) r = pure (.yield (r.push (UInt8.ofNat n.toNat)))) →
      ∀ (cs : List Value) (l : List UInt8) (s : ByteArray), strOf cs = some l → (forIn cs s f : Sem ByteArray).run P w = .ok ⟨(s.data.toList ++ l).toArray⟩ w := by
    intro f hf cs
    induction cs with
    | nil => intro l s h; simp only [strOf, Option.some.injEq] at h; subst h; simp
    | cons u cs ih =>
      intro l s h
      obtain ⟨n, r', rfl, h1, rfl⟩ := strOf_step h
      simp only [List.forIn_cons, Sem.run_bind, hf, Sem.run_pure, Result.andThen_ok]
      rw [ih r' _ h1]
      congr 2
      simp [ByteArray.push]
  simp only [Conv.bytesToString, Sem.run_bind, hr, Result.andThen_ok, ← Array.forIn_toList]
  rw [key _ (fun _ _ => rfl) cs.toList l .empty hl]
  simp

theorem run_aconvert {src dst : TypeId} {x : Value} (hs : Sim B w0 ρ h w) (hc : aconvert P src dst x h = some (v, h')) : Res P B w0 ρ h w (convert src dst (rl ρ x)) v h' := by
  unfold aconvert at hc
  split at hc
  · rename_i k kk n hcv
    cases hc
    refine Res.same hs ⟨?_, by simp [vtop]⟩
    unfold cvOf at hcv
    split at hcv
    · rename_i d k' h1 h2
      cases hcv
      simp [convert, run_und h1, run_und h2, rl, Conv.intToInt]
    all_goals first | (split at hcv <;> cases hcv; done) | (cases hcv; done)
  · rename_i s hcv
    cases hc
    refine Res.same hs ⟨?_, by simp [vtop]⟩
    unfold cvOf at hcv
    split at hcv
    · cases hcv
    · split at hcv <;> cases hcv
    · rename_i h1 h2
      simp [convert, run_und h1, run_und h2, rl]
    · split at hcv <;> cases hcv
    · cases hcv
  · rename_i e s hcv
    cases hc
    unfold cvOf at hcv
    split at hcv
    · cases hcv
    · split at hcv <;> cases hcv
    · cases hcv
    · rename_i e' h1 h2
      split at hcv
      · rename_i hu8
        cases hcv
        have hcap := grownCap_ge w s.size 0 e
        have hsz : ((s.data.toList.map byteV).toArray ++ Array.replicate (grownCap w s.size 0 e - s.size) (Value.int .u8 0)).size = grownCap w s.size 0 e := by
          simp only [Array.size_append, List.size_toArray, List.length_map, Array.length_toList, Array.size_replicate]
          show s.size + _ = _
          omega
        have hA := (hs.drew).alloc ⟨(s.data.toList.map byteV).toArray, 1, true⟩ ((s.data.toList.map byteV).toArray ++ Array.replicate (grownCap w s.size 0 e - s.size) (Value.int .u8 0)) e
          (grownCap w s.size 0 e, grownCap w s.size 0 e + 1) (grownCap w s.size 0 e - s.size)
          (by intro u hu; simp at hu; obtain ⟨b, _, rfl⟩ := hu; exact ⟨by simp [vtop_byteV], rfl⟩)
          (by rw [hsz]; simp; show _ = s.size + _; omega)
          (by rw [hsz]; intro j hj; omega)
          (by
            intro j hj
            have hj' : j < (s.data.toList.map byteV).toArray.size := hj
            rw [Array.getElem?_append_left hj', Array.getElem?_eq_getElem hj']
            simp [rl_byteV])
          rfl
        refine ⟨_, _, ?_, hA, by simp [vtop], by simp, Goes.new _ _ _⟩
        have hfz : (w.drew.alloc (.cells ((s.data.toList.map byteV).toArray ++ Array.replicate (grownCap w s.size 0 e - s.size) (Value.int .u8 0)) e)).freeze ⟨w.heap.size, grownCap w s.size 0 e, none⟩ 1 =
            w.drew.alloc (.cells ((s.data.toList.map byteV).toArray ++ Array.replicate (grownCap w s.size 0 e - s.size) (Value.int .u8 0)) e (grownCap w s.size 0 e, grownCap w s.size 0 e + 1)) := by
          simp only [World.freeze]
          rw [if_neg (by decide)]
          simp only [World.alloc]
          congr 1
          apply Array.ext_getElem?
          intro k
          simp only [Array.getElem?_modify, Array.getElem?_push, World.drew]
          by_cases hk : k = w.heap.size
          · subst hk; simp
          · simp [hk]; intro hk'; exact absurd hk'.symm hk
        simp only [convert, Sem.run_bind, run_und h1, run_und h2, run_und (isU8_spec hu8), Result.andThen_ok, rl, Conv.stringToBytes, run_choose, Question.forced, Bool.false_eq_true, if_false, World.drew_eq, newRow, run_newObj, World.alloc_eq, Sem.run_pure, markStringish,
          run_shape, data_byteV]
        have hcapdef : Question.cut (.appendCap s.size 0 e) (w.tape w.drawn (.appendCap s.size 0 e)) = grownCap w s.size 0 e := rfl
        rw [hcapdef]
        have hshape : (w.drew.alloc (.cells ((s.data.toList.map byteV).toArray ++ Array.replicate (grownCap w s.size 0 e - s.size) (Value.int .u8 0)) e)).shape? w.heap.size = some (e, grownCap w s.size 0 e) := by
          unfold World.shape?
          rw [show w.heap.size = w.drew.heap.size from rfl, heap_alloc_new]
          simp only [hsz]
        simp only [World.size_drew, hshape, run_freeze, hfz, Result.andThen_ok, rlAddr, Rn.new, if_true, rlCap]
        congr 2
        rw [if_pos (by omega)]; omega
      · cases hcv
    · cases hcv
  · rename_i hcv
    cases hc
    refine Res.same hs ⟨?_, by simp [vtop]⟩
    unfold cvOf at hcv
    split at hcv
    · cases hcv
    · rename_i e h1 h2
      split at hcv
      · rename_i hu8
        simp [convert, run_und h1, run_und h2, run_und (isU8_spec hu8), rl, Conv.bytesToString]; rfl
      · cases hcv
    · cases hcv
    · split at hcv <;> cases hcv
    · cases hcv
  · rename_i a n c hcv
    cases hr : rowAt h a n with
    | none => simp [hr] at hc
    | some cs =>
      cases hl : strOf cs.toList with
      | none => simp [hr, hl] at hc
      | some l =>
        simp only [hr, hl, Option.some.injEq, Prod.mk.injEq] at hc
        obtain ⟨rfl, rfl⟩ := hc
        refine Res.same hs ⟨?_, by simp [vtop]⟩
        obtain ⟨h0, _, _, _⟩ := rowAt_spec (P := P) hs hr
        have hl' : strOf (cs.map (rl ρ)).toList = some l := by
          have : ∀ (xs : List Value) (l : List UInt8), strOf xs = some l → strOf (xs.map (rl ρ)) = some l := by
            intro xs
            induction xs with
            | nil => intro l h; exact h
            | cons u xs ih => intro l h; obtain ⟨n, r', rfl, h1, rfl⟩ := strOf_step h; simp [rl, strOf, ih _ h1]
          simpa using this cs.toList l hl
        unfold cvOf at hcv
        split at hcv
        · cases hcv
        · rename_i e h1 h2
          split at hcv
          · rename_i hu8
            have := run_bytesToString (c := rlCap ρ a c) hl' h0
            simp only [convert, Sem.run_bind, run_und h1, run_und h2, run_und (isU8_spec hu8), Result.andThen_ok, rl, this]
          · cases hcv
        · cases hcv
        · split at hcv <;> cases hcv
        · cases hcv
  · cases hc

end
end Go.Mini
