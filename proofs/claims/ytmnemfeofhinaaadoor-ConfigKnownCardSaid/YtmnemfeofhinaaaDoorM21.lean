/-
  make, copy, clear; rows of bytes told by a function.
-/
import Derived.Test.YtmnemfeofhinaaaDoorM20
set_option linter.unusedSimpArgs false
set_option linter.unusedVariables false
set_option linter.unusedSectionVars false
namespace Go.Mini
open Go
variable [E : REnv]

section
variable {P : Program}

def mkR (i : Option (Nat × Nat × Array Value)) (l c : Int) (h : Hp) : Option (Value × Hp) := match i with
  | some (esz, bytes, z) => if 0 ≤ l ∧ l ≤ c ∧ c ≤ ROOM ∧ c.toNat * bytes ≤ ROOM then
      some (.slice (some ⟨h.next, 0, none⟩) l.toNat (2 * c.toNat), h.alloc ⟨zeroRow z (c.toNat * esz), esz, true⟩) else none
  | none => none
@[simp] theorem amake_def (ty : TypeId) (k k' : IntKind) (l c : Int) (h : Hp) : amake P ty (.int k l) (.int k' c) h = mkR (elInfo P ty) l c h := by
  unfold amake mkR
  cases elInfo P ty with
  | none => rfl
  | some p => rfl
theorem mkR_some (esz bytes : Nat) (z : Array Value) (l c : Int) (h : Hp) (hl : 0 ≤ l ∧ l ≤ c ∧ c ≤ ROOM ∧ c.toNat * bytes ≤ ROOM) : mkR (some (esz, bytes, z)) l c h = some (.slice (some ⟨h.next, 0, none⟩) l.toNat (2 * c.toNat), h.alloc ⟨zeroRow z (c.toNat * esz), esz, true⟩) := by
  unfold mkR; simp only; rw [if_pos hl]
/-- A slice is made. -/
theorem mk_row {esz bytes n : Nat} {z : Array Value} {l c : Int} {h : Hp} {K : Value → Hp → Prop} {u : Tag K} (hl : l = n) (hc : c = n) (room : n * bytes ≤ ROOM ∧ n ≤ ROOM) (hK : K (.slice (some ⟨h.next, 0, none⟩) n (2 * n)) (h.alloc ⟨zeroRow z (n * esz), esz, true⟩)) : OptF (mkR (some (esz, bytes, z)) l c h) K u := by
  subst hl
  subst hc
  rw [mkR_some _ _ _ _ _ _ ⟨by omega, by omega, by omega, by simpa using room.1⟩]
  exact hK

def cpR (t : Option TypeId) (P : Program) (d s : Value) (h : Hp) : Option (Value × Hp) := match t with
  | some ty => match elInfo P ty with
    | some (esz, _, _) => acopy h esz d s
    | none => none
  | none => none
def cpE (i : Option (Nat × Nat × Array Value)) (d s : Value) (h : Hp) : Option (Value × Hp) := match i with
  | some (esz, _, _) => acopy h esz d s
  | none => none
@[simp] theorem abuiltin_copy (tys : Array TypeId) (d s : Value) (h : Hp) : abuiltin P .copy tys [d, s] h = cpR tys[0]? P d s h := _root_.id rfl
@[simp] theorem cpR_some (ty : TypeId) (d s : Value) (h : Hp) : cpR (some ty) P d s h = cpE (elInfo P ty) d s h := _root_.id rfl
@[simp] theorem cpE_some (esz b : Nat) (z : Array Value) (d s : Value) (h : Hp) : cpE (some (esz, b, z)) d s h = acopy h esz d s := _root_.id rfl
def clE (i : Option (Nat × Nat × Array Value)) (x : Value) (h : Hp) : Option (Value × Hp) := match i with
  | some (_, _, z) => aclear h z x
  | none => none
def clR (t : Option TypeId) (P : Program) (x : Value) (h : Hp) : Option (Value × Hp) := match t with
  | some ty => clE (elInfo P ty) x h
  | none => none
@[simp] theorem abuiltin_clear (tys : Array TypeId) (x : Value) (h : Hp) : abuiltin P .clear tys [x] h = clR tys[0]? P x h := _root_.id rfl
@[simp] theorem clR_some (ty : TypeId) (x : Value) (h : Hp) : clR (some ty) P x h = clE (elInfo P ty) x h := _root_.id rfl
@[simp] theorem clE_some (esz b : Nat) (z : Array Value) (x : Value) (h : Hp) : clE (some (esz, b, z)) x h = aclear h z x := _root_.id rfl
end

/-! ### Rows of bytes -/
def mem (N : Nat) (M : Nat → Nat) : Array Value := ((List.range N).map fun i => Value.int .u8 (M i)).toArray
@[simp] theorem mem_size (N : Nat) (M : Nat → Nat) : (mem N M).size = N := by simp [mem]
@[simp] theorem mem_get (N : Nat) (M : Nat → Nat) (i : Nat) (h : i < (mem N M).size) : (mem N M)[i] = .int .u8 (M i) := by simp [mem]
theorem mem_at (N : Nat) (M : Nat → Nat) (i : Nat) (hi : i < N) : (mem N M)[i]? = some (.int .u8 (M i)) := by simp [mem, hi]
theorem mem_ext {N : Nat} {M : Nat → Nat} {a : Array Value} (hs : a.size = N) (h : ∀ i, i < N → a[i]? = some (.int .u8 (M i))) : a = mem N M := by
  apply Array.ext_getElem?
  intro i
  by_cases hi : i < N
  · rw [h i hi, mem_at _ _ _ hi]
  · rw [Array.getElem?_eq_none (by omega), Array.getElem?_eq_none (by simp; omega)]
theorem mem_congr {N : Nat} {M M' : Nat → Nat} (h : ∀ i, i < N → M i = M' i) : mem N M = mem N M' := mem_ext (by simp) fun i hi => by rw [mem_at _ _ _ hi, h i hi]
def upd1 (M : Nat → Nat) (k v : Nat) : Nat → Nat := fun i => if i = k then v else M i
theorem mem_set (N : Nat) (M : Nat → Nat) (k v : Nat) : (mem N M).setIfInBounds k (.int .u8 v) = mem N (upd1 M k v) := by
  apply mem_ext (by simp)
  intro i hi
  unfold upd1
  by_cases h : i = k
  · subst h; rw [if_pos rfl]; simp [hi]
  · rw [if_neg h, Array.getElem?_setIfInBounds_ne (Ne.symm h), mem_at _ _ _ hi]
/-- A text is laid over a row. -/
def lay (M : Nat → Nat) (o : Nat) (l : List UInt8) : Nat → Nat := fun i => if o ≤ i ∧ i < o + l.length then ((l[i - o]?).getD 0).toNat else M i
theorem mem_putL (N : Nat) (l : List UInt8) : ∀ (M : Nat → Nat) (o : Nat), putL (mem N M) o (l.map byteV) = mem N (lay M o l) := by
  induction l with
  | nil => intro M o; exact mem_congr fun i _ => by unfold lay; rw [if_neg (by simp only [List.length_nil]; omega)]
  | cons b l ih =>
    intro M o
    rw [List.map_cons, putL_cons]
    have hb : byteV b = .int .u8 (b.toNat : Nat) := rfl
    rw [hb, mem_set, ih]
    apply mem_congr
    intro i _
    unfold lay upd1
    simp only [List.length_cons]
    by_cases h0 : i = o
    · subst h0
      rw [if_neg (by omega), if_pos rfl, if_pos (by omega), Nat.sub_self]
      rfl
    · by_cases h1 : o + 1 ≤ i ∧ i < o + 1 + l.length
      · rw [if_pos h1, if_pos (by omega), show i - o = (i - (o + 1)) + 1 from by omega]
        rfl
      · rw [if_neg h1, if_neg h0, if_neg (by omega)]
theorem mem_zero (N : Nat) : zeroRow #[.int .u8 0] (N * 1) = mem N (fun _ => 0) := by
  apply mem_ext (by simp [zeroRow])
  intro i hi
  simp [zeroRow, hi, Nat.mod_one]
theorem mem_extract (N : Nat) (M : Nat → Nat) (o n : Nat) (h : o + n ≤ N) : (mem N M).extract o (o + n) = mem n (fun i => M (o + i)) := by
  apply mem_ext (by simp; omega)
  intro i hi
  rw [Array.getElem?_extract, if_pos (by simp; omega), mem_at _ _ _ (by omega)]
/-- The bytes of a row. -/
def bytesM (M : Nat → Nat) (o n : Nat) : List UInt8 := (List.range n).map fun i => UInt8.ofNat (M (o + i))
theorem bytesM_length (M : Nat → Nat) (o n : Nat) : (bytesM M o n).length = n := by simp [bytesM]
theorem mem_bytes {M : Nat → Nat} (h : ∀ i, M i < 256) (n : Nat) : mem n M = ((bytesM M 0 n).map byteV).toArray := by
  symm
  apply mem_ext (by simp [bytesM])
  intro i hi
  have := h i
  simp [bytesM, hi, byteV]
  omega

theorem acopy_mem {h : Hp} {b N o len c n : Nat} {M : Nat → Nat} {l : List UInt8} {s : Value} {K : Value → Hp → Prop} {u : Tag K} (hb : h.blks b = some ⟨mem N M, 1, true⟩) (hs : srcCells h 1 s = some (l.length, (l.map byteV).toArray)) (hn : n = min l.length len) (ho : o + n ≤ N) (hK : K (.int .i64 n) (h.set b ⟨mem N (lay M o (l.take n)), 1, true⟩)) : OptF (acopy h 1 (.slice (some ⟨b, o, none⟩) len c) s) K u := by
  subst hn
  unfold acopy
  simp only [hs, hb]
  rw [if_pos ⟨trivial, by simpa using ho⟩]
  have : (h.set b ((⟨mem N M, 1, true⟩ : Blk).put o ((l.map byteV).toArray.toList.take (min l.length len * 1)))) = h.set b ⟨mem N (lay M o (l.take (min l.length len))), 1, true⟩ := by
    unfold Blk.put
    simp only [Nat.mul_one, ← List.map_take, mem_putL]
  rw [this]
  exact hK
theorem aclear_mem {h : Hp} {b N c : Nat} {M : Nat → Nat} {K : Value → Hp → Prop} {u : Tag K} (hN : 0 < N) (hb : h.blks b = some ⟨mem N M, 1, true⟩) (hK : K (.tuple #[]) (h.set b ⟨mem N (fun _ => 0), 1, true⟩)) : OptF (aclear h #[.int .u8 0] (.slice (some ⟨b, 0, none⟩) N c)) K u := by
  unfold aclear
  simp only [hb]
  rw [if_neg (by omega), if_pos ⟨trivial, by simp⟩]
  have hz : zeroRow #[.int .u8 0] (N * (#[Value.int .u8 0] : Array Value).size) = mem N (fun _ => 0) := mem_zero N
  have hm : mem N (fun _ => 0) = ((List.replicate N (0 : UInt8)).map byteV).toArray := by
    symm
    apply mem_ext (by simp)
    intro i hi
    simp [hi, byteV]
  have : (h.set b ((⟨mem N M, 1, true⟩ : Blk).put 0 (zeroRow #[.int .u8 0] (N * (#[Value.int .u8 0] : Array Value).size)).toList)) = h.set b ⟨mem N (fun _ => 0), 1, true⟩ := by
    rw [hz, hm]
    unfold Blk.put
    simp only [List.toList_toArray]
    rw [mem_putL]
    congr 2
    rw [← hm]
    apply mem_congr
    intro i hi
    unfold lay
    rw [if_pos (by simp; omega)]
    simp [hi]
  rw [this]
  exact hK

end Go.Mini
