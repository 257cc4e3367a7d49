/-
  errors.Is and errors.As as calls on names.
-/
import Derived.Test.YtcbagjhbmdmjfaaDoorE4
import Derived.Test.YtcbagjhbmdmjfaaDoorM28
import Derived.Test.YtcbagjhbmdmjfaaDoorM29
set_option linter.unusedSimpArgs false
set_option linter.unusedVariables false
set_option linter.unusedSectionVars false
namespace Go.Proofs.YtcbagjhbmdmjfaaDoor
open Go Go.Mini Go.Proofs.Tryd
variable [E : REnv]

/-- errors.errorType, as the heap has it: variable 0; a type's handle leads to block 4. -/
def errN : Value := .iface 138 (.agg #[.pointer (some ⟨104, 41, none⟩)])
def HasErr (h : Hp) : Prop := h.blks 100 = some ⟨#[errN], 0, false⟩
/-- A fault of a field, at a place, of a number. -/
def faultB (f : ByteArray) (at_ e : Int) : Blk := ⟨#[.string f, .int .i64 at_, .int .i64 e], 1, true⟩
theorem mem_own {i : Nat} {b : Blk} {h : Hp} {B : Bd} {w0 w : World} {ρ : Rn} (hs : Sim B w0 ρ h w) (hb : h.blks i = some b) (ho : b.own = true) (hj : 0 < b.cells.size) : (ρ i).base = 0 ∧ w.frozen? ⟨(ρ i).blk, 0, none⟩ = false := by
  obtain ⟨cs, e, fr, hr⟩ := hs.real i b hb
  obtain ⟨hB, hbase, hsz, hfr⟩ := hr.own ho
  have hlt : 0 < cs.size := by rw [hsz]; exact Nat.lt_of_lt_of_le hj (Nat.le_add_right _ _)
  have := hfr 0 hlt
  refine ⟨hbase, ?_⟩
  simp only [World.frozen?, hr.at_]
  simp only [Bool.and_eq_false_iff, decide_eq_false_iff_not]
  omega
theorem err_cell {h : Hp} {B : Bd} {w0 w : World} {ρ : Rn} (hs : Sim B w0 ρ h w) (he : HasErr h) : w.cell? ⟨0, 0, none⟩ = some errTy := by
  have h1 := hs.cell he (j := 0) (by simp)
  have g0 := hs.gl 0 (by omega)
  have g4 := hs.gl 4 (by omega)
  rw [show ρ 100 = ⟨0, 0, 0⟩ from g0] at h1
  have g4' : ρ 104 = ⟨4, 0, 0⟩ := g4
  rw [h1]
  simp [errN, rl, rlL, rlAddr, g4']
theorem is_num_call {a b : Int} {h : Hp} {K : Value → Hp → Prop} (hK : K (.bool (a == b)) h) : ACall prog 22 [.iface 28 (.int .i64 a), .iface 28 (.int .i64 b)] h K :=
  ACall.of_calls (r := .bool (a == b)) ⟨_, _, func22, rfl, rfl⟩ (by simp [vtop]) rfl (fun w => (is_num a b w).mono fun _ _ ⟨he, hw⟩ => ⟨he, by rw [hw]; exact RowKit.Below.refl _ _⟩) hK
theorem is_fault_call {p : Nat} {f : ByteArray} {at_ a b : Int} {h : Hp} {K : Value → Hp → Prop} (hp : h.blks p = some (faultB f at_ a)) (hK : K (.bool (a == b)) h) : ACall prog 22 [.iface 70 (.pointer (some ⟨p, 0, none⟩)), .iface 28 (.int .i64 b)] h K :=
  ACall.of_world (r := .bool (a == b)) ⟨_, _, func22, rfl, rfl⟩ rfl (fun B w0 ρ w hs => by
    have h1 := hs.cell hp (j := 2) (by simp [faultB])
    have h2 : w.cell? ⟨(ρ p).blk, (ρ p).base + 0 + 2, none⟩ = some (.int .i64 a) := by rw [Nat.add_zero, h1]; simp [faultB, rl]
    have := is_fault (ρ p).blk ((ρ p).base + 0) a b w h2
    simp only [List.map_cons, List.map_nil, rl, rlAddr]
    exact this.mono fun _ _ ⟨he, hw⟩ => ⟨he, by rw [hw]; exact RowKit.Below.refl _ _⟩) hK
theorem is_new_call {p : Nat} {b : Int} {h : Hp} {K : Value → Hp → Prop} (hK : K (.bool false) h) : ACall prog 22 [.iface 112 (.pointer (some ⟨p, 0, none⟩)), .iface 28 (.int .i64 b)] h K :=
  ACall.of_world (r := .bool false) ⟨_, _, func22, rfl, rfl⟩ rfl (fun B w0 ρ w hs => by
    simp only [List.map_cons, List.map_nil, rl, rlAddr]
    exact (is_new _ b w).mono fun _ _ ⟨he, hw⟩ => ⟨he, by rw [hw]; exact RowKit.Below.refl _ _⟩) hK

/-- A call that makes blocks of its own, and sets a cell of ours. -/
theorem ACall.of_set {P : Program} {f : FuncId} {args : List Value} {h : Hp} {K : Value → Hp → Prop} {r old v : Value} {t : Nat} (hcl : Callable P f) (hr : vtop r = 0) (ht : h.blks t = some ⟨#[old], 1, true⟩) (hv : vtop v ≤ h.next) (h1 : v.oneCell' = true)
    (hc : ∀ (B : Bd) (w0 : World) (ρ : Rn) (w : World), Sim B w0 ρ h w → Calls P f (args.map (rl ρ)).toArray w fun e w' => e = .returned r ∧ ∃ w1, RowKit.Below w.heap.size w w1 ∧ w' = w1.setCell ⟨(ρ t).blk, 0, none⟩ (rl ρ v)) (hK : K r (h.set t ⟨#[v], 1, true⟩)) : ACall P f args h K :=
  ⟨hcl, fun B w0 ρ w hs _ => (hc B w0 ρ w hs.sim).mono fun ex w' ⟨he, w1, hb, hw⟩ => by
    have g := hs.grown hb
    have st := (g.open_.store_one (P := P) ht rfl (off := 0) (by simp) hv h1 .plain none).2
    refine ⟨r, _, ρ, by rw [he, rl_id r hr], hK, ?_, by omega, Nat.le_refl _, Goes.refl _ _, fun _ => rfl⟩
    rw [hw]
    exact g.close_ st rfl (Nat.le_refl _) (Goes.refl _ _)⟩
theorem asW_below (T : TypeId) (t : Addr) (w : World) : RowKit.Below w.heap.size w (asW T t w) :=
  (((RowKit.Below.refl _ _).alloc (Nat.le_refl _) _).alloc (by simp) _).alloc (by simp; omega) _
theorem asW_below2 (T : TypeId) (t : Addr) (w : World) (o : Obj) : RowKit.Below w.heap.size w ((asW T t w).alloc o) := (asW_below T t w).alloc (by simp; omega) _
theorem as_fault_call {p t : Nat} {h : Hp} {K : Value → Hp → Prop} {old : Value} (he : HasErr h) (hp : p < h.next) (ht : h.blks t = some ⟨#[old], 1, true⟩) (hK : K (.bool true) (h.set t ⟨#[.pointer (some ⟨p, 0, none⟩)], 1, true⟩)) : ACall prog 47 [.iface 70 (.pointer (some ⟨p, 0, none⟩)), .iface 100 (.pointer (some ⟨t, 0, none⟩))] h K :=
  ACall.of_set ⟨_, _, func47, rfl, rfl⟩ rfl ht (by simp [vtop]; omega) rfl (fun B w0 ρ w hs => by
    obtain ⟨h0, hf⟩ := mem_own hs ht rfl (by simp)
    have hc := hs.cell ht (j := 0) (by simp)
    rw [h0] at hc
    simp only [List.map_cons, List.map_nil, rl, rlAddr, h0]
    exact (as_fault _ _ _ w (err_cell hs he) hc hf).mono fun _ _ ⟨he, hw⟩ => ⟨he, _, asW_below2 _ _ _ _, hw⟩) hK
theorem as_num_call {n : Int} {t : Nat} {h : Hp} {K : Value → Hp → Prop} {old : Value} (he : HasErr h) (ht : h.blks t = some ⟨#[old], 1, true⟩) (hK : K (.bool true) (h.set t ⟨#[.int .i64 n], 1, true⟩)) : ACall prog 47 [.iface 28 (.int .i64 n), .iface 101 (.pointer (some ⟨t, 0, none⟩))] h K :=
  ACall.of_set ⟨_, _, func47, rfl, rfl⟩ rfl ht (by simp [vtop]) rfl (fun B w0 ρ w hs => by
    obtain ⟨h0, hf⟩ := mem_own hs ht rfl (by simp)
    have hc := hs.cell ht (j := 0) (by simp)
    rw [h0] at hc
    simp only [List.map_cons, List.map_nil, rl, rlAddr, h0]
    exact (as_num n _ _ w (err_cell hs he) hc hf).mono fun _ _ ⟨he, hw⟩ => ⟨he, _, asW_below2 _ _ _ _, hw⟩) hK
theorem as_wrap_call {p t : Nat} {f : ByteArray} {at_ n : Int} {h : Hp} {K : Value → Hp → Prop} {old : Value} (he : HasErr h) (hp : h.blks p = some (faultB f at_ n)) (ht : h.blks t = some ⟨#[old], 1, true⟩) (hK : K (.bool true) (h.set t ⟨#[.int .i64 n], 1, true⟩)) : ACall prog 47 [.iface 70 (.pointer (some ⟨p, 0, none⟩)), .iface 101 (.pointer (some ⟨t, 0, none⟩))] h K :=
  ACall.of_set ⟨_, _, func47, rfl, rfl⟩ rfl ht (by simp [vtop]) rfl (fun B w0 ρ w hs => by
    obtain ⟨h0, hf⟩ := mem_own hs ht rfl (by simp)
    have hc := hs.cell ht (j := 0) (by simp)
    rw [h0] at hc
    have h1 := hs.cell hp (j := 2) (by simp [faultB])
    have h2 : w.cell? ⟨(ρ p).blk, (ρ p).base + 0 + 2, none⟩ = some (.int .i64 n) := by rw [Nat.add_zero, h1]; simp [faultB, rl]
    simp only [List.map_cons, List.map_nil, rl, rlAddr, h0]
    exact (as_wrap _ _ n _ _ w (err_cell hs he) hc hf h2).mono fun _ _ ⟨he, hw⟩ => ⟨he, _, asW_below2 _ _ _ _, hw⟩) hK
theorem as_num_not_call {n : Int} {t : Nat} {h : Hp} {K : Value → Hp → Prop} {old : Value} (he : HasErr h) (ht : h.blks t = some ⟨#[old], 1, true⟩) (hK : K (.bool false) h) : ACall prog 47 [.iface 28 (.int .i64 n), .iface 100 (.pointer (some ⟨t, 0, none⟩))] h K :=
  ACall.of_world (r := .bool false) ⟨_, _, func47, rfl, rfl⟩ rfl (fun B w0 ρ w hs => by
    obtain ⟨h0, hf⟩ := mem_own hs ht rfl (by simp)
    have hc := hs.cell ht (j := 0) (by simp)
    rw [h0] at hc
    simp only [List.map_cons, List.map_nil, rl, rlAddr, h0]
    exact (as_num_not n _ _ w (err_cell hs he) hc hf).mono fun _ _ ⟨he, hw⟩ => ⟨he, by rw [hw]; exact asW_below _ _ _⟩) hK
theorem as_new_not_call {p t : Nat} {h : Hp} {K : Value → Hp → Prop} {old : Value} (he : HasErr h) (ht : h.blks t = some ⟨#[old], 1, true⟩) (hK : K (.bool false) h) : ACall prog 47 [.iface 112 (.pointer (some ⟨p, 0, none⟩)), .iface 101 (.pointer (some ⟨t, 0, none⟩))] h K :=
  ACall.of_world (r := .bool false) ⟨_, _, func47, rfl, rfl⟩ rfl (fun B w0 ρ w hs => by
    obtain ⟨h0, hf⟩ := mem_own hs ht rfl (by simp)
    have hc := hs.cell ht (j := 0) (by simp)
    rw [h0] at hc
    simp only [List.map_cons, List.map_nil, rl, rlAddr, h0]
    exact (as_new_not _ _ _ w (err_cell hs he) hc hf).mono fun _ _ ⟨he, hw⟩ => ⟨he, by rw [hw]; exact asW_below _ _ _⟩) hK
end Go.Proofs.YtcbagjhbmdmjfaaDoor
