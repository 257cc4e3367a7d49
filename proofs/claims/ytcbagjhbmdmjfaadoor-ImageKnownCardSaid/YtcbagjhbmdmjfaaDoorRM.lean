/-
  A memory: is, Size, there, numbers, touch. A memory: New, Reserve, Held, Drop, Clear, Put, Bytes. A memory: Put, Bytes, Write, Read. A memory: Write, Read. A memory: Clear.
-/
import Derived.Test.YtcbagjhbmdmjfaaDoorF
import Derived.Test.YtcbagjhbmdmjfaaDoorM21
import Derived.IntWalk
set_option linter.unusedSimpArgs false
set_option linter.unusedVariables false
set_option linter.unusedSectionVars false

namespace Go.Proofs.YtcbagjhbmdmjfaaDoor.Rm
set_option maxRecDepth 100000
open Go Go.Mini Go.Proofs.Tryd

def tb0 : Nat → Marks := fun _ => ⟨[], fun _ => False⟩
@[simp] theorem tb0_l (k : Nat) : (tb0 k).l = [] := id rfl
abbrev ptr (p : Nat) : Value := .pointer (some ⟨p, 0, none⟩)
def ramC (b N C a : Nat) (w : Int) : Array Value := #[.slice (some ⟨b, 0, none⟩) N (2 * C), .int .u64 a, .int .i64 w]

/-- A memory of N bytes, and its claim. -/
structure Ram (h : Hp) (p b N C : Nat) (M : Nat → Nat) (a : Nat) (w : Int) : Prop where
  blk : h.blks p = some ⟨ramC b N C a w, 1, true⟩
  row : h.blks b = some ⟨mem N M, 1, true⟩
  ne : b ≠ p
  plt : p < h.next
  blt : b < h.next
  N0 : 0 < N
  N1 : N ≤ 65536
  a1 : a < N
  M8 : ∀ i, M i < 256
  NC : N ≤ C
theorem Ram.blk' {h : Hp} {p b N C : Nat} {M : Nat → Nat} {a : Nat} {w : Int} (r : Ram h p b N C M a w) : h.blks p = some ⟨#[.slice (some ⟨b, 0, none⟩) N (2 * C), .int .u64 a, .int .i64 w], 1, true⟩ := r.blk

/-- Only these two are changed. -/
structure Ch (h h' : Hp) (p b : Nat) : Prop where
  next : h'.next = h.next
  same : ∀ i, i ≠ p → i ≠ b → h'.blks i = h.blks i
theorem Ch.refl (h : Hp) (p b : Nat) : Ch h h p b := ⟨rfl, fun _ _ _ => rfl⟩
theorem Ch.trans {h h' h'' : Hp} {p b : Nat} (x : Ch h h' p b) (y : Ch h' h'' p b) : Ch h h'' p b := ⟨by rw [y.next, x.next], fun i h1 h2 => by rw [y.same i h1 h2, x.same i h1 h2]⟩
theorem Ch.setp (h : Hp) (p b : Nat) (c : Blk) : Ch h (h.set p c) p b := ⟨by simp, fun i h1 _ => blks_set_ne _ _ _ _ h1⟩
theorem Ch.setb (h : Hp) (p b : Nat) (c : Blk) : Ch h (h.set b c) p b := ⟨by simp, fun i _ h2 => blks_set_ne _ _ _ _ h2⟩

section
variable {h : Hp} {p b N C : Nat} {M : Nat → Nat} {a : Nat} {w : Int} {K : Value → Hp → Prop}

theorem is_call (r : Ram h p b N C M a w) (hK : K (.bool true) h) : ACall prog 50 [ptr p] h K := by
  refine acallF_of tb0 func50 rfl rfl mixed (by kernel_rfl) fun hwf => ?_
  have hb := r.blk'
  simp -dsimp (disch := omega) [hb]
  exact RetF.same hwf (by simp) (Nat.zero_le _) (fun _ _ => rfl) hK

theorem size_call (r : Ram h p b N C M a w) (hK : K (.int .u64 N) h) : ACall prog 25 [ptr p] h K := by
  refine acallF_of tb0 func25 rfl rfl mixed (by kernel_rfl) fun hwf => ?_
  have hb := r.blk'
  have h1 := r.N1
  simp -dsimp (disch := omega) [hb]
  refine is_call r ?_
  simp -dsimp (disch := omega) [hb]
  exact RetF.same hwf (by simp) (Nat.zero_le _) (fun _ _ => rfl) hK

theorem there_call {x n : Nat} (r : Ram h p b N C M a w) (hK : K (.bool (decide (x + n ≤ N))) h) : ACall prog 51 [ptr p, .int .u64 x, .int .u64 n] h K := by
  refine acallF_of tb0 func51 rfl rfl mixed (by kernel_rfl) fun hwf => ?_
  have hb := r.blk'
  have h1 := r.N1
  simp -dsimp (disch := omega) [hb]
  refine is_call r ?_
  simp -dsimp (disch := omega) [hb]
  refine size_call r ?_
  by_cases hx : x ≤ N
  · have hx' : (x : Int) ≤ N := by omega
    simp -dsimp (disch := omega) [hx, hx']
    refine size_call r ?_
    by_cases hn : x + n ≤ N
    · have hn' : (n : Int) ≤ N - x := by omega
      rw [decide_eq_true hn] at hK
      simp -dsimp (disch := omega) [hn, hn']
      exact RetF.same hwf (by simp) (Nat.zero_le _) (fun _ _ => rfl) hK
    · have hn' : ¬ (n : Int) ≤ N - x := by omega
      rw [decide_eq_false hn] at hK
      simp -dsimp (disch := omega) [hn, hn']
      exact RetF.same hwf (by simp) (Nat.zero_le _) (fun _ _ => rfl) hK
  · have hx' : ¬ (x : Int) ≤ N := by omega
    rw [decide_eq_false (by omega)] at hK
    simp -dsimp (disch := omega) [hx, hx']
    exact RetF.same hwf (by simp) (Nat.zero_le _) (fun _ _ => rfl) hK

/-- Widths that may be. -/
def wok (n : Int) : Prop := n = 1 ∨ n = 2 ∨ n = 4 ∨ n = 8
instance (n : Int) : Decidable (wok n) := by unfold wok; infer_instance

/-- What is left of a claim. -/
def toA (a x n : Nat) : Nat := if 0 < n ∧ x < a / 8 * 8 + 8 ∧ a / 8 * 8 < x + n then 0 else a
def toW (a : Nat) (w : Int) (x n : Nat) : Int := if 0 < n ∧ x < a / 8 * 8 + 8 ∧ a / 8 * 8 < x + n then 0 else w
theorem andNot7 (n : Nat) (hn : n < 18446744073709551616) : ((BitVec.ofInt 64 (n : Int) &&& ~~~BitVec.ofInt 64 7).toNat) = n / 8 * 8 := by
  have h7 : ∀ i : Fin 64, (BitVec.ofInt 64 7).getLsbD i.val = decide (i.val < 3) := by decide
  have : (BitVec.ofInt 64 (n : Int) &&& ~~~BitVec.ofInt 64 7) = BitVec.ofNat 64 (n / 8 * 8) := by
    apply BitVec.eq_of_getLsbD_eq
    intro i hi
    have hh := h7 ⟨i, hi⟩
    simp only at hh
    simp only [BitVec.getLsbD_and, BitVec.getLsbD_not, hh, hi, BitVec.getLsbD_ofNat, BitVec.ofInt_natCast, decide_true, Bool.true_and]
    rw [show n / 8 * 8 = (n >>> 3) <<< 3 from by rw [Nat.shiftRight_eq_div_pow, Nat.shiftLeft_eq], Nat.testBit_shiftLeft, Nat.testBit_shiftRight]
    by_cases h3 : i < 3
    · simp [h3]; omega
    · simp [h3, show 3 ≤ i from by omega]
  rw [this, BitVec.toNat_ofNat, Nat.mod_eq_of_lt (by omega)]

theorem an7 (n f : Nat) (hf : f = n / 8 * 8) (hn : n < 18446744073709551616) (ty : TypeId) (xo yo : Operand) : abin prog .andNot ty xo yo (.int .u64 n) (.int .u64 7) = some (.int .u64 f) := by
  rw [abin_andNot]
  have := andNot7 n hn
  rw [show IntKind.u64.bits = 64 from rfl, this, hf]
  simp (disch := omega)
theorem set_self {h : Hp} {p : Nat} {c : Blk} (hp : h.blks p = some c) : h.set p c = h := by
  obtain ⟨n, bl⟩ := h
  unfold Hp.set
  congr
  funext j
  by_cases hj : j = p
  · subst hj; rw [if_pos rfl]; exact hp.symm
  · rw [if_neg hj]

theorem touch_call {x n : Nat} (r : Ram h p b N C M a w) (hx : x + n ≤ N) (hK : K (.tuple #[]) (h.set p ⟨ramC b N C (toA a x n) (toW a w x n), 1, true⟩)) : ACall prog 52 [ptr p, .int .u64 x, .int .u64 n] h K := by
  refine acallF_of tb0 func52 rfl rfl mixed (by kernel_rfl) fun hwf => ?_
  have hb := r.blk'
  have h1 := r.N1
  have h2 := r.a1
  obtain ⟨f, hf⟩ : ∃ f, f = a / 8 * 8 := ⟨_, rfl⟩
  have hr := an7 a f hf (by omega)
  unfold toA toW at hK
  rw [← hf] at hK
  simp -dsimp (disch := omega) [hb, hr, -abin_andNot]
  by_cases c1 : 0 < n
  · simp -dsimp (disch := omega) [c1]
    by_cases c2 : x < f + 8
    · have c2' : (x : Int) < f + 8 := by omega
      simp -dsimp (disch := omega) [c2, c2']
      by_cases c3 : f < x + n
      · have c3' : (f : Int) < x + n := by omega
        rw [if_pos ⟨c1, c2, c3⟩, if_pos ⟨c1, c2, c3⟩] at hK
        simp -dsimp (disch := omega) [c3, c3', hb]
        exact RetF.all (by simp) hK
      · have c3' : ¬ (f : Int) < x + n := by omega
        rw [if_neg (fun h => c3 h.2.2), if_neg (fun h => c3 h.2.2)] at hK
        simp -dsimp (disch := omega) [c3, c3', hb]
        rw [set_self r.blk] at hK
        exact RetF.same hwf (by simp) (Nat.zero_le _) (fun _ _ => rfl) hK
    · have c2' : ¬ (x : Int) < f + 8 := by omega
      rw [if_neg (fun h => c2 h.2.1), if_neg (fun h => c2 h.2.1), set_self r.blk] at hK
      simp -dsimp (disch := omega) [c2, c2', hb]
      exact RetF.same hwf (by simp) (Nat.zero_le _) (fun _ _ => rfl) hK
  · rw [if_neg (fun h => c1 h.1), if_neg (fun h => c1 h.1), set_self r.blk] at hK
    simp -dsimp (disch := omega) [c1]
    exact RetF.same hwf (by simp) (Nat.zero_le _) (fun _ _ => rfl) hK
end
end Go.Proofs.YtcbagjhbmdmjfaaDoor.Rm
namespace Go.Proofs.YtcbagjhbmdmjfaaDoor.Rm
set_option maxRecDepth 100000
open Go Go.Mini Go.Proofs.Tryd

section
variable {h : Hp} {p b N C : Nat} {M : Nat → Nat} {a : Nat} {w : Int} {K : Value → Hp → Prop}

theorem Ram.claim {a' : Nat} {w' : Int} (r : Ram h p b N C M a w) (ha : a' < N) : Ram (h.set p ⟨ramC b N C a' w', 1, true⟩) p b N C M a' w' :=
  ⟨blks_set_eq _ _ _, by rw [blks_set_ne _ _ _ _ r.ne]; exact r.row, r.ne, r.plt, r.blt, r.N0, r.N1, ha, r.M8, r.NC⟩
theorem Ram.fill {M' : Nat → Nat} (r : Ram h p b N C M a w) (h8 : ∀ i, M' i < 256) : Ram (h.set b ⟨mem N M', 1, true⟩) p b N C M' a w :=
  ⟨by rw [blks_set_ne _ _ _ _ (Ne.symm r.ne)]; exact r.blk, blks_set_eq _ _ _, r.ne, r.plt, r.blt, r.N0, r.N1, r.a1, h8, r.NC⟩
theorem Ram.mono {h' : Hp} (r : Ram h p b N C M a w) (hn : h.next ≤ h'.next) (hp : h'.blks p = h.blks p) (hb : h'.blks b = h.blks b) : Ram h' p b N C M a w :=
  ⟨by rw [hp]; exact r.blk, by rw [hb]; exact r.row, r.ne, Nat.lt_of_lt_of_le r.plt hn, Nat.lt_of_lt_of_le r.blt hn, r.N0, r.N1, r.a1, r.M8, r.NC⟩
theorem toA_lt {x n : Nat} (ha : a < N) : toA a x n < N := by unfold toA; split <;> omega

theorem ramNew_call {n : Nat} (h1 : 1 ≤ n) (h2 : n ≤ 16) (hK : ∀ h' p b, Ext h h' → h.next ≤ p → h.next ≤ b → Ram h' p b (n * 4096) (n * 4096) (fun _ => 0) 0 0 → K (ptr p) h') : ACall prog 23 [.int .i64 n] h K := by
  refine acallF_of tb0 func23 rfl rfl mixed (by kernel_rfl) fun hwf => ?_
  have c1 : ¬ (n : Int) < 1 := by omega
  have c2 : ¬ 16 < (n : Int) := by omega
  obtain ⟨N, hN⟩ : ∃ N : Nat, N = n * 4096 := ⟨_, rfl⟩
  have hN' : (n : Int) * 4096 = N := by omega
  simp -dsimp (disch := omega) [c1, c2, hN']
  refine mk_row rfl rfl ⟨by unfold ROOM; omega, by unfold ROOM; omega⟩ ?_
  simp -dsimp (disch := omega) [c1, c2, hN']
  rw [show zeroRow #[.int .u8 0] N = mem N (fun _ => 0) from by have := mem_zero N; simpa using this]
  refine RetF.all (r := ptr (h.next + 1)) (by simp) (hK _ _ h.next ((Ext.alloc h _).then_alloc _) (by omega) (Nat.le_refl _) ?_)
  rw [← hN]
  exact ⟨blks_alloc_at _ _ _ (by simp), by rw [blks_alloc_ne _ _ _ (by simp)]; exact blks_alloc_eq _ _, by omega, by simp, by simp; omega, by omega, by omega, by omega, fun _ => by omega, Nat.le_refl _⟩
theorem ramNew_nil {n : Int} (hn : n < 1 ∨ 16 < n) (hK : K (.pointer none) h) : ACall prog 23 [.int .i64 n] h K := by
  refine acallF_of tb0 func23 rfl rfl mixed (by kernel_rfl) fun hwf => ?_
  by_cases c1 : n < 1
  · simp -dsimp (disch := omega) [c1]
    exact RetF.same hwf (by simp) (Nat.zero_le _) (fun _ _ => rfl) hK
  · have c2 : 16 < n := by omega
    simp -dsimp (disch := omega) [c1, c2]
    exact RetF.same hwf (by simp) (Nat.zero_le _) (fun _ _ => rfl) hK

/-- A claim that may be. -/
def cok (N x : Nat) (n : Int) : Prop := (n = 4 ∨ n = 8) ∧ x + n.toNat ≤ N ∧ x % n.toNat = 0
instance (N x : Nat) (n : Int) : Decidable (cok N x n) := by unfold cok; infer_instance

end
end Go.Proofs.YtcbagjhbmdmjfaaDoor.Rm
namespace Go.Proofs.YtcbagjhbmdmjfaaDoor.Rm
set_option maxRecDepth 100000
open Go Go.Mini Go.Proofs.Tryd

/-- Where a part begins. -/
def offA (b N x : Nat) : Addr := ⟨b, if N = x then 0 else x, none⟩
theorem asl_from {b N C x : Nat} {k : IntKind} (hx : x ≤ N) (hC : N ≤ C) : asliceRow ⟨b, 0, none⟩ 1 N (2 * C) (some (.int k x)) none none = some (.slice (some (offA b C x)) (N - x) (2 * (C - x))) := by
  unfold asliceRow
  have e1 : bndD none (2 * C / 2) N = some N := by simp [bndD]
  have e2 : bndD (some (.int k x)) N 0 = some x := by simp [bndD, bnd]; omega
  simp only [e1, e2]
  rw [if_neg (by omega), Nat.mul_div_cancel_left _ (by omega)]
  unfold offA
  by_cases h : C = x
  · rw [if_pos h, if_pos h]
  · rw [if_neg h, if_neg h]; simp
theorem asl_to {b N C x y : Nat} {k k' : IntKind} {z : Int} (hx : x ≤ y) (hy : y ≤ N) (hC : N ≤ C) (hz : z = y) : asliceRow ⟨b, 0, none⟩ 1 N (2 * C) (some (.int k x)) (some (.int k' z)) none = some (.slice (some (offA b C x)) (y - x) (2 * (C - x))) := by
  subst hz
  unfold asliceRow
  have e1 : bndD (some (.int k' y)) (2 * C / 2) N = some y := by simp [bndD, bnd]; omega
  have e2 : bndD (some (.int k x)) y 0 = some x := by simp [bndD, bnd]; omega
  simp only [e1, e2]
  rw [if_neg (by omega), Nat.mul_div_cancel_left _ (by omega)]
  unfold offA
  by_cases h : C = x
  · rw [if_pos h, if_pos h]
  · rw [if_neg h, if_neg h]; simp
theorem rowAt_mem {h : Hp} {b N C x n : Nat} {M : Nat → Nat} (hb : h.blks b = some ⟨mem N M, 1, true⟩) (hx : x + n ≤ N) (hC : N ≤ C) : Mini.rowAt h (offA b C x) (n * 1) = some (mem n fun i => M (x + i)) := by
  unfold Mini.rowAt offA
  simp only [hb, Nat.mul_one]
  by_cases h : C = x
  · rw [if_pos h]
    have : n = 0 := by omega
    subst this
    rw [if_pos (by simp)]
    congr 1
    exact (mem_extract N M 0 0 (by omega)).trans (mem_congr fun i hi => by omega)
  · rw [if_neg h]
    rw [if_pos (by simp; omega), mem_extract _ _ _ _ hx]

theorem lay_nil (M : Nat → Nat) (o : Nat) : lay M o [] = M := by
  funext i
  unfold lay
  rw [if_neg (by simp)]
theorem lay_lt {M : Nat → Nat} {o : Nat} {l : List UInt8} (h : ∀ i, M i < 256) : ∀ i, lay M o l i < 256 := fun i => by
  unfold lay
  split
  · have := UInt8.toNat_lt (((l[i - o]?).getD 0)); omega
  · exact h i
theorem acopy_part {h : Hp} {b N C x c : Nat} {M : Nat → Nat} {l : List UInt8} {K : Value → Hp → Prop} {u : Tag K} (hb : h.blks b = some ⟨mem N M, 1, true⟩) (hx : x + l.length ≤ N) (hC : N ≤ C) (hK : K (.int .i64 l.length) (h.set b ⟨mem N (lay M x l), 1, true⟩)) : OptF (acopy h 1 (.slice (some (offA b C x)) (N - x) c) (.string (txt l))) K u := by
  have hs : srcCells h 1 (.string (txt l)) = some (l.length, (l.map byteV).toArray) := by unfold srcCells; simp; rfl
  unfold offA
  by_cases h0 : C = x
  · have hl : l = [] := List.length_eq_zero_iff.1 (by omega)
    subst hl
    rw [if_pos h0]
    refine acopy_mem (l := []) (n := 0) hb hs (by simp) (by omega) ?_
    rw [lay_nil] at hK
    rw [List.take_nil, lay_nil]
    simpa using hK
  · rw [if_neg h0]
    refine acopy_mem (l := l) (n := l.length) hb hs (by omega) (by omega) ?_
    rw [List.take_length]
    exact hK

section
variable {h : Hp} {p b N C : Nat} {M : Nat → Nat} {a : Nat} {w : Int} {K : Value → Hp → Prop}

theorem put_call {x : Nat} {l : List UInt8} (r : Ram h p b N C M a w) (hl : l.length < 9223372036854775808) (hK1 : x + l.length ≤ N → K (.int .i64 0) ((h.set b ⟨mem N (lay M x l), 1, true⟩).set p ⟨ramC b N C (toA a x l.length) (toW a w x l.length), 1, true⟩)) (hK2 : ¬ x + l.length ≤ N → K (.int .i64 6) h) : ACall prog 24 [ptr p, .int .u64 x, .string (txt l)] h K := by
  refine acallF_of tb0 func24 rfl rfl mixed (by kernel_rfl) fun hwf => ?_
  have hb := r.blk'
  obtain ⟨n, hn⟩ : ∃ n, n = l.length := ⟨_, rfl⟩
  rw [← hn] at hl hK1 hK2
  have hz : (txt l).size = n := by rw [hn]; rfl
  simp -dsimp (disch := omega) [hb, hz]
  refine is_call r ?_
  simp -dsimp (disch := omega) [hb]
  refine there_call r ?_
  by_cases hx : x + n ≤ N
  · have e1 := @asl_from b N C x .u64 (by omega) r.NC
    simp -dsimp (disch := omega) [hb, hx, e1]
    refine acopy_part r.row (by omega) r.NC ?_
    simp -dsimp (disch := omega) [hb, hx]
    refine touch_call (r.fill (lay_lt r.M8)) hx ?_
    simp -dsimp (disch := omega) [hb]
    exact RetF.all (by simp) (hK1 hx)
  · simp -dsimp (disch := omega) [hb, hx]
    exact RetF.same hwf (by simp) (Nat.zero_le _) (fun _ _ => rfl) (hK2 hx)

theorem bytes_call {x n : Nat} (r : Ram h p b N C M a w) (hK1 : x + n ≤ N → K (.tuple #[.string (txt (bytesM M x n)), .int .i64 0]) h) (hK2 : ¬ x + n ≤ N → K (.tuple #[.string (txt []), .int .i64 6]) h) : ACall prog 26 [ptr p, .int .u64 x, .int .u64 n] h K := by
  refine acallF_of tb0 func26 rfl rfl mixed (by kernel_rfl) fun hwf => ?_
  have hb := r.blk'
  have h1 := r.N1
  have hr := r.row
  simp -dsimp (disch := omega) [hb]
  refine is_call r ?_
  simp -dsimp (disch := omega) [hb]
  refine there_call r ?_
  by_cases hx : x + n ≤ N
  · have e1 := @asl_to b N C x (x + n) .u64 .u64 (x + n) (by omega) hx r.NC (by omega)
    simp -dsimp (disch := omega) [hb, hx, hr, e1]
    have e2 : mem n (fun i => M (x + i)) = ((bytesM M x n).map byteV).toArray := by
      rw [mem_bytes (fun i => r.M8 (x + i))]
      congr 2
      unfold bytesM
      simp
    have hrow := rowAt_mem hr hx r.NC
    rw [e2, Nat.mul_one] at hrow
    have hrow' : rowB (h.blks (offA b C x).block) (offA b C x).off n = some ((bytesM M x n).map byteV).toArray := by simpa using hrow
    rw [hrow', ofBytes_row]
    simp -dsimp (disch := omega)
    exact RetF.same hwf (by simp) (Nat.zero_le _) (fun _ _ => rfl) (hK1 hx)
  · simp -dsimp (disch := omega) [hb, hx]
    exact RetF.same hwf (by simp) (Nat.zero_le _) (fun _ _ => rfl) (hK2 hx)
end
end Go.Proofs.YtcbagjhbmdmjfaaDoor.Rm
namespace Go.Proofs.YtcbagjhbmdmjfaaDoor.Rm
set_option maxRecDepth 100000
open Go Go.Mini Go.Proofs.Tryd

/-- A number that is laid down. -/
def wr (M : Nat → Nat) (x v n : Nat) : Nat → Nat := fun i => if x ≤ i ∧ i < x + n then v / 256 ^ (i - x) % 256 else M i
theorem wr_zero (M : Nat → Nat) (x v : Nat) : wr M x v 0 = M := by
  funext i; unfold wr; rw [if_neg (by omega)]
theorem wr_succ (M : Nat → Nat) (x v n : Nat) : upd1 (wr M x v n) (x + n) (v / 256 ^ n % 256) = wr M x v (n + 1) := by
  funext i
  unfold wr upd1
  by_cases h : i = x + n
  · subst h; rw [if_pos rfl, if_pos (by omega), Nat.add_sub_cancel_left]
  · rw [if_neg h]
    show (if x ≤ i ∧ i < x + n then v / 256 ^ (i - x) % 256 else M i) = _
    by_cases h' : x ≤ i ∧ i < x + n
    · rw [if_pos h', if_pos (by omega)]
    · rw [if_neg h', if_neg (by omega)]
theorem wr_lt {M : Nat → Nat} {x v n : Nat} (h : ∀ i, M i < 256) : ∀ i, wr M x v n i < 256 := fun i => by
  unfold wr; split
  · omega
  · exact h i
/-- A number that stands there. -/
def leN (M : Nat → Nat) : Nat → Nat → Nat
  | _, 0 => 0
  | x, n + 1 => leN M (x + 1) n * 256 + M x
theorem leN_lt {M : Nat → Nat} (h : ∀ i, M i < 256) (n : Nat) : ∀ x, leN M x n < 256 ^ n := by
  induction n with
  | zero => intro x; simp [leN]
  | succ n ih => intro x; have := ih (x + 1); have := h x; rw [leN, Nat.pow_succ]; omega
theorem shr8 (v k : Nat) (hk : k < 8) : IntKind.u8.wrap ((v : Int).fdiv (2 ^ (min (8 * (k : Int)).toNat 64))) = ((v / 256 ^ k % 256 : Nat) : Int) := by
  rw [show min (8 * (k : Int)).toNat 64 = 8 * k from by omega, IntKind.wrap_u8, Int.fdiv_eq_ediv_of_nonneg _ (Int.le_of_lt (Int.pow_pos (by omega))), Int.pow_mul, show (2 : Int) ^ 8 = 256 from rfl]
  rw [Int.natCast_emod, Int.natCast_ediv, Int.natCast_pow]
  rfl
theorem or8 (v m : Nat) (hm : m < 256) (hv : v < 72057594037927936) (ty : TypeId) (xo yo : Operand) : abin prog .or ty xo yo (.int .u64 (IntKind.u64.wrap ((v : Int) * 2 ^ min 8 IntKind.u64.bits))) (.int .u64 m) = some (.int .u64 ((v * 256 + m : Nat) : Int)) := by
  have e0 : IntKind.u64.wrap ((v : Int) * 2 ^ min 8 IntKind.u64.bits) = (v : Int) * 256 := by
    show IntKind.u64.wrap ((v : Int) * 256) = _
    exact IntWalk.u64_in _ (by omega)
  rw [abin_or, e0]
  have hor : v * 256 ||| m = v * 256 + m := by
    have := Nat.shiftLeft_add_eq_or_of_lt (show m < 2 ^ 8 by omega) v
    rw [Nat.shiftLeft_eq] at this
    exact this.symm
  have e : (v : Int) * 256 = ((v * 256 : Nat) : Int) := by omega
  have t1 : (BitVec.ofInt 64 ((v * 256 : Nat) : Int) ||| BitVec.ofInt 64 (m : Int)).toNat = v * 256 + m := by
    rw [BitVec.toNat_or, BitVec.ofInt_natCast, BitVec.ofInt_natCast, BitVec.toNat_ofNat, BitVec.toNat_ofNat, Nat.mod_eq_of_lt (by omega), Nat.mod_eq_of_lt (by omega), hor]
  rw [e, show IntKind.u64.bits = 64 from rfl, t1, IntWalk.u64_in _ (by omega)]
def ivS : Value → Nat | .int _ i => (i + 1).toNat | _ => 0

section
variable {h : Hp} {p b N C : Nat} {M : Nat → Nat} {a : Nat} {w : Int} {K : Value → Hp → Prop}

end
end Go.Proofs.YtcbagjhbmdmjfaaDoor.Rm
namespace Go.Proofs.YtcbagjhbmdmjfaaDoor.Rm
set_option maxRecDepth 100000
open Go Go.Mini Go.Proofs.Tryd
section
variable {h : Hp} {p b N C : Nat} {M : Nat → Nat} {a : Nat} {w : Int} {K : Value → Hp → Prop}
theorem clear_call (r : Ram h p b N C M a w) (hK : K (.tuple #[]) ((h.set b ⟨mem N (fun _ => 0), 1, true⟩).set p ⟨ramC b N C (toA a 0 N) (toW a w 0 N), 1, true⟩)) : ACall prog 54 [ptr p] h K := by
  refine acallF_of tb0 func54 rfl rfl mixed (by kernel_rfl) fun hwf => ?_
  have hb := r.blk'
  simp -dsimp (disch := omega) [hb]
  refine is_call r ?_
  simp -dsimp (disch := omega) [hb]
  refine aclear_mem r.N0 r.row ?_
  simp -dsimp (disch := omega) [hb]
  refine size_call (r.fill fun _ => by omega) ?_
  simp -dsimp (disch := omega) [hb]
  refine touch_call (x := 0) (r.fill fun _ => by omega) (by omega) ?_
  simp -dsimp (disch := omega) [hb]
  exact RetF.all (by simp) hK
end
end Go.Proofs.YtcbagjhbmdmjfaaDoor.Rm
