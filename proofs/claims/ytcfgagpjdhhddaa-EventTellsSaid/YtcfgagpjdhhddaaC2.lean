/-
  The bytes of numbers.
-/
import Derived.Test.YtcfgagpjdhhddaaC1
set_option linter.unusedSimpArgs false
set_option linter.unusedVariables false
set_option linter.unusedSectionVars false
namespace Go.Proofs.Ytcfgagpjdhhddaa
open Go Go.Mini Go.Proofs.Try

theorem bAt_range (S : ByteArray) (k : Nat) : 0 ≤ bAt S k ∧ bAt S k ≤ 255 := by
  unfold bAt
  have := UInt8.toNat_lt ((S.data.toList[k]?).getD 0)
  omega
def digAt (N : Int) (i : Nat) : UInt8 := UInt8.ofNat (N / 256 ^ i % 256).toNat
def digs (N : Int) (w : Nat) : List UInt8 := (List.range w).map (digAt N)
theorem digs_zero (N : Int) : digs N 0 = [] := rfl
theorem digs_succ (N : Int) (w : Nat) : digs N (w + 1) = digs N w ++ [digAt N w] := by simp [digs, List.range_succ]
theorem digs_length (N : Int) (w : Nat) : (digs N w).length = w := by simp [digs]
theorem ofNat_toNat (x : Int) (h : 0 ≤ x ∧ x < 256) : ((UInt8.ofNat x.toNat).toNat : Int) = x := by
  rw [UInt8.toNat_ofNat']; omega
theorem byteV_dig (N : Int) (i : Nat) : byteV (digAt N i) = .int .u8 (N / 256 ^ i % 256) := by
  unfold byteV digAt; rw [ofNat_toNat _ (by omega)]
theorem wideF_range (x : Int) : 1 ≤ wideF x ∧ wideF x ≤ 8 := by unfold wideF; split <;> split at * <;> omega
theorem div256 (N : Int) (k : Nat) : N / 256 ^ k / 256 = N / 256 ^ (k + 1) := by
  rw [Int.pow_succ, Int.ediv_ediv_of_nonneg (by exact Int.pow_nonneg (by omega))]
theorem div256_range (N : Int) (k : Nat) (h : 0 ≤ N ∧ N ≤ 18446744073709551615) : 0 ≤ N / 256 ^ k ∧ N / 256 ^ k ≤ 18446744073709551615 := by
  have hp : (0 : Int) < 256 ^ k := Int.pow_pos (by omega)
  refine ⟨Int.ediv_nonneg h.1 (by omega), Int.le_trans (Int.ediv_le_self _ h.1) h.2⟩

theorem refBytes_call {N w : Int} {h : Hp} {K : Value → Hp → Prop} (hN : 0 ≤ N ∧ N ≤ 18446744073709551615) (hK : K (.string (txt (digs N (wideF w).toNat))) h) : ACall prog 32 [.int .u64 N, .int .i64 w] h K := by
  refine acallF_of tb0 func32 rfl rfl mixed (by kernel_rfl) fun hwf => ?_
  simp -dsimp (disch := omega)
  have hw := wideF_range w
  refine awp_loop (fun t h' => h.next ≤ h'.next ∧ (∀ i, i < h.next → h'.blks i = h.blks i) ∧ ∃ k : Nat, t 1 = .int .i64 w ∧ t 6 = .int .i64 k ∧ t 5 = .string (txt (digs N k)) ∧ t 0 = .int .u64 (N / 256 ^ k) ∧ k ≤ (wideF w).toNat) (fun t _ => 8 - ivN (t 6)) ?_ ?_
  · simp -dsimp
    exact ⟨0, rfl, rfl, by simp, Nat.zero_le _⟩
  · rintro t h' ⟨hn, hs, k, h1, h6, h5, h0, hk⟩
    have b1 := div256_range N k hN
    refine vcF_sound mixed (tb := tb0) _ (by kernel_rfl) ?_
    simp -dsimp (disch := omega) [h0, h1, h6, h5]
    refine refWidth_call ?_
    simp -dsimp (disch := omega) [h0, h1, h6, h5]
    refine CondF_dec (fun hc => ?_) (fun hc => ?_)
    · have hsz : ((digs N k).length : Int) ≤ 8 := by rw [digs_length]; omega
      simp -dsimp (disch := first | omega | (simp; omega)) [h0, h1, h6, h5]
      refine ⟨⟨by omega, fun i hi => ?_, ⟨k + 1, by simp, ?_, (div256 N k), by omega⟩⟩, ?_⟩
      · rw [if_neg (by omega)]; exact hs i hi
      · rw [digs_succ]; rfl
      · simp [ivN]; omega
    · have : k = (wideF w).toNat := by omega
      subst this
      simp -dsimp (disch := omega) [h0, h1, h6, h5]
      exact RetF.same hwf (by simp [h5]) (Nat.zero_le _) hs hK

/-! ### Put -/
def putL (l : List (Int × Int)) : List UInt8 := l.flatMap fun f => digs f.1 (wideF f.2).toNat
theorem putL_length (l : List (Int × Int)) : (putL l).length ≤ 8 * l.length := by
  induction l with
  | nil => simp [putL]
  | cons f l ih =>
    have := wideF_range f.2
    simp only [putL, List.flatMap_cons, List.length_append, digs_length, List.length_cons] at ih ⊢
    omega
def fldCells (l : List (Int × Int)) : List Value := l.flatMap fun f => [.int .u64 f.1, .int .i64 f.2]
theorem fldCells_length (l : List (Int × Int)) : (fldCells l).length = 2 * l.length := by
  induction l with
  | nil => rfl
  | cons f l ih => simp only [fldCells, List.flatMap_cons, List.length_append, List.length_cons, List.length_nil] at ih ⊢; omega
theorem fldCells_at (l : List (Int × Int)) : ∀ (k : Nat) (f : Int × Int), l[k]? = some f → (fldCells l)[2 * k]? = some (.int .u64 f.1) ∧ (fldCells l)[2 * k + 1]? = some (.int .i64 f.2) := by
  induction l with
  | nil => intro k f h; simp at h
  | cons g l ih =>
    intro k f h
    cases k with
    | zero => simp only [List.getElem?_cons_zero, Option.some.injEq] at h; subst h; exact ⟨rfl, rfl⟩
    | succ k =>
      have := ih k f (by simpa using h)
      rw [show 2 * (k + 1) = 2 * k + 1 + 1 from by omega]
      simpa [fldCells] using this
theorem shr_dig (N : Int) (i : Nat) (hN : 0 ≤ N) (hi : i < 8) : IntKind.u8.wrap (N.fdiv (2 ^ (min (8 * (i : Int)).toNat 64))) = N / 256 ^ i % 256 := by
  rw [show min (8 * (i : Int)).toNat 64 = 8 * i from by omega, IntKind.wrap_u8, Int.fdiv_eq_ediv_of_nonneg _ (Int.le_of_lt (Int.pow_pos (by omega))), Int.pow_mul, show (2 : Int) ^ 8 = 256 from rfl]

end Go.Proofs.Ytcfgagpjdhhddaa
