/-
  The small functions of the codec. Sums of texts. The bytes of numbers. Put. Sources: what is taken, and where they stand. The document's sources, and what is taken of a text. Sums: the plain law.
-/
import Derived.Test.YtmnemfeofhinaaaDoorF
set_option linter.unusedSimpArgs false
set_option linter.unusedVariables false
set_option linter.unusedSectionVars false

namespace Go.Proofs.YtmnemfeofhinaaaDoor
open Go Go.Mini Go.Proofs.Tryd

def tb0 : Nat → Marks := fun _ => ⟨[], fun _ => True⟩
@[simp] theorem tb0_l (k : Nat) : (tb0 k).l = [] := id rfl

def wideF (x : Int) : Int := if 8 < (if x < 1 then 1 else x) then 8 else (if x < 1 then 1 else x)

theorem wide_call {x : Int} {h : Hp} {K : Value → Hp → Prop} (hK : K (.int .i64 (wideF x)) h) : ACall prog 66 [.int .i64 x] h K := by
  refine acallF_of tb0 func66 rfl rfl mixed (by kernel_rfl) fun hwf => ?_
  simp -dsimp (disch := omega)
  exact RetF.same hwf (by simp [wideF]) (Nat.zero_le _) (fun _ _ => rfl) hK
theorem refWidth_call {x : Int} {h : Hp} {K : Value → Hp → Prop} (hK : K (.int .i64 (wideF x)) h) : ACall prog 76 [.int .i64 x] h K := by
  refine acallF_of tb0 func76 rfl rfl mixed (by kernel_rfl) fun hwf => ?_
  simp -dsimp (disch := omega)
  refine CondF_dec (fun h1 => ?_) (fun h1 => ?_)
  · simp -dsimp (disch := omega)
    exact RetF.same hwf (by simp [wideF, h1]) (Nat.zero_le _) (fun _ _ => rfl) hK
  · simp -dsimp (disch := omega)
    refine CondF_dec (fun h2 => ?_) (fun h2 => ?_)
    · simp -dsimp (disch := omega)
      exact RetF.same hwf (by simp [wideF, h1, h2]) (Nat.zero_le _) (fun _ _ => rfl) hK
    · simp -dsimp (disch := omega)
      exact RetF.same hwf (by simp [wideF, h1, h2]) (Nat.zero_le _) (fun _ _ => rfl) hK
theorem is_nil {h : Hp} {K : Value → Hp → Prop} (hK : K (.bool false) h) : ACall prog 64 [.pointer none] h K := by
  refine acallF_of tb0 func64 rfl rfl mixed (by kernel_rfl) fun hwf => ?_
  simp -dsimp (disch := omega)
  exact RetF.same hwf (by simp) (Nat.zero_le _) (fun _ _ => rfl) hK
theorem is_some {a : Addr} {b : Blk} {f : Fn} {u v : Array Value} {h : Hp} {K : Value → Hp → Prop} (hb : h.blks a.block = some b) (hc : b.cells[a.off]? = some (.func f u v)) (hK : K (.bool true) h) : ACall prog 64 [.pointer (some a)] h K := by
  refine acallF_of tb0 func64 rfl rfl mixed (by kernel_rfl) fun hwf => ?_
  simp -dsimp (disch := omega) [hb, hc]
  exact RetF.same hwf (by simp) (Nat.zero_le _) (fun _ _ => rfl) hK

/-- What a source is, in the heap. -/
def srcB (p q : Nat) (at_ left : Int) (torn : Bool) : Blk := ⟨#[.func (.func 63) #[] #[.pointer (some ⟨p, 0, none⟩), .pointer (some ⟨q, 0, none⟩)], .int .i64 at_, .int .i64 left, .bool torn], 1, true⟩
structure Srce (h : Hp) (s p q : Nat) (S : ByteArray) (at_ left : Int) (torn : Bool) : Prop where
  bs : h.blks s = some (srcB p q at_ left torn)
  bp : h.blks p = some ⟨#[.pointer (some ⟨s, 0, none⟩)], 1, true⟩
  bq : h.blks q = some ⟨#[.string S], 1, true⟩
  ls : s < h.next
  lp : p < h.next
  lq : q < h.next
  ps : p ≠ s
  qs : q ≠ s
  at0 : 0 ≤ at_
  left0 : 0 ≤ left
  sum : at_ + left = S.size
  len : (S.size : Int) ≤ 4611686018427387904

def tb26 (s : Nat) : Nat → Marks := fun k => if k = 4 then ⟨[1, 16], fun j => j ≠ s⟩ else ⟨[], fun _ => True⟩

set_option maxRecDepth 100000 in
theorem take_torn {n : Int} {h : Hp} {s p q : Nat} {S : ByteArray} {at_ left : Int} {torn : Bool} {K : Value → Hp → Prop} (hn : 0 ≤ n) (hs : Srce h s p q S at_ left torn) (ht : torn = true ∨ left < n)
    (hK : K (.tuple #[.string (txt []), .bool false]) (h.set s (srcB p q at_ left true))) : ACall prog 63 [.int .i64 n, .pointer (some ⟨p, 0, none⟩), .pointer (some ⟨q, 0, none⟩)] h K := by
  refine acallF_of (tb26 s) func63 rfl rfl mixed (by kernel_rfl) fun hwf => ?_
  obtain ⟨h1, h2, h3, _, _, _, h4, h5, h6, h7, h8, h9⟩ := hs
  unfold srcB at h1 hK
  cases torn with
  | true =>
    simp -dsimp (disch := omega) [h1, h2, h3, h4, h5, tb26]

    exact RetF.all (by simp) hK
  | false =>
    have : left < n := by simpa using ht
    simp -dsimp (disch := omega) [h1, h2, h3, h4, h5, this, tb26]
    exact RetF.all (by simp) hK
set_option maxRecDepth 100000 in
theorem take_fine {n : Int} {h : Hp} {s p q : Nat} {S : ByteArray} {at_ left : Int} {K : Value → Hp → Prop} (hn : 0 ≤ n) (hs : Srce h s p q S at_ left false) (ht : n ≤ left)
    (hK : K (.tuple #[.string (S.extract at_.toNat (at_ + n).toNat), .bool true]) (h.set s (srcB p q (at_ + n) (left - n) false))) : ACall prog 63 [.int .i64 n, .pointer (some ⟨p, 0, none⟩), .pointer (some ⟨q, 0, none⟩)] h K := by
  refine acallF_of (tb26 s) func63 rfl rfl mixed (by kernel_rfl) fun hwf => ?_
  obtain ⟨h1, h2, h3, _, _, _, h4, h5, h6, h7, h8, h9⟩ := hs
  unfold srcB at h1 hK
  have : ¬ left < n := by omega
  simp -dsimp (disch := omega) [h1, h2, h3, h4, h5, this, tb26]
  refine RetF.all (r := .tuple #[.string (S.extract at_.toNat (at_ + n).toNat), .bool true]) ?_ hK
  simp

theorem Srce.next {h : Hp} {s p q : Nat} {S : ByteArray} {at_ left at' left' : Int} {torn torn' : Bool} (hs : Srce h s p q S at_ left torn) (h1 : 0 ≤ at') (h2 : 0 ≤ left') (h3 : at' + left' = S.size) : Srce (h.set s (srcB p q at' left' torn')) s p q S at' left' torn' :=
  ⟨blks_set_eq _ _ _, by rw [blks_set_ne _ _ _ _ hs.ps]; exact hs.bp, by rw [blks_set_ne _ _ _ _ hs.qs]; exact hs.bq, hs.ls, hs.lp, hs.lq, hs.ps, hs.qs, h1, h2, h3, hs.len⟩
theorem Srce.ext {h h' : Hp} {s p q : Nat} {S : ByteArray} {at_ left : Int} {torn : Bool} (hs : Srce h s p q S at_ left torn) (he : Ext h h') : Srce h' s p q S at_ left torn :=
  ⟨by rw [he.same _ hs.ls]; exact hs.bs, by rw [he.same _ hs.lp]; exact hs.bp, by rw [he.same _ hs.lq]; exact hs.bq, Nat.lt_of_lt_of_le hs.ls he.le, Nat.lt_of_lt_of_le hs.lp he.le, Nat.lt_of_lt_of_le hs.lq he.le, hs.ps, hs.qs, hs.at0, hs.left0, hs.sum, hs.len⟩

/-- What a source is behind a take, and what was taken. -/
def nxtA (at_ left : Int) (torn : Bool) (n : Int) : Int := if torn = true ∨ left < n then at_ else at_ + n
def nxtL (left : Int) (torn : Bool) (n : Int) : Int := if torn = true ∨ left < n then left else left - n
def nxtT (left : Int) (torn : Bool) (n : Int) : Bool := if torn = true ∨ left < n then true else false
def got (S : ByteArray) (at_ left : Int) (torn : Bool) (n : Int) : ByteArray := if torn = true ∨ left < n then txt [] else S.extract at_.toNat (at_ + n).toNat
def afterB (p q : Nat) (at_ left : Int) (torn : Bool) (n : Int) : Blk := srcB p q (nxtA at_ left torn n) (nxtL left torn n) (nxtT left torn n)
theorem Srce.after {h : Hp} {s p q : Nat} {S : ByteArray} {at_ left n : Int} {torn : Bool} (hs : Srce h s p q S at_ left torn) (hn : 0 ≤ n) : Srce (h.set s (afterB p q at_ left torn n)) s p q S (nxtA at_ left torn n) (nxtL left torn n) (nxtT left torn n) := by
  have h1 := hs.at0
  have h2 := hs.left0
  have h3 := hs.sum
  refine hs.next ?_ ?_ ?_
  · unfold nxtA; split <;> omega
  · unfold nxtL; split <;> omega
  · unfold nxtA nxtL; split <;> omega
theorem closure_call {n : Int} {h : Hp} {s p q : Nat} {S : ByteArray} {at_ left : Int} {torn : Bool} {K : Value → Hp → Prop} (hn : 0 ≤ n) (hs : Srce h s p q S at_ left torn)
    (hK : K (.tuple #[.string (got S at_ left torn n), .bool (!nxtT left torn n)]) (h.set s (afterB p q at_ left torn n))) : ACall prog 63 [.int .i64 n, .pointer (some ⟨p, 0, none⟩), .pointer (some ⟨q, 0, none⟩)] h K := by
  unfold got afterB nxtA nxtL nxtT at hK
  by_cases hc : torn = true ∨ left < n
  · simp only [if_pos hc] at hK
    exact take_torn hn hs hc hK
  · simp only [if_neg hc] at hK
    have : torn = false := by cases torn <;> simp_all
    subst this
    exact take_fine hn hs (by omega) hK

/-- Text. -/
def cut0 (n : Int) : Int := if n < 0 then 0 else n
theorem text_call {n : Int} {h : Hp} {s p q : Nat} {S : ByteArray} {at_ left : Int} {torn : Bool} {K : Value → Hp → Prop} (hs : Srce h s p q S at_ left torn)
    (hK : K (.string (got S at_ left torn (cut0 n))) (h.set s (afterB p q at_ left torn (cut0 n)))) : ACall prog 29 [.pointer (some ⟨s, 0, none⟩), .int .i64 n] h K := by
  refine acallF_of tb0 func29 rfl rfl mixed (by kernel_rfl) fun hwf => ?_
  have h1 := hs.bs
  unfold srcB at h1
  simp -dsimp (disch := omega)
  refine is_some h1 rfl ?_
  simp -dsimp (disch := omega) [h1]
  have hn : 0 ≤ cut0 n := by unfold cut0; split <;> omega
  rw [show (if 0 > n then 0 else n) = cut0 n from rfl]
  refine closure_call hn hs ?_
  simp -dsimp (disch := omega)
  exact RetF.all (by simp) hK

end Go.Proofs.YtmnemfeofhinaaaDoor
namespace Go.Proofs.YtmnemfeofhinaaaDoor
open Go Go.Mini Go.Proofs.Tryd

def sumTo (S : ByteArray) : Nat → Int
  | 0 => 1
  | k + 1 => (31 * sumTo S k + bAt S k) % 4294967296
theorem bAt_range (S : ByteArray) (k : Nat) : 0 ≤ bAt S k ∧ bAt S k ≤ 255 := by
  unfold bAt
  have := UInt8.toNat_lt ((S.data.toList[k]?).getD 0)
  omega
theorem sumTo_range (S : ByteArray) (k : Nat) : 0 ≤ sumTo S k ∧ sumTo S k ≤ 4294967295 := by
  cases k <;> simp only [sumTo] <;> omega

theorem sum_call {S : ByteArray} {h : Hp} {K : Value → Hp → Prop} (hl : (S.size : Int) ≤ 4611686018427387904) (hK : K (.int .u32 (sumTo S S.size)) h) : ACall prog 40 [.string S] h K := by
  refine acallF_of tb0 func40 rfl rfl mixed (by kernel_rfl) fun hwf => ?_
  simp -dsimp (disch := omega)
  refine awp_loop (fun t h' => h' = h ∧ ∃ k : Nat, t 0 = .string S ∧ t 7 = .int .i64 k ∧ t 6 = .int .i64 S.size ∧ t 3 = .int .u32 (sumTo S k) ∧ k ≤ S.size) (fun t _ => S.size - ivN (t 7)) ?_ ?_
  · simp -dsimp
    exact ⟨0, rfl, rfl, Nat.zero_le _⟩
  · rintro t _ ⟨rfl, k, h0, h7, h6, h3, hk⟩
    refine vcF_sound mixed (tb := tb0) _ (by kernel_rfl) ?_
    simp -dsimp (disch := omega) [h0, h7, h6, h3]
    refine CondF_dec (fun h1 => ?_) (fun h1 => ?_)
    · have b1 := bAt_range S k
      have b2 := sumTo_range S k
      simp -dsimp (disch := omega) [h0, h7, h6, h3]
      refine ⟨⟨k + 1, by simp, ?_, by omega⟩, ?_⟩
      · simp only [sumTo, IntKind.wrap_u32]; omega
      · simp [ivN]; omega
    · have : k = S.size := by omega
      subst this
      simp -dsimp (disch := omega) [h0, h7, h6, h3]
      exact RetF.same hwf (by simp [h3]) (Nat.zero_le _) (fun _ _ => rfl) hK

theorem refSum_call {S : ByteArray} {h : Hp} {K : Value → Hp → Prop} (hl : (S.size : Int) ≤ 4611686018427387904) (hK : K (.int .u32 (sumTo S S.size)) h) : ACall prog 47 [.string S] h K := by
  refine acallF_of tb0 func47 rfl rfl mixed (by kernel_rfl) fun hwf => ?_
  simp -dsimp (disch := omega)
  refine awp_loop (fun t h' => h' = h ∧ ∃ k : Nat, t 0 = .string S ∧ t 4 = .int .i64 k ∧ t 3 = .int .u64 (sumTo S k) ∧ k ≤ S.size) (fun t _ => S.size - ivN (t 4)) ?_ ?_
  · simp -dsimp
    exact ⟨0, rfl, rfl, Nat.zero_le _⟩
  · rintro t _ ⟨rfl, k, h0, h4, h3, hk⟩
    have b1 := bAt_range S k
    have b2 := sumTo_range S k
    refine vcF_sound mixed (tb := tb0) _ (by kernel_rfl) ?_
    simp -dsimp (disch := omega) [h0, h4, h3]
    refine CondF_dec (fun h1 => ?_) (fun h1 => ?_)
    · simp -dsimp (disch := omega) [h0, h4, h3]
      refine ⟨⟨k + 1, by simp, ?_, by omega⟩, ?_⟩
      · simp only [sumTo]
      · simp [ivN]; omega
    · have : k = S.size := by omega
      subst this
      simp -dsimp (disch := omega) [h0, h4, h3]
      exact RetF.same hwf (by simp [h3]) (Nat.zero_le _) (fun _ _ => rfl) hK

end Go.Proofs.YtmnemfeofhinaaaDoor
namespace Go.Proofs.YtmnemfeofhinaaaDoor
open Go Go.Mini Go.Proofs.Tryd

def digAt (N : Int) (i : Nat) : UInt8 := UInt8.ofNat (N / 256 ^ i % 256).toNat
def digs (N : Int) (w : Nat) : List UInt8 := (List.range w).map (digAt N)
theorem digs_zero (N : Int) : digs N 0 = [] := rfl
theorem digs_succ (N : Int) (w : Nat) : digs N (w + 1) = digs N w ++ [digAt N w] := by simp [digs, List.range_succ]
theorem digs_length (N : Int) (w : Nat) : (digs N w).length = w := by simp [digs]
theorem ofNat_toNat (x : Int) (h : 0 ≤ x ∧ x < 256) : ((UInt8.ofNat x.toNat).toNat : Int) = x := by
  rw [UInt8.toNat_ofNat']; omega
theorem byteV_dig (N : Int) (i : Nat) : byteV (digAt N i) = .int .u8 (N / 256 ^ i % 256) := by
  unfold byteV digAt; rw [ofNat_toNat _ (by omega)]
theorem wideF_range (x : Int) : 1 ≤ wideF x ∧ wideF x ≤ 8 := by unfold wideF; split <;> split at * <;> omega
theorem div256 (N : Int) (k : Nat) : N / 256 ^ k / 256 = N / 256 ^ (k + 1) := by
  rw [Int.pow_succ, Int.ediv_ediv_of_nonneg (by exact Int.pow_nonneg (by omega))]
theorem div256_range (N : Int) (k : Nat) (h : 0 ≤ N ∧ N ≤ 18446744073709551615) : 0 ≤ N / 256 ^ k ∧ N / 256 ^ k ≤ 18446744073709551615 := by
  have hp : (0 : Int) < 256 ^ k := Int.pow_pos (by omega)
  refine ⟨Int.ediv_nonneg h.1 (by omega), Int.le_trans (Int.ediv_le_self _ h.1) h.2⟩

theorem refBytes_call {N w : Int} {h : Hp} {K : Value → Hp → Prop} (hN : 0 ≤ N ∧ N ≤ 18446744073709551615) (hK : K (.string (txt (digs N (wideF w).toNat))) h) : ACall prog 56 [.int .u64 N, .int .i64 w] h K := by
  refine acallF_of tb0 func56 rfl rfl mixed (by kernel_rfl) fun hwf => ?_
  simp -dsimp (disch := omega)
  have hw := wideF_range w
  refine awp_loop (fun t h' => h.next ≤ h'.next ∧ (∀ i, i < h.next → h'.blks i = h.blks i) ∧ ∃ k : Nat, t 1 = .int .i64 w ∧ t 6 = .int .i64 k ∧ t 5 = .string (txt (digs N k)) ∧ t 0 = .int .u64 (N / 256 ^ k) ∧ k ≤ (wideF w).toNat) (fun t _ => 8 - ivN (t 6)) ?_ ?_
  · simp -dsimp
    exact ⟨0, rfl, rfl, by simp, Nat.zero_le _⟩
  · rintro t h' ⟨hn, hs, k, h1, h6, h5, h0, hk⟩
    have b1 := div256_range N k hN
    refine vcF_sound mixed (tb := tb0) _ (by kernel_rfl) ?_
    simp -dsimp (disch := omega) [h0, h1, h6, h5]
    refine refWidth_call ?_
    simp -dsimp (disch := omega) [h0, h1, h6, h5]
    refine CondF_dec (fun hc => ?_) (fun hc => ?_)
    · have hsz : ((digs N k).length : Int) ≤ 8 := by rw [digs_length]; omega
      simp -dsimp (disch := first | omega | (simp; omega)) [h0, h1, h6, h5]
      refine ⟨⟨by omega, fun i hi => ?_, ⟨k + 1, by simp, ?_, (div256 N k), by omega⟩⟩, ?_⟩
      · rw [if_neg (by omega)]; exact hs i hi
      · rw [digs_succ]; rfl
      · simp [ivN]; omega
    · have : k = (wideF w).toNat := by omega
      subst this
      simp -dsimp (disch := omega) [h0, h1, h6, h5]
      exact RetF.same hwf (by simp [h5]) (Nat.zero_le _) hs hK

/-! ### Put -/
def putL (l : List (Int × Int)) : List UInt8 := l.flatMap fun f => digs f.1 (wideF f.2).toNat
theorem putL_length (l : List (Int × Int)) : (putL l).length ≤ 8 * l.length := by
  induction l with
  | nil => simp [putL]
  | cons f l ih =>
    have := wideF_range f.2
    simp only [putL, List.flatMap_cons, List.length_append, digs_length, List.length_cons] at ih ⊢
    omega
def fldCells (l : List (Int × Int)) : List Value := l.flatMap fun f => [.int .u64 f.1, .int .i64 f.2]
theorem fldCells_length (l : List (Int × Int)) : (fldCells l).length = 2 * l.length := by
  induction l with
  | nil => rfl
  | cons f l ih => simp only [fldCells, List.flatMap_cons, List.length_append, List.length_cons, List.length_nil] at ih ⊢; omega
theorem fldCells_at (l : List (Int × Int)) : ∀ (k : Nat) (f : Int × Int), l[k]? = some f → (fldCells l)[2 * k]? = some (.int .u64 f.1) ∧ (fldCells l)[2 * k + 1]? = some (.int .i64 f.2) := by
  induction l with
  | nil => intro k f h; simp at h
  | cons g l ih =>
    intro k f h
    cases k with
    | zero => simp only [List.getElem?_cons_zero, Option.some.injEq] at h; subst h; exact ⟨rfl, rfl⟩
    | succ k =>
      have := ih k f (by simpa using h)
      rw [show 2 * (k + 1) = 2 * k + 1 + 1 from by omega]
      simpa [fldCells] using this
theorem shr_dig (N : Int) (i : Nat) (hN : 0 ≤ N) (hi : i < 8) : IntKind.u8.wrap (N.fdiv (2 ^ (min (8 * (i : Int)).toNat 64))) = N / 256 ^ i % 256 := by
  rw [show min (8 * (i : Int)).toNat 64 = 8 * i from by omega, IntKind.wrap_u8, Int.fdiv_eq_ediv_of_nonneg _ (Int.le_of_lt (Int.pow_pos (by omega))), Int.pow_mul, show (2 : Int) ^ 8 = 256 from rfl]

end Go.Proofs.YtmnemfeofhinaaaDoor
namespace Go.Proofs.YtmnemfeofhinaaaDoor
open Go Go.Mini Go.Proofs.Tryd

theorem take_snoc {α : Type} {l : List α} {k : Nat} {f : α} (hf : l[k]? = some f) : l.take (k + 1) = l.take k ++ [f] := by
  rw [List.take_add_one, hf]; rfl
theorem putL_snoc (l : List (Int × Int)) (f : Int × Int) : Go.Proofs.YtmnemfeofhinaaaDoor.putL (l ++ [f]) = Go.Proofs.YtmnemfeofhinaaaDoor.putL l ++ digs f.1 (wideF f.2).toNat := by
  simp [Go.Proofs.YtmnemfeofhinaaaDoor.putL]

set_option maxRecDepth 100000 in
theorem put_call {l : List (Int × Int)} {v : Value} {h : Hp} {K : Value → Hp → Prop} (hv : Sl h 2 l.length (fldCells l) v) (hl : l.length ≤ 1000000) (hr : ∀ f ∈ l, 0 ≤ f.1 ∧ f.1 ≤ 18446744073709551615)
    (hK : K (.string (txt (Go.Proofs.YtmnemfeofhinaaaDoor.putL l))) h) : ACall prog 51 [v] h K := by
  refine acallF_of tb0 func51 rfl rfl mixed (by kernel_rfl) fun hwf => ?_
  have hlen := hv.slice
  have hvb := sblk_lt (hwf.args v (by simp))
  obtain ⟨va, vc, rfl⟩ := hlen
  simp -dsimp (disch := omega)
  refine awp_loop (fun t h' => h.next ≤ h'.next ∧ (∀ i, i < h.next → h'.blks i = h.blks i) ∧ ∃ k : Nat, t 7 = .slice va l.length vc ∧ t 8 = .int .i64 l.length ∧ t 9 = .int .i64 k ∧ k ≤ l.length ∧
    Row h.next h' 1 (Go.Proofs.YtmnemfeofhinaaaDoor.putL (l.take k)).length ((Go.Proofs.YtmnemfeofhinaaaDoor.putL (l.take k)).map byteV) (t 3)) (fun t _ => l.length - ivN (t 9)) ?_ ?_
  · simp -dsimp
    exact ⟨0, rfl, Nat.zero_le _, Row.nil _ _ _⟩
  · rintro t h' ⟨hn, hs, k, h7, h8, h9, hk, hrow⟩
    refine vcF_sound mixed (tb := tb0) _ (by kernel_rfl) ?_
    simp -dsimp (disch := omega) [h7, h8, h9]
    refine CondF_dec (fun hc => ?_) (fun hc => ?_)
    · have hkl : k < l.length := by omega
      obtain ⟨f, hf⟩ : ∃ f, l[k]? = some f := ⟨l[k], by simp [hkl]⟩
      have hfr := hr f (List.mem_of_getElem? hf)
      obtain ⟨_, ⟨_, c, e, h0⟩ | ⟨a, c, b, e, hb, hbs, hbc⟩⟩ := hv
      · omega
      cases e
      have hab := hvb _ rfl
      obtain ⟨c1, c2⟩ := fldCells_at l k f hf
      have hx : b.cells.extract (a.off + k * 2) (a.off + k * 2 + 2) = #[.int .u64 f.1, .int .i64 f.2] := by
        have e1 := hbc (k * 2) (by omega)
        have e2 := hbc (k * 2 + 1) (by omega)
        rw [Nat.mul_comm k 2] at e1 e2
        rw [Nat.mul_comm k 2]
        exact extract2 (e1.trans c1) (e2.trans c2)
      have hb' : h'.blks a.block = some b := by rw [hs _ hab]; exact hb
      have hw := wideF_range f.2
      have hsz : a.off + k * 2 + 2 ≤ b.cells.size := by omega
      simp -dsimp (disch := omega) [h7, h8, h9, hb', hx, hsz]
      refine wide_call ?_
      simp -dsimp (disch := omega) [h7, h8, h9]
      refine awp_loop (fun t h2 => h'.next < h2.next ∧ (∀ i, i < h.next → h2.blks i = h.blks i) ∧ h2.blks h'.next = some ⟨#[.int .u64 f.1, .int .i64 f.2], 1, true⟩ ∧ sblk (t 3) ≠ some h'.next ∧ ∃ i : Nat, t 7 = .slice (some a) l.length vc ∧ t 8 = .int .i64 l.length ∧ t 9 = .int .i64 k ∧ t 5 = .pointer (some ⟨h'.next, 0, none⟩) ∧ t 15 = .int .i64 (wideF f.2) ∧ t 16 = .int .i64 i ∧ i ≤ (wideF f.2).toNat ∧
        Row h.next h2 1 (Go.Proofs.YtmnemfeofhinaaaDoor.putL (l.take k) ++ digs f.1 i).length ((Go.Proofs.YtmnemfeofhinaaaDoor.putL (l.take k) ++ digs f.1 i).map byteV) (t 3)) (fun t _ => 8 - ivN (t 16)) ?_ ?_
      · simp -dsimp
        exact ⟨fun i hi => by rw [if_neg (by omega)]; exact hs i hi, fun e => by have := (hrow.blk _ e).2; omega, h7, h8, h9, 0, rfl, Nat.zero_le _, by simpa [digs_zero] using hrow.alloc _⟩
      · rintro t2 h2 ⟨hn2, hs2, hf2, hd2, i, g7, g8, g9, g5, g15, g16, hi, hrow2⟩
        refine vcF_sound mixed (tb := tb0) _ (by kernel_rfl) ?_
        simp -dsimp (disch := omega) [g7, g8, g9, g5, g15, g16]
        refine CondF_dec (fun hc2 => ?_) (fun hc2 => ?_)
        · have e1 : IntKind.u8.wrap (f.1.fdiv (2 ^ (min (8 * (i : Int)).toNat IntKind.u64.bits))) = f.1 / 256 ^ i % 256 := shr_dig f.1 i hfr.1 (by omega)
          simp -dsimp (disch := omega) [g7, g8, g9, g5, g15, g16, hf2, e1]
          have r1 : (Go.Proofs.YtmnemfeofhinaaaDoor.putL (l.take k) ++ digs f.1 i).length ≤ 8000008 := by
            have := putL_length (l.take k)
            have := List.length_take_le k l
            rw [List.length_append, digs_length]; omega
          refine app_row (hrow2.alloc _) (by simp; omega) (src_slice _ _ _ _ _ #[.int .u8 (f.1 / 256 ^ i % 256)] (by simp)) (by omega) (by simp) (by unfold ROOM; omega) ?_
          intro v' h3 hr3 hn3 hb3 hs3
          simp at hn3 hb3 hs3
          simp -dsimp (disch := omega) [g7, g8, g9, g5, g15, g16]
          have hs4 : ∀ j, j < h2.next → sblk (t2 3) ≠ some j → h3.blks j = h2.blks j := fun j hj hd => by
            rw [hs3 j (by omega) hd, if_neg (by omega)]
          refine ⟨⟨by omega, fun j hj => ?_, ?_, ?_, i + 1, by simp, by omega, ?_⟩, ?_⟩
          · rw [hs4 j (by omega) fun e => by have := (hrow2.blk _ e).1; omega]; exact hs2 j hj
          · rw [hs4 _ hn2 hd2]; exact hf2
          · rw [hb3]; simp; omega
          · rw [digs_succ]
            simpa [byteV_dig, Nat.add_assoc] using hr3
          · simp [ivN]; omega
        · have : i = (wideF f.2).toNat := by omega
          subst this
          simp -dsimp (disch := omega) [g7, g8, g9, g5, g15, g16]
          refine ⟨⟨by omega, hs2, k + 1, by simp, by omega, ?_⟩, ?_⟩
          · rw [take_snoc hf, putL_snoc]; exact hrow2
          · simp [h9, ivN]; omega
    · have : k = l.length := by omega
      subst this
      rw [List.take_length] at hrow
      simp -dsimp (disch := omega) [h7, h8, h9]
      refine conv_row hrow ?_
      simp -dsimp (disch := omega) [h7, h8, h9]
      exact RetF.same hwf (by simp) (Nat.zero_le _) hs hK

end Go.Proofs.YtmnemfeofhinaaaDoor
namespace Go.Proofs.YtmnemfeofhinaaaDoor
open Go Go.Mini Go.Proofs.Tryd

set_option maxRecDepth 100000 in
theorem at_call {h : Hp} {s p q : Nat} {S : ByteArray} {at_ left : Int} {torn : Bool} {K : Value → Hp → Prop} (hs : Srce h s p q S at_ left torn) (hK : K (.int .i64 at_) h) : ACall prog 38 [.pointer (some ⟨s, 0, none⟩)] h K := by
  refine acallF_of tb0 func38 rfl rfl mixed (by kernel_rfl) fun hwf => ?_
  have h1 := hs.bs
  unfold srcB at h1
  simp -dsimp (disch := omega)
  refine is_some h1 rfl ?_
  simp -dsimp (disch := omega) [h1]
  exact RetF.same hwf (by simp) (Nat.zero_le _) (fun _ _ => rfl) hK
set_option maxRecDepth 100000 in
theorem left_call {h : Hp} {s p q : Nat} {S : ByteArray} {at_ left : Int} {torn : Bool} {K : Value → Hp → Prop} (hs : Srce h s p q S at_ left torn) (hK : K (.int .i64 left) h) : ACall prog 41 [.pointer (some ⟨s, 0, none⟩)] h K := by
  refine acallF_of tb0 func41 rfl rfl mixed (by kernel_rfl) fun hwf => ?_
  have h1 := hs.bs
  unfold srcB at h1
  simp -dsimp (disch := omega)
  refine is_some h1 rfl ?_
  simp -dsimp (disch := omega) [h1]
  exact RetF.same hwf (by simp) (Nat.zero_le _) (fun _ _ => rfl) hK
set_option maxRecDepth 100000 in
theorem fail_call {h : Hp} {s p q : Nat} {S : ByteArray} {at_ left : Int} {torn : Bool} {K : Value → Hp → Prop} (hs : Srce h s p q S at_ left torn) (hK : K (.int .i64 (if torn = true then 4 else 0)) h) : ACall prog 31 [.pointer (some ⟨s, 0, none⟩)] h K := by
  refine acallF_of tb0 func31 rfl rfl mixed (by kernel_rfl) fun hwf => ?_
  have h1 := hs.bs
  unfold srcB at h1
  simp -dsimp (disch := omega)
  refine is_some h1 rfl ?_
  cases torn
  · simp -dsimp (disch := omega) [h1]
    exact RetF.same hwf (by simp) (Nat.zero_le _) (fun _ _ => rfl) hK
  · simp -dsimp (disch := omega) [h1]
    exact RetF.same hwf (by simp) (Nat.zero_le _) (fun _ _ => rfl) hK
set_option maxRecDepth 100000 in
theorem of_call {S : ByteArray} {h : Hp} {K : Value → Hp → Prop} (hl : (S.size : Int) ≤ 4611686018427387904) (hK : ∀ h' s p q, Srce h' s p q S 0 S.size false → h.next ≤ s → h.next ≤ p → h.next ≤ q → Ext h h' → K (.pointer (some ⟨s, 0, none⟩)) h') : ACall prog 28 [.string S] h K := by
  refine acallF_of tb0 func28 rfl rfl mixed (by kernel_rfl) fun hwf => ?_
  simp -dsimp (disch := omega)
  refine RetF.all (by simp) (hK _ (h.next + 1) (h.next + 2) h.next ⟨?_, ?_, ?_, ?_, ?_, ?_, ?_, ?_, ?_, ?_, ?_, ?_⟩ ?_ ?_ ?_ ?_)
  · simp -dsimp (disch := omega) [srcB]
  · simp -dsimp (disch := omega)
  · simp -dsimp (disch := omega)
  · simp
  · simp
  · simp; omega
  · omega
  · omega
  · omega
  · omega
  · omega
  · exact hl
  · omega
  · omega
  · omega
  · exact ((Ext.alloc _ _).then_alloc _).then_alloc _

def numTo (T : ByteArray) : Nat → Int
  | 0 => 0
  | k + 1 => numTo T k + bAt T k * 256 ^ k
theorem numTo_range (T : ByteArray) (k : Nat) : 0 ≤ numTo T k ∧ numTo T k < 256 ^ k := by
  induction k with
  | zero => exact ⟨Int.le_refl _, by simp [numTo]⟩
  | succ k ih =>
    have hb := bAt_range T k
    have hp : (0 : Int) < 256 ^ k := Int.pow_pos (by omega)
    have : bAt T k * 256 ^ k ≤ 255 * 256 ^ k := Int.mul_le_mul_of_nonneg_right hb.2 (by omega)
    have h0 : 0 ≤ bAt T k * 256 ^ k := Int.mul_nonneg hb.1 (by omega)
    rw [numTo, Int.pow_succ]
    omega
theorem or_step (A C : Int) (k : Nat) (hA : 0 ≤ A ∧ A < 256 ^ k) (hC : 0 ≤ C ∧ C ≤ 255) (hk : k < 8) :
    IntKind.u64.wrap (BitVec.ofInt IntKind.u64.bits A ||| BitVec.ofInt IntKind.u64.bits (IntKind.u64.wrap (C * 2 ^ min (8 * (k : Int)).toNat IntKind.u64.bits))).toNat = A + C * 256 ^ k := by
  obtain ⟨a, rfl⟩ := Int.eq_ofNat_of_zero_le hA.1
  obtain ⟨c, rfl⟩ := Int.eq_ofNat_of_zero_le hC.1
  have e0 : (2 : Int) ^ min (8 * (k : Int)).toNat IntKind.u64.bits = ((2 ^ (8 * k) : Nat) : Int) := by
    rw [show min (8 * (k : Int)).toNat IntKind.u64.bits = 8 * k from by show min (8 * (k : Int)).toNat 64 = 8 * k; omega]; exact (Int.natCast_pow 2 (8 * k)).symm
  have e1 : (256 : Int) ^ k = ((2 ^ (8 * k) : Nat) : Int) := by rw [Nat.pow_mul, Int.natCast_pow]; rfl
  rw [e1] at hA
  rw [e0, e1]
  have hp : 2 ^ (8 * k) ≤ 2 ^ 56 := Nat.pow_le_pow_right (by omega) (by omega)
  have hc : c * 2 ^ (8 * k) ≤ 255 * 2 ^ 56 := Nat.mul_le_mul (by omega) hp
  have ha : a < 2 ^ (8 * k) := by omega
  have hor : a ||| c * 2 ^ (8 * k) = a + c * 2 ^ (8 * k) := by
    have := Nat.shiftLeft_add_eq_or_of_lt ha c
    rw [Nat.shiftLeft_eq] at this
    rw [Nat.or_comm, ← this, Nat.add_comm]
  have w1 : IntKind.u64.wrap ((c : Int) * ((2 ^ (8 * k) : Nat) : Int)) = ((c * 2 ^ (8 * k) : Nat) : Int) := by
    rw [← Int.natCast_mul]; exact IntWalk.u64_in _ (by omega)
  rw [w1, BitVec.toNat_or, BitVec.toNat_ofInt, BitVec.toNat_ofInt]
  have t1 : ((a : Int) % ((2 ^ IntKind.u64.bits : Nat) : Int)).toNat = a := by
    rw [show ((2 ^ IntKind.u64.bits : Nat) : Int) = 18446744073709551616 from rfl]; omega
  have t2 : (((c * 2 ^ (8 * k) : Nat) : Int) % ((2 ^ IntKind.u64.bits : Nat) : Int)).toNat = c * 2 ^ (8 * k) := by
    rw [show ((2 ^ IntKind.u64.bits : Nat) : Int) = 18446744073709551616 from rfl]; omega
  rw [t1, t2, hor]
  rw [IntWalk.u64_in _ (by omega)]
  push_cast
  rfl

theorem got_size {h : Hp} {s p q : Nat} {S : ByteArray} {at_ left : Int} {torn : Bool} {n : Int} (hs : Srce h s p q S at_ left torn) (hn : 0 ≤ n) : ((got S at_ left torn n).size : Int) ≤ n := by
  have := hs.at0; have := hs.left0; have := hs.sum
  unfold got
  split
  · simpa [txt_size] using hn
  · rw [ByteArray.size_extract]; omega
theorem bAt_row (T : ByteArray) (k : Nat) (hk : k < T.size) : Option.map byteV T.data[k]? = some (.int .u8 (bAt T k)) := by
  have h1 : T.data[k]? = some T.data[k] := Array.getElem?_eq_getElem hk
  rw [h1]
  unfold bAt
  rw [Array.getElem?_toList, h1]
  rfl

set_option maxRecDepth 100000 in
/-- The number taken, and what there is behind. -/
theorem taken_call {w : Int} {h : Hp} {s p q : Nat} {S : ByteArray} {at_ left : Int} {torn : Bool} {K : Value → Hp → Prop} (hs : Srce h s p q S at_ left torn)
    (hK : ∀ h', Ext (h.set s (afterB p q at_ left torn (wideF w))) h' → K (.int .u64 (numTo (got S at_ left torn (wideF w)) (got S at_ left torn (wideF w)).size)) h') : ACall prog 39 [.pointer (some ⟨s, 0, none⟩), .int .i64 w] h K := by
  refine acallF_of tb0 func39 rfl rfl mixed (by kernel_rfl) fun hwf => ?_
  have hw := wideF_range w
  simp -dsimp (disch := omega)
  refine wide_call ?_
  simp -dsimp (disch := omega)
  refine text_call hs ?_
  have hc : cut0 (wideF w) = wideF w := by unfold cut0; split <;> omega
  rw [hc]
  have hT := got_size hs (n := wideF w) (by omega)
  generalize got S at_ left torn (wideF w) = T at *
  have e0 := Ext.alloc (h.set s (afterB p q at_ left torn (wideF w))) ⟨(T.data.toList.map byteV).toArray, 1, true⟩
  simp -dsimp (disch := omega)
  generalize hh : (h.set s (afterB p q at_ left torn (wideF w))) = h1 at *
  have hn1 : h1.next = h.next := by rw [← hh]; rfl
  refine awp_loop (fun t h' => h' = h1.alloc ⟨(T.data.toList.map byteV).toArray, 1, true⟩ ∧ ∃ k : Nat, t 11 = .slice (some ⟨h.next, 0, none⟩) T.size (2 * T.size + 1) ∧ t 12 = .int .i64 T.size ∧ t 13 = .int .i64 k ∧ t 4 = .int .u64 (numTo T k) ∧ k ≤ T.size) (fun t _ => T.size - ivN (t 13)) ?_ ?_
  · simp -dsimp
    exact ⟨0, rfl, rfl, Nat.zero_le _⟩
  · rintro t _ ⟨rfl, k, h11, h12, h13, h4, hk⟩
    refine vcF_sound mixed (tb := tb0) _ (by kernel_rfl) ?_
    simp -dsimp (disch := omega) [h11, h12, h13, h4]
    refine CondF_dec (fun hc => ?_) (fun hc => ?_)
    · have b1 := bAt_range T k
      have b2 := numTo_range T k
      have hrow := bAt_row T k (by omega)
      have hor := or_step (numTo T k) (bAt T k) k b2 b1 (by omega)
      simp -dsimp (disch := omega) [h11, h12, h13, h4, hn1, hrow, hor]
      refine ⟨⟨k + 1, by simp, ?_, by omega⟩, by simp [ivN]; omega⟩
      rw [numTo]
      simpa using hor
    · have : k = T.size := by omega
      subst this
      simp -dsimp (disch := omega) [h11, h12, h13, h4]
      exact RetF.all (by simp [h4]) (hK _ e0)

end Go.Proofs.YtmnemfeofhinaaaDoor
namespace Go.Proofs.YtmnemfeofhinaaaDoor
open Go Go.Mini Go.Proofs.Tryd

def refB (S : ByteArray) (at_ : Int) (torn : Bool) : Blk := ⟨#[.string S, .int .i64 at_, .bool torn], 1, true⟩

def tb22 : Nat → Marks := fun _ => ⟨[1, 7, 11], fun _ => True⟩
def numL : List UInt8 → Int
  | [] => 0
  | b :: l => (b.toNat : Int) + 256 * numL l
theorem numL_append (l : List UInt8) (b : UInt8) : numL (l ++ [b]) = numL l + (b.toNat : Int) * 256 ^ l.length := by
  induction l with
  | nil => simp [numL]
  | cons c l ih =>
    simp only [List.cons_append, numL, ih, List.length_cons, Int.pow_succ]
    rw [Int.mul_add, Int.mul_left_comm 256, ← Int.mul_comm (256 ^ l.length) 256]
    omega
theorem bAt_list (T : ByteArray) (k : Nat) (b : UInt8) (h : T.data.toList[k]? = some b) : bAt T k = b.toNat := by unfold bAt; rw [h]; rfl
theorem numTo_list (T : ByteArray) : ∀ k, k ≤ T.size → numTo T k = numL (T.data.toList.take k) := by
  intro k
  induction k with
  | zero => intro _; rfl
  | succ k ih =>
    intro hk
    have hlen : k < T.data.toList.length := by have : T.data.toList.length = T.size := rfl; omega
    obtain ⟨b, hb⟩ : ∃ b, T.data.toList[k]? = some b := ⟨_, List.getElem?_eq_getElem hlen⟩
    rw [numTo, ih (by omega), take_snoc hb, numL_append, bAt_list T k b hb, List.length_take, Nat.min_eq_left (by omega)]
theorem numL_range : ∀ l : List UInt8, 0 ≤ numL l ∧ numL l < 256 ^ l.length
  | [] => ⟨Int.le_refl _, by simp [numL]⟩
  | b :: l => by
    have ih := numL_range l
    have hb := UInt8.toNat_lt b
    simp only [numL, List.length_cons, Int.pow_succ]
    omega
theorem numL_range8 (l : List UInt8) (h : l.length ≤ 8) : 0 ≤ numL l ∧ numL l ≤ 18446744073709551615 := by
  have h1 := numL_range l
  have h2 : ((256 ^ l.length : Nat) : Int) ≤ ((256 ^ 8 : Nat) : Int) := Int.ofNat_le.2 (Nat.pow_le_pow_right (by omega) h)
  rw [show ((256 ^ 8 : Nat) : Int) = 18446744073709551616 from rfl, Int.natCast_pow 256 l.length, show ((256 : Nat) : Int) = 256 from rfl] at h2
  omega
theorem drop_cons {l : List UInt8} {k : Nat} {b : UInt8} (h : l[k]? = some b) : l.drop k = b :: l.drop (k + 1) := by
  obtain ⟨h1, h2⟩ := List.getElem?_eq_some_iff.1 h
  rw [List.drop_eq_getElem_cons h1, h2]

set_option maxRecDepth 100000 in
theorem refNumber_call {T : ByteArray} {h : Hp} {K : Value → Hp → Prop} (hl : T.size ≤ 8) (hK : K (.int .u64 (numTo T T.size)) h) : ACall prog 69 [.string T] h K := by
  refine acallF_of tb0 func69 rfl rfl mixed (by kernel_rfl) fun hwf => ?_
  have hlen : T.data.toList.length = T.size := rfl
  simp -dsimp (disch := omega)
  refine awp_loop (fun t h' => h' = h ∧ ∃ k : Nat, t 0 = .string T ∧ t 4 = .int .i64 (k - 1 : Int) ∧ t 3 = .int .u64 (numL (T.data.toList.drop k)) ∧ k ≤ T.size) (fun t _ => match t 4 with | .int _ i => (i + 1).toNat | _ => 0) ?_ ?_
  · simp -dsimp
    exact ⟨T.size, rfl, by rw [List.drop_of_length_le (by omega)]; rfl, Nat.le_refl _⟩
  · rintro t _ ⟨rfl, k, h0, h4, h3, hk⟩
    have b2 := numL_range8 (T.data.toList.drop k) (by rw [List.length_drop]; omega)
    refine vcF_sound mixed (tb := tb0) _ (by kernel_rfl) ?_
    simp -dsimp (disch := omega) [h0, h4, h3]
    refine CondF_dec (fun hc => ?_) (fun hc => ?_)
    · have hk1 : k - 1 < T.data.toList.length := by omega
      obtain ⟨b, hb⟩ : ∃ b, T.data.toList[k - 1]? = some b := ⟨_, List.getElem?_eq_getElem hk1⟩
      have b1 := bAt_range T (k - 1)
      have b3 := numL_range8 (T.data.toList.drop (k - 1)) (by rw [List.length_drop]; omega)
      have e1 : numL (T.data.toList.drop (k - 1)) = bAt T (k - 1) + 256 * numL (T.data.toList.drop k) := by
        rw [drop_cons hb, numL, bAt_list T _ b hb, show k - 1 + 1 = k from by omega]
      rw [e1] at b3
      have e2 : ((k : Int) - 1).toNat = k - 1 := by omega
      simp -dsimp (disch := omega) [h0, h4, h3, e2]
      refine ⟨⟨k - 1, ?_, ?_, by omega⟩, ?_⟩
      · omega
      · rw [e1]; omega
      · omega
    · have : k = 0 := by omega
      subst this
      simp -dsimp (disch := omega) [h0, h4, h3]
      rw [numTo_list T T.size (Nat.le_refl _), List.take_of_length_le (by omega)] at hK
      exact RetF.same hwf (by simp [h3]) (Nat.zero_le _) (fun _ _ => rfl) hK

end Go.Proofs.YtmnemfeofhinaaaDoor
namespace Go.Proofs.YtmnemfeofhinaaaDoor
open Go Go.Mini Go.Proofs.Tryd

def sumStep (n : Int) (b : UInt8) : Int := (31 * n + (b.toNat : Int)) % 4294967296
def sumL (l : List UInt8) : Int := l.foldl sumStep 1
theorem sumTo_list (T : ByteArray) : ∀ k, k ≤ T.size → sumTo T k = sumL (T.data.toList.take k) := by
  intro k
  induction k with
  | zero => intro _; rfl
  | succ k ih =>
    intro hk
    have hlen : k < T.data.toList.length := by have : T.data.toList.length = T.size := rfl; omega
    obtain ⟨b, hb⟩ : ∃ b, T.data.toList[k]? = some b := ⟨_, List.getElem?_eq_getElem hlen⟩
    have hbb : bAt T k = b.toNat := by unfold bAt; rw [hb]; rfl
    rw [sumTo, ih (by omega), take_snoc hb]
    simp [sumL, List.foldl_append, sumStep, hbb]
theorem sumTo_all (T : ByteArray) : sumTo T T.size = sumL T.data.toList := by
  have : T.data.toList.length = T.size := rfl
  rw [sumTo_list T T.size (Nat.le_refl _), List.take_of_length_le (by omega)]
theorem sumStep_range (n : Int) (b : UInt8) : 0 ≤ sumStep n b ∧ sumStep n b < 4294967296 := by unfold sumStep; omega
theorem sumL_range (l : List UInt8) : ∀ n, 0 ≤ n ∧ n < 4294967296 → 0 ≤ l.foldl sumStep n ∧ l.foldl sumStep n < 4294967296 := by
  induction l with
  | nil => intro n h; exact h
  | cons b l ih => intro n _; exact ih _ (sumStep_range n b)
theorem sumStep_inj (a b : Int) (c : UInt8) (ha : 0 ≤ a ∧ a < 4294967296) (hb : 0 ≤ b ∧ b < 4294967296) (h : sumStep a c = sumStep b c) : a = b := by
  unfold sumStep at h; omega
theorem foldl_inj (l : List UInt8) : ∀ a b, 0 ≤ a ∧ a < 4294967296 → 0 ≤ b ∧ b < 4294967296 → l.foldl sumStep a = l.foldl sumStep b → a = b := by
  induction l with
  | nil => intro a b _ _ h; exact h
  | cons c l ih =>
    intro a b ha hb h
    exact sumStep_inj a b c ha hb (ih _ _ (sumStep_range a c) (sumStep_range b c) h)
theorem sumStep_byte (n : Int) (b c : UInt8) (h : sumStep n b = sumStep n c) : b = c := by
  unfold sumStep at h
  have h1 := UInt8.toNat_lt b
  have h2 := UInt8.toNat_lt c
  apply UInt8.toNat_inj.1
  omega
/-- A sum tells apart two texts that differ in one byte. -/
theorem sum_apart (l r : List UInt8) (b c : UInt8) (hbc : b ≠ c) : sumL (l ++ [b] ++ r) ≠ sumL (l ++ [c] ++ r) := by
  intro h
  unfold sumL at h
  simp only [List.foldl_append, List.foldl_cons, List.foldl_nil] at h
  exact hbc (sumStep_byte _ b c (foldl_inj r _ _ (sumStep_range _ _) (sumStep_range _ _) h))
theorem sum_on (l l' r : List UInt8) (h : sumL l = sumL l') : sumL (l ++ r) = sumL (l' ++ r) := by
  unfold sumL at *
  rw [List.foldl_append, List.foldl_append, h]

end Go.Proofs.YtmnemfeofhinaaaDoor
