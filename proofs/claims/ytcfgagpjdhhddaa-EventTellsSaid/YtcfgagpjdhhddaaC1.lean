/-
  The small functions of the codec.
-/
import Derived.Test.YtcfgagpjdhhddaaF
set_option linter.unusedSimpArgs false
set_option linter.unusedVariables false
set_option linter.unusedSectionVars false
namespace Go.Proofs.Ytcfgagpjdhhddaa
open Go Go.Mini Go.Proofs.Try

def tb0 : Nat → Marks := fun _ => ⟨[], fun _ => True⟩
@[simp] theorem tb0_l (k : Nat) : (tb0 k).l = [] := id rfl

def wideF (x : Int) : Int := if 8 < (if x < 1 then 1 else x) then 8 else (if x < 1 then 1 else x)

theorem wide_call {x : Int} {h : Hp} {K : Value → Hp → Prop} (hK : K (.int .i64 (wideF x)) h) : ACall prog 41 [.int .i64 x] h K := by
  refine acallF_of tb0 func41 rfl rfl mixed (by kernel_rfl) fun hwf => ?_
  simp -dsimp (disch := omega)
  exact RetF.same hwf (by simp [wideF]) (Nat.zero_le _) (fun _ _ => rfl) hK
theorem refWidth_call {x : Int} {h : Hp} {K : Value → Hp → Prop} (hK : K (.int .i64 (wideF x)) h) : ACall prog 42 [.int .i64 x] h K := by
  refine acallF_of tb0 func42 rfl rfl mixed (by kernel_rfl) fun hwf => ?_
  simp -dsimp (disch := omega)
  refine CondF_dec (fun h1 => ?_) (fun h1 => ?_)
  · simp -dsimp (disch := omega)
    exact RetF.same hwf (by simp [wideF, h1]) (Nat.zero_le _) (fun _ _ => rfl) hK
  · simp -dsimp (disch := omega)
    refine CondF_dec (fun h2 => ?_) (fun h2 => ?_)
    · simp -dsimp (disch := omega)
      exact RetF.same hwf (by simp [wideF, h1, h2]) (Nat.zero_le _) (fun _ _ => rfl) hK
    · simp -dsimp (disch := omega)
      exact RetF.same hwf (by simp [wideF, h1, h2]) (Nat.zero_le _) (fun _ _ => rfl) hK
theorem is_nil {h : Hp} {K : Value → Hp → Prop} (hK : K (.bool false) h) : ACall prog 35 [.pointer none] h K := by
  refine acallF_of tb0 func35 rfl rfl mixed (by kernel_rfl) fun hwf => ?_
  simp -dsimp (disch := omega)
  exact RetF.same hwf (by simp) (Nat.zero_le _) (fun _ _ => rfl) hK
theorem is_some {a : Addr} {b : Blk} {f : Fn} {u v : Array Value} {h : Hp} {K : Value → Hp → Prop} (hb : h.blks a.block = some b) (hc : b.cells[a.off]? = some (.func f u v)) (hK : K (.bool true) h) : ACall prog 35 [.pointer (some a)] h K := by
  refine acallF_of tb0 func35 rfl rfl mixed (by kernel_rfl) fun hwf => ?_
  simp -dsimp (disch := omega) [hb, hc]
  exact RetF.same hwf (by simp) (Nat.zero_le _) (fun _ _ => rfl) hK

/-- What a source is, in the heap. -/
def srcB (p q : Nat) (at_ left : Int) (torn : Bool) : Blk := ⟨#[.func (.func 34) #[] #[.pointer (some ⟨p, 0, none⟩), .pointer (some ⟨q, 0, none⟩)], .int .i64 at_, .int .i64 left, .bool torn], 1, true⟩
structure Srce (h : Hp) (s p q : Nat) (S : ByteArray) (at_ left : Int) (torn : Bool) : Prop where
  bs : h.blks s = some (srcB p q at_ left torn)
  bp : h.blks p = some ⟨#[.pointer (some ⟨s, 0, none⟩)], 1, true⟩
  bq : h.blks q = some ⟨#[.string S], 1, true⟩
  ls : s < h.next
  lp : p < h.next
  lq : q < h.next
  ps : p ≠ s
  qs : q ≠ s
  at0 : 0 ≤ at_
  left0 : 0 ≤ left
  sum : at_ + left = S.size
  len : (S.size : Int) ≤ 4611686018427387904

def tb26 (s : Nat) : Nat → Marks := fun k => if k = 4 then ⟨[1, 16], fun j => j ≠ s⟩ else ⟨[], fun _ => True⟩

theorem take_torn {n : Int} {h : Hp} {s p q : Nat} {S : ByteArray} {at_ left : Int} {torn : Bool} {K : Value → Hp → Prop} (hn : 0 ≤ n) (hs : Srce h s p q S at_ left torn) (ht : torn = true ∨ left < n)
    (hK : K (.tuple #[.string (txt []), .bool false]) (h.set s (srcB p q at_ left true))) : ACall prog 34 [.int .i64 n, .pointer (some ⟨p, 0, none⟩), .pointer (some ⟨q, 0, none⟩)] h K := by
  refine acallF_of (tb26 s) func34 rfl rfl mixed (by kernel_rfl) fun hwf => ?_
  obtain ⟨h1, h2, h3, _, _, _, h4, h5, h6, h7, h8, h9⟩ := hs
  unfold srcB at h1 hK
  cases torn with
  | true =>
    simp -dsimp (disch := omega) [h1, h2, h3, h4, h5, tb26]

    exact RetF.all (by simp) hK
  | false =>
    have : left < n := by simpa using ht
    simp -dsimp (disch := omega) [h1, h2, h3, h4, h5, this, tb26]
    exact RetF.all (by simp) hK
theorem take_fine {n : Int} {h : Hp} {s p q : Nat} {S : ByteArray} {at_ left : Int} {K : Value → Hp → Prop} (hn : 0 ≤ n) (hs : Srce h s p q S at_ left false) (ht : n ≤ left)
    (hK : K (.tuple #[.string (S.extract at_.toNat (at_ + n).toNat), .bool true]) (h.set s (srcB p q (at_ + n) (left - n) false))) : ACall prog 34 [.int .i64 n, .pointer (some ⟨p, 0, none⟩), .pointer (some ⟨q, 0, none⟩)] h K := by
  refine acallF_of (tb26 s) func34 rfl rfl mixed (by kernel_rfl) fun hwf => ?_
  obtain ⟨h1, h2, h3, _, _, _, h4, h5, h6, h7, h8, h9⟩ := hs
  unfold srcB at h1 hK
  have : ¬ left < n := by omega
  simp -dsimp (disch := omega) [h1, h2, h3, h4, h5, this, tb26]
  refine RetF.all (r := .tuple #[.string (S.extract at_.toNat (at_ + n).toNat), .bool true]) ?_ hK
  simp

theorem Srce.next {h : Hp} {s p q : Nat} {S : ByteArray} {at_ left at' left' : Int} {torn torn' : Bool} (hs : Srce h s p q S at_ left torn) (h1 : 0 ≤ at') (h2 : 0 ≤ left') (h3 : at' + left' = S.size) : Srce (h.set s (srcB p q at' left' torn')) s p q S at' left' torn' :=
  ⟨blks_set_eq _ _ _, by rw [blks_set_ne _ _ _ _ hs.ps]; exact hs.bp, by rw [blks_set_ne _ _ _ _ hs.qs]; exact hs.bq, hs.ls, hs.lp, hs.lq, hs.ps, hs.qs, h1, h2, h3, hs.len⟩
theorem Srce.ext {h h' : Hp} {s p q : Nat} {S : ByteArray} {at_ left : Int} {torn : Bool} (hs : Srce h s p q S at_ left torn) (he : Ext h h') : Srce h' s p q S at_ left torn :=
  ⟨by rw [he.same _ hs.ls]; exact hs.bs, by rw [he.same _ hs.lp]; exact hs.bp, by rw [he.same _ hs.lq]; exact hs.bq, Nat.lt_of_lt_of_le hs.ls he.le, Nat.lt_of_lt_of_le hs.lp he.le, Nat.lt_of_lt_of_le hs.lq he.le, hs.ps, hs.qs, hs.at0, hs.left0, hs.sum, hs.len⟩

/-- What a source is behind a take, and what was taken. -/
def nxtA (at_ left : Int) (torn : Bool) (n : Int) : Int := if torn = true ∨ left < n then at_ else at_ + n
def nxtL (left : Int) (torn : Bool) (n : Int) : Int := if torn = true ∨ left < n then left else left - n
def nxtT (left : Int) (torn : Bool) (n : Int) : Bool := if torn = true ∨ left < n then true else false
def got (S : ByteArray) (at_ left : Int) (torn : Bool) (n : Int) : ByteArray := if torn = true ∨ left < n then txt [] else S.extract at_.toNat (at_ + n).toNat
def afterB (p q : Nat) (at_ left : Int) (torn : Bool) (n : Int) : Blk := srcB p q (nxtA at_ left torn n) (nxtL left torn n) (nxtT left torn n)
theorem Srce.after {h : Hp} {s p q : Nat} {S : ByteArray} {at_ left n : Int} {torn : Bool} (hs : Srce h s p q S at_ left torn) (hn : 0 ≤ n) : Srce (h.set s (afterB p q at_ left torn n)) s p q S (nxtA at_ left torn n) (nxtL left torn n) (nxtT left torn n) := by
  have h1 := hs.at0
  have h2 := hs.left0
  have h3 := hs.sum
  refine hs.next ?_ ?_ ?_
  · unfold nxtA; split <;> omega
  · unfold nxtL; split <;> omega
  · unfold nxtA nxtL; split <;> omega
theorem closure_call {n : Int} {h : Hp} {s p q : Nat} {S : ByteArray} {at_ left : Int} {torn : Bool} {K : Value → Hp → Prop} (hn : 0 ≤ n) (hs : Srce h s p q S at_ left torn)
    (hK : K (.tuple #[.string (got S at_ left torn n), .bool (!nxtT left torn n)]) (h.set s (afterB p q at_ left torn n))) : ACall prog 34 [.int .i64 n, .pointer (some ⟨p, 0, none⟩), .pointer (some ⟨q, 0, none⟩)] h K := by
  unfold got afterB nxtA nxtL nxtT at hK
  by_cases hc : torn = true ∨ left < n
  · simp only [if_pos hc] at hK
    exact take_torn hn hs hc hK
  · simp only [if_neg hc] at hK
    have : torn = false := by cases torn <;> simp_all
    subst this
    exact take_fine hn hs (by omega) hK

/-- Text. -/
def cut0 (n : Int) : Int := if n < 0 then 0 else n
theorem text_call {n : Int} {h : Hp} {s p q : Nat} {S : ByteArray} {at_ left : Int} {torn : Bool} {K : Value → Hp → Prop} (hs : Srce h s p q S at_ left torn)
    (hK : K (.string (got S at_ left torn (cut0 n))) (h.set s (afterB p q at_ left torn (cut0 n)))) : ACall prog 43 [.pointer (some ⟨s, 0, none⟩), .int .i64 n] h K := by
  refine acallF_of tb0 func43 rfl rfl mixed (by kernel_rfl) fun hwf => ?_
  have h1 := hs.bs
  unfold srcB at h1
  simp -dsimp (disch := omega)
  refine is_some h1 rfl ?_
  simp -dsimp (disch := omega) [h1]
  have hn : 0 ≤ cut0 n := by unfold cut0; split <;> omega
  rw [show (if 0 > n then 0 else n) = cut0 n from rfl]
  refine closure_call hn hs ?_
  simp -dsimp (disch := omega)
  exact RetF.all (by simp) hK

end Go.Proofs.Ytcfgagpjdhhddaa
