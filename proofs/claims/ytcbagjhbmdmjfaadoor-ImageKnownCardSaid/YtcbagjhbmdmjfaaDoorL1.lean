/-
  ImageParses' body.
-/
import Derived.Test.YtcbagjhbmdmjfaaDoorID
import Derived.Test.YtcbagjhbmdmjfaaDoorDA
set_option linter.unusedSimpArgs false
set_option linter.unusedVariables false
set_option linter.unusedSectionVars false
namespace Go.Proofs.YtcbagjhbmdmjfaaDoor
set_option maxRecDepth 100000
open Go Go.Mini Go.Proofs.Tryd

theorem Row.sl {m : Nat} {h : Hp} {esz n : Nat} {cs : List Value} {v : Value} (r : Row m h esz n cs v) : Sl h esz n cs v := by
  obtain ⟨h0, ⟨rfl, rfl⟩ | ⟨b, b1, b2, rfl, hb⟩⟩ := r
  · exact ⟨h0, .inl ⟨_, _, rfl, rfl⟩⟩
  · exact ⟨h0, .inr ⟨_, _, _, rfl, hb, by simp [h0], fun j hj => by simp⟩⟩
theorem prL_ok (S : List UInt8) (n : Int) : (∀ g ∈ prL S n, g.ok) ∧ (prL S n).length ≤ 8 ∧ prX S n < 18446744073709551616 := by
  unfold prL prX
  split
  · exact ⟨by simp, by simp, by omega⟩
  · cases hd : docP S 2147483648 (endP n.toNat) with
    | bad z => exact ⟨by simp [Tld.l], by simp [Tld.l], by simp [Tld.x]⟩
    | good x l =>
      obtain ⟨_, h1, _, h2, h3, h4⟩ := docP_inv hd
      exact ⟨fun g hg => ⟨h4 g hg, by have := (chkL_small h3 g hg).2; omega⟩, h2, h1⟩
theorem prE_code (S : List UInt8) (n : Int) : prE S n = .nil ∨ (prE S n).code ≠ 0 := by
  unfold prE
  split
  · exact .inr (by decide)
  · cases hd : docP S 2147483648 (endP n.toNat) with
    | bad z => exact .inr (docP_bad hd).2.2.2
    | good x l => exact .inl rfl
theorem IsEr.ext {h h' : Hp} {e : Er} {v : Value} (i : IsEr h e v) (x : Ext h h') : IsEr h' e v := by
  cases e with
  | nil => exact i
  | num n => exact i
  | flt f a n =>
    obtain ⟨p, rfl, h1, h2⟩ := i
    exact ⟨p, rfl, by rw [x.same _ h2]; exact h1, Nat.lt_of_lt_of_le h2 x.le⟩
theorem Sl.ext {h h' : Hp} {esz n : Nat} {cs : List Value} {v : Value} (s : Sl h esz n cs v) (x : Ext h h') (hb : ∀ b, sblk v = some b → b < h.next) : Sl h' esz n cs v := s.mono fun b e => x.same b (hb b e)
theorem Row.ext {m : Nat} {h h' : Hp} {esz n : Nat} {cs : List Value} {v : Value} (r : Row m h esz n cs v) (x : Ext h h') : Row m h' esz n cs v := r.mono x.le fun b e => x.same b (r.blk b e).2
def tb4 : Nat → Marks := fun k => if k = 6 then ⟨[1, 3], fun _ => True⟩ else ⟨[], fun _ => True⟩
theorem imageParses_call {S : List UInt8} {n : Int} {h : Hp} {K : Value → Hp → Prop} (hE : HasErr h) (hn : 100 < h.next) (hK : ∀ h', K (.bool true) h') : ACall prog 4 [.string (txt S), .int .i64 n] h K := by
  refine acallF_of tb4 func4 rfl rfl mixed (by kernel_rfl) fun hwf => ?_
  have hsz : (txt S).size = S.length := rfl
  simp -dsimp (disch := omega) [hsz]
  by_cases c : 4000 < S.length
  · have c' : 4000 < (S.length : Int) := by omega
    simp -dsimp (disch := omega) [c, c']
    refine awake_call hE hn ?_
    simp -dsimp (disch := omega)
    exact RetF.all (by simp) (hK _)
  · have c' : ¬ 4000 < (S.length : Int) := by omega
    simp -dsimp (disch := omega) [c, c']
    refine parse_call (by omega) fun h1 w er x1 ie ir => ?_
    obtain ⟨k1, k2, k3⟩ := prL_ok S n
    have n1 := x1.le
    obtain ⟨wa, wc, rfl⟩ := ir.slice
    simp -dsimp (disch := omega) [imV]
    refine refParse_call (by omega) fun h2 w2 x2 ir2 => ?_
    have n2 := x2.le
    simp only [Hp.next_alloc] at n2
    have xx : Ext h1 h2 := (Ext.alloc _ _).trans x2
    obtain ⟨wa2, wc2, rfl⟩ := ir2.slice
    have hE2 : HasErr h2 := (hE.ext x1 hn).ext xx (by omega)
    have hx2 : h2.blks h1.next = some ⟨#[.int .u64 (prX S n), .slice wa (prL S n).length wc], 1, true⟩ := (x2.same _ (by simp)).trans (blks_alloc_eq _ _)
    simp -dsimp (disch := omega) [told, tb4]
    have hA := Ext.alloc h2 ⟨#[.string (prE S n).field, .int .i64 (prE S n).place, .int .i64 (prE S n).code, .int .u64 (prX S n), .slice wa2 (prL S n).length wc2], 1, true⟩
    have ie3 := (ie.ext xx).ext hA
    refine where_call ie3 (hE2.ext hA (by omega)) (by simp; omega) ?_
    simp -dsimp (disch := omega) [tb4]
    refine code_call ie3 (hE2.ext hA (by omega)) (by simp; omega) ?_
    simp -dsimp (disch := omega) [tb4, hx2]
    refine alike_call (x := prX S n) k3 (Row.sl (Row.ext (Row.ext ir xx) hA)) (Row.sl (Row.ext ir2 hA)) k1 (by omega) ?_
    have hE3 : ∀ b, HasErr (h2.alloc b) := fun b => hE2.ext (Ext.alloc _ _) (by omega)
    have hcode := prE_code S n
    cases hp : prE S n with
    | nil =>
      rw [hp] at ie
      obtain rfl := ie
      simp -dsimp (disch := omega) [tb4, Er.code]
      refine awake_call (hE3 _) (by simp; omega) ?_
      simp -dsimp (disch := omega) [tb4]
      exact RetF.all (by simp) (hK _)
    | num m =>
      rw [hp] at ie hcode
      obtain rfl := ie
      have hm : ¬ m = 0 := hcode.resolve_left (by simp)
      simp -dsimp (disch := omega) [tb4, Er.code, hm]
      refine awake_call (hE3 _) (by simp; omega) ?_
      simp -dsimp (disch := omega) [tb4]
      exact RetF.all (by simp) (hK _)
    | flt F a m =>
      rw [hp] at ie hcode
      obtain ⟨p, rfl, _, _⟩ := ie
      have hm : ¬ m = 0 := hcode.resolve_left (by simp)
      simp -dsimp (disch := omega) [tb4, Er.code, hm]
      refine awake_call (hE3 _) (by simp; omega) ?_
      simp -dsimp (disch := omega) [tb4]
      exact RetF.all (by simp) (hK _)
end Go.Proofs.YtcbagjhbmdmjfaaDoor
