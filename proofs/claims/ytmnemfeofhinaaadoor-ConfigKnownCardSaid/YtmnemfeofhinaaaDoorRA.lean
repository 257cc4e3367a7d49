/-
  The reader of a configuration: its state, note, a byte. The reader: a byte, a guest, a window. The reader: a channel. The reader: lists of guests, of windows. The reader: the list of channels. Parse. What the reader reads, and which fault it tells first, is the document's: the plain law.
-/
import Derived.Test.YtmnemfeofhinaaaDoorJA
set_option linter.unusedSimpArgs false
set_option linter.unusedVariables false
set_option linter.unusedSectionVars false

namespace Go.Proofs.YtmnemfeofhinaaaDoor
set_option maxRecDepth 100000
open Go Go.Mini Go.Proofs.Tryd

/-- Where a reader stands: how far, torn or not, the first fault. -/
structure St where
  a : Nat
  torn : Bool
  flt : Option Flt
def St.note (st : St) (f : ByteArray) (at_ e : Int) : St := if e ≠ 0 ∧ st.flt = none then { st with flt := some (f, at_, e) } else st
def rdB (s : Nat) (v : Value) : Blk := ⟨#[.pointer (some ⟨s, 0, none⟩), v], 1, true⟩
/-- A reader in the heap; what it may change: itself, and its source. -/
structure Rd (h : Hp) (r s p q : Nat) (S : List UInt8) (st : St) : Prop where
  src : Srce h s p q (txt S) st.a ((S.length : Int) - st.a) st.torn
  blk : ∃ v, h.blks r = some (rdB s v) ∧ FltV h st.flt v
  lr : r < h.next
  rs : r ≠ s
  rp : r ≠ p
  rq : r ≠ q
  le : st.a ≤ S.length
structure Fr (h h' : Hp) (r s : Nat) : Prop where
  le : h.next ≤ h'.next
  same : ∀ i, i < h.next → i ≠ r → i ≠ s → h'.blks i = h.blks i
theorem Fr.refl (h : Hp) (r s : Nat) : Fr h h r s := ⟨Nat.le_refl _, fun _ _ _ _ => rfl⟩
theorem Fr.trans {h h' h'' : Hp} {r s : Nat} (x : Fr h h' r s) (y : Fr h' h'' r s) : Fr h h'' r s := ⟨Nat.le_trans x.le y.le, fun i h1 h2 h3 => (y.same i (Nat.lt_of_lt_of_le h1 x.le) h2 h3).trans (x.same i h1 h2 h3)⟩
theorem Srce.off {h : Hp} {s p q r : Nat} {S : ByteArray} {at_ left : Int} {torn : Bool} {b : Blk} (hs : Srce h s p q S at_ left torn) (h1 : s ≠ r) (h2 : p ≠ r) (h3 : q ≠ r) : Srce (h.set r b) s p q S at_ left torn :=
  ⟨by rw [blks_set_ne _ _ _ _ h1]; exact hs.bs, by rw [blks_set_ne _ _ _ _ h2]; exact hs.bp, by rw [blks_set_ne _ _ _ _ h3]; exact hs.bq, hs.ls, hs.lp, hs.lq, hs.ps, hs.qs, hs.at0, hs.left0, hs.sum, hs.len⟩
theorem Rd.sr {h : Hp} {r s p q : Nat} {S : List UInt8} {st : St} (R : Rd h r s p q S st) : s < h.next := R.src.ls
theorem note_call {r s p q : Nat} {S : List UInt8} {st : St} {F : ByteArray} {a n : Int} {h : Hp} {K : Value → Hp → Prop} (R : Rd h r s p q S st)
    (hK : ∀ h', Rd h' r s p q S (st.note F a n) → Fr h h' r s → K (.tuple #[]) h') : ACall prog 30 [.pointer (some ⟨r, 0, none⟩), .string F, .int .i64 a, .int .i64 n] h K := by
  refine acallF_of tb0 func30 rfl rfl mixed (by kernel_rfl) fun hwf => ?_
  obtain ⟨v, hv, hf⟩ := R.blk
  have hv' : h.blks r = some ⟨#[.pointer (some ⟨s, 0, none⟩), v], 1, true⟩ := hv
  by_cases c : n = 0
  · subst c
    have e1 : st.note F a 0 = st := by unfold St.note; rw [if_neg (by simp)]
    rw [e1] at hK
    simp -dsimp (disch := omega) [hv']
    exact RetF.all (by simp) (hK _ R (Fr.refl _ _ _))
  · cases hfl : st.flt with
    | some z =>
      have e1 : st.note F a n = st := by unfold St.note; rw [if_neg (by simp [hfl])]
      rw [e1] at hK
      rw [hfl] at hf
      obtain ⟨d, rfl, hd, hl⟩ := hf
      simp -dsimp (disch := omega) [hv', c]
      exact RetF.all (by simp) (hK _ R (Fr.refl _ _ _))
    | none =>
      have e1 : st.note F a n = { st with flt := some (F, a, n) } := by unfold St.note; rw [if_pos ⟨c, hfl⟩]
      rw [e1] at hK
      rw [hfl] at hf
      obtain rfl : v = .pointer none := hf
      have hlr := R.lr
      have hrn : ¬ r = h.next := by omega
      simp -dsimp (disch := omega) [hv', c, hrn]
      refine RetF.all (by simp) (hK _ ⟨?_, ⟨.pointer (some ⟨h.next, 0, none⟩), ?_, ⟨h.next, rfl, ?_, ?_⟩⟩, ?_, R.rs, R.rp, R.rq, R.le⟩ ⟨?_, ?_⟩)
      · exact (R.src.off (Ne.symm R.rs) (Ne.symm R.rp) (Ne.symm R.rq)).ext (Ext.alloc _ _)
      · rw [blks_alloc_ne _ _ _ (by simpa using hrn)]; exact blks_set_eq _ _ _
      · exact blks_alloc_at _ _ _ (by simp)
      · simp
      · simp; omega
      · simp
      · intro i h1 h2 h3
        rw [blks_alloc_ne _ _ _ (by simp; omega), blks_set_ne _ _ _ _ h2]

def St.got (S : List UInt8) (st : St) (n : Nat) : List UInt8 := if st.torn = true ∨ S.length < st.a + n then [] else (S.drop st.a).take n
def St.take (S : List UInt8) (st : St) (n : Nat) : St := if st.torn = true ∨ S.length < st.a + n then { st with torn := true } else { st with a := st.a + n }
theorem St.take_flt (S : List UInt8) (st : St) (n : Nat) : (st.take S n).flt = st.flt := by unfold St.take; split <;> rfl
theorem St.take_le {S : List UInt8} {st : St} (n : Nat) (h : st.a ≤ S.length) : (st.take S n).a ≤ S.length := by
  unfold St.take; split
  · exact h
  · show st.a + n ≤ S.length; omega
theorem ext_txt (L : List UInt8) (i j : Nat) : (txt L).extract i j = txt ((L.drop i).take (j - i)) := by
  apply ByteArray.ext
  rw [ByteArray.data_extract]
  show L.toArray.extract i j = ((L.drop i).take (j - i)).toArray
  apply Array.ext'
  simp [List.take_drop]
theorem got_eq (S : List UInt8) (st : St) (n : Nat) (hle : st.a ≤ S.length) : YtmnemfeofhinaaaDoor.got (txt S) st.a ((S.length : Int) - st.a) st.torn n = txt (st.got S n) := by
  unfold YtmnemfeofhinaaaDoor.got St.got
  by_cases c : st.torn = true ∨ S.length < st.a + n
  · rw [if_pos c, if_pos (by rcases c with c | c; exact .inl c; right; omega)]
  · rw [if_neg c, if_neg (by intro d; apply c; rcases d with d | d; exact .inl d; right; omega)]
    rw [Int.toNat_natCast, show ((st.a : Int) + n).toNat = st.a + n by omega]
    rw [ext_txt, show st.a + n - st.a = n by omega]
theorem Rd.take {h : Hp} {r s p q : Nat} {S : List UInt8} {st : St} (R : Rd h r s p q S st) (n : Nat) : Rd (h.set s (afterB p q st.a ((S.length : Int) - st.a) st.torn n)) r s p q S (st.take S n) := by
  have hle := R.le
  have hA : nxtA st.a ((S.length : Int) - st.a) st.torn n = ((st.take S n).a : Int) ∧ nxtL ((S.length : Int) - st.a) st.torn n = (S.length : Int) - (st.take S n).a ∧ nxtT ((S.length : Int) - st.a) st.torn n = (st.take S n).torn := by
    unfold nxtA nxtL nxtT St.take
    by_cases c : st.torn = true ∨ S.length < st.a + n
    · have c' : st.torn = true ∨ (S.length : Int) - st.a < n := by rcases c with c | c; exact .inl c; right; omega
      rw [if_pos c, if_pos c', if_pos c', if_pos c']
      exact ⟨rfl, rfl, rfl⟩
    · have c' : ¬ (st.torn = true ∨ (S.length : Int) - st.a < n) := by intro d; apply c; rcases d with d | d; exact .inl d; right; omega
      rw [if_neg c, if_neg c', if_neg c', if_neg c']
      refine ⟨by simp, by simp; omega, ?_⟩
      show false = st.torn
      cases ht : st.torn with
      | true => exact absurd (.inl ht) c
      | false => rfl
  obtain ⟨v, hv, hf⟩ := R.blk
  have hsrc := R.src.after (n := (n : Int)) (by omega)
  rw [hA.1, hA.2.1, hA.2.2] at hsrc
  refine ⟨hsrc, ⟨v, by rw [blks_set_ne _ _ _ _ R.rs]; exact hv, ?_⟩, R.lr, R.rs, R.rp, R.rq, St.take_le n hle⟩
  rw [St.take_flt]
  refine hf.keep (Nat.le_refl _) fun d F a e' hd => blks_set_ne _ _ _ _ fun hds => ?_
  subst hds
  have := R.src.bs
  rw [hd] at this
  simp [faultB, srcB] at this
theorem Rd.ext {h h' : Hp} {r s p q : Nat} {S : List UInt8} {st : St} (R : Rd h r s p q S st) (x : Ext h h') : Rd h' r s p q S st := by
  obtain ⟨v, hv, hf⟩ := R.blk
  refine ⟨R.src.ext x, ⟨v, by rw [x.same _ R.lr]; exact hv, ?_⟩, Nat.lt_of_lt_of_le R.lr x.le, R.rs, R.rp, R.rq, R.le⟩
  cases ho : st.flt with
  | none => rw [ho] at hf; exact hf
  | some z =>
    rw [ho] at hf
    obtain ⟨d, rfl, hd, hl⟩ := hf
    exact ⟨d, rfl, by rw [x.same _ hl]; exact hd, Nat.lt_of_lt_of_le hl x.le⟩
theorem Fr.of_set (h : Hp) (r s : Nat) (b : Blk) : Fr h (h.set s b) r s := ⟨Nat.le_refl _, fun _ _ _ h3 => blks_set_ne _ _ _ _ h3⟩
theorem Fr.of_ext {h h' : Hp} (x : Ext h h') (r s : Nat) : Fr h h' r s := ⟨x.le, fun i h1 _ _ => x.same i h1⟩
def failN (t : Bool) : Int := if t = true then 4 else 0
/-- What the fields' readers leave. -/
def St.rd (S : List UInt8) (st : St) (F : ByteArray) (n : Nat) : St := (st.take S n).note F st.a (failN (st.take S n).torn)
theorem numTo_txt (l : List UInt8) : numTo (txt l) (txt l).size = numL l := by
  have := numTo_list (txt l) (txt l).size (Nat.le_refl _)
  rw [this, txt_data, txt_size, List.take_length]

/-- The number of a piece. -/
def numN (l : List UInt8) : Nat := (numL l).toNat
end Go.Proofs.YtmnemfeofhinaaaDoor
namespace Go.Proofs.YtmnemfeofhinaaaDoor
set_option maxRecDepth 100000
open Go Go.Mini Go.Proofs.Tryd

theorem numL_nat (l : List UInt8) : numL l = (numN l : Int) := by
  have := (numL_range l).1
  unfold numN; omega
theorem got_len (S : List UInt8) (st : St) (n : Nat) : (st.got S n).length ≤ n := by
  unfold St.got; split
  · simp
  · rw [List.length_take]; omega
theorem numN_le (l : List UInt8) {n : Nat} (h : l.length ≤ n) : numN l < 256 ^ n := by
  have h1 := numL_range l
  have h2 : ((256 ^ l.length : Nat) : Int) ≤ ((256 ^ n : Nat) : Int) := Int.ofNat_le.2 (Nat.pow_le_pow_right (by omega) h)
  rw [Int.natCast_pow 256 l.length, show ((256 : Nat) : Int) = 256 from rfl] at h2
  unfold numN; omega
theorem got1 (S : List UInt8) (st : St) : numN (st.got S 1) < 256 := numN_le _ (got_len S st 1)
theorem got2 (S : List UInt8) (st : St) : numN (st.got S 2) < 65536 := numN_le _ (got_len S st 2)
theorem got4 (S : List UInt8) (st : St) : numN (st.got S 4) < 4294967296 := numN_le _ (got_len S st 4)
/-- Nothing but the source turns. -/
structure Fs (h h' : Hp) (s : Nat) : Prop where
  le : h.next ≤ h'.next
  same : ∀ i, i < h.next → i ≠ s → h'.blks i = h.blks i
theorem Fs.refl (h : Hp) (s : Nat) : Fs h h s := ⟨Nat.le_refl _, fun _ _ _ => rfl⟩
theorem Fs.trans {h h' h'' : Hp} {s : Nat} (x : Fs h h' s) (y : Fs h' h'' s) : Fs h h'' s := ⟨Nat.le_trans x.le y.le, fun i h1 h2 => (y.same i (Nat.lt_of_lt_of_le h1 x.le) h2).trans (x.same i h1 h2)⟩
theorem Fs.of_ext {h h' : Hp} (x : Ext h h') (s : Nat) : Fs h h' s := ⟨x.le, fun i h1 _ => x.same i h1⟩
theorem Fs.fr {h h' : Hp} {s : Nat} (x : Fs h h' s) (r : Nat) : Fr h h' r s := ⟨x.le, fun i h1 _ h3 => x.same i h1 h3⟩
theorem Fs.alloc {h h' : Hp} {s : Nat} (x : Fs h h' s) (b : Blk) : Fs h (h'.alloc b) s := x.trans (Fs.of_ext (Ext.alloc _ _) s)
theorem Fs.set {h h' : Hp} {s : Nat} (x : Fs h h' s) {i : Nat} (hi : h.next ≤ i) (b : Blk) : Fs h (h'.set i b) s := ⟨x.le, fun j h1 h2 => by rw [blks_set_ne _ _ _ _ (by omega)]; exact x.same j h1 h2⟩
theorem Rd.alloc {h : Hp} {r s p q : Nat} {S : List UInt8} {st : St} (R : Rd h r s p q S st) (b : Blk) : Rd (h.alloc b) r s p q S st := R.ext (Ext.alloc _ _)
/-- A block that is none of the reader's turns. -/
theorem Rd.set {h : Hp} {r s p q : Nat} {S : List UInt8} {st : St} (R : Rd h r s p q S st) {i : Nat} {b b0 : Blk} (h0 : h.blks i = some b0) (h1 : i ≠ r) (h2 : i ≠ s) (h3 : i ≠ p) (h4 : i ≠ q) (h5 : ∀ f a n, b0 ≠ faultB f a n) : Rd (h.set i b) r s p q S st := by
  obtain ⟨v, hv, hf⟩ := R.blk
  refine ⟨R.src.off (Ne.symm h2) (Ne.symm h3) (Ne.symm h4), ⟨v, by rw [blks_set_ne _ _ _ _ (Ne.symm h1)]; exact hv, ?_⟩, R.lr, R.rs, R.rp, R.rq, R.le⟩
  refine hf.keep (Nat.le_refl _) fun d f a n hd => blks_set_ne _ _ _ _ fun e => ?_
  subst e
  rw [h0] at hd
  cases hd
  exact h5 f a n rfl
/-- What is not the reader's turns. -/
theorem Rd.turn {h h' : Hp} {r s p q : Nat} {S : List UInt8} {st : St} (R : Rd h r s p q S st) (hn : h.next ≤ h'.next) (hs : ∀ i, i < h.next → (i = r ∨ i = s ∨ i = p ∨ i = q ∨ ∃ f a n, h.blks i = some (faultB f a n)) → h'.blks i = h.blks i) : Rd h' r s p q S st := by
  obtain ⟨v, hv, hf⟩ := R.blk
  have x := R.src
  refine ⟨⟨by rw [hs s x.ls (by simp)]; exact x.bs, by rw [hs p x.lp (by simp)]; exact x.bp, by rw [hs q x.lq (by simp)]; exact x.bq, by have := x.ls; omega, by have := x.lp; omega, by have := x.lq; omega, x.ps, x.qs, x.at0, x.left0, x.sum, x.len⟩, ⟨v, by rw [hs r R.lr (by simp)]; exact hv, ?_⟩, by have := R.lr; omega, R.rs, R.rp, R.rq, R.le⟩
  cases ho : st.flt with
  | none => rw [ho] at hf; exact hf
  | some z =>
    rw [ho] at hf
    obtain ⟨d, rfl, hd, hl⟩ := hf
    exact ⟨d, rfl, by rw [hs d hl (.inr (.inr (.inr (.inr ⟨_, _, _, hd⟩))))]; exact hd, by omega⟩
theorem Rd.lps {h : Hp} {r s p q : Nat} {S : List UInt8} {st : St} (R : Rd h r s p q S st) : r < h.next ∧ s < h.next ∧ p < h.next ∧ q < h.next := ⟨R.lr, R.src.ls, R.src.lp, R.src.lq⟩

/-- Bytes, one behind the other. -/
def stB (S : List UInt8) (st : St) : Nat → St
  | 0 => st
  | k + 1 => (stB S st k).take S 1
def bN (S : List UInt8) (st : St) (k : Nat) : Nat := numN ((stB S st k).got S 1)
theorem bN_lt (S : List UInt8) (st : St) (k : Nat) : bN S st k < 256 := got1 S _

section
variable {h : Hp} {K : Value → Hp → Prop} {r s p q : Nat} {S : List UInt8} {st : St}
theorem take_rd {w : Nat} (hw : wideF (w : Int) = w) (R : Rd h r s p q S st) (hK : ∀ h', Rd h' r s p q S (st.take S w) → Fs h h' s → K (.int .u64 (numN (st.got S w))) h') : ACall prog 39 [.pointer (some ⟨s, 0, none⟩), .int .i64 w] h K := by
  refine taken_call R.src fun h1 x1 => ?_
  rw [hw] at x1 ⊢
  rw [got_eq S st w R.le, numTo_txt, numL_nat]
  exact hK _ ((R.take w).ext x1) ((show Fs h (h.set s _) s from ⟨Nat.le_refl _, fun i _ hi => blks_set_ne _ _ _ _ hi⟩).trans (Fs.of_ext x1 s))
theorem byte_call (R : Rd h r s p q S st) (hK : ∀ h', Rd h' r s p q S (st.take S 1) → Fs h h' s → K (.int .u8 (numN (st.got S 1))) h') : ACall prog 65 [.pointer (some ⟨r, 0, none⟩)] h K := by
  refine acallF_of tb0 func65 rfl rfl mixed (by kernel_rfl) fun hwf => ?_
  obtain ⟨v, hv, hf⟩ := R.blk
  have hv' : h.blks r = some ⟨#[.pointer (some ⟨s, 0, none⟩), v], 1, true⟩ := hv
  simp -dsimp (disch := omega) [hv']
  refine take_rd (w := 1) rfl R fun h1 R1 F1 => ?_
  have hb := got1 S st
  simp -dsimp (disch := omega)
  exact RetF.all (by simp) (hK _ R1 F1)

/-! ### Windows -/
def rdW (S : List UInt8) (st : St) : Win := ⟨numN (st.got S 1), numN ((st.take S 1).got S 2)⟩
def stW (S : List UInt8) (st : St) : St := (st.take S 1).take S 2
def tb35 (r : Nat) : Nat → Marks := fun k => if k = 1 then ⟨[1, 5], fun j => j = r⟩ else ⟨[], fun _ => True⟩
theorem tb35_1 (r : Nat) : tb35 r 1 = ⟨[1, 5], fun j => j = r⟩ := rfl
theorem window_call (R : Rd h r s p q S st) (hK : ∀ h', Rd h' r s p q S (stW S st) → Fs h h' s → K (.agg (winC (rdW S st)).toArray) h') : ACall prog 35 [.pointer (some ⟨r, 0, none⟩)] h K := by
  refine acallF_of (tb35 r) func35 rfl rfl mixed (by kernel_rfl) fun hwf => ?_
  simp -dsimp (disch := omega) [tb35_1]
  obtain ⟨lr, ls, lp, lq⟩ := R.lps
  refine byte_call (R.alloc _) fun h1 R1 F1 => ?_
  have F1n : h.next + 1 ≤ h1.next := by simpa using F1.le
  have b2 := F1.same h.next (by simp) (by omega)
  rw [blks_alloc_eq] at b2
  obtain ⟨v1, hv1, hf1⟩ := R1.blk
  have hv1' : h1.blks r = some ⟨#[.pointer (some ⟨s, 0, none⟩), v1], 1, true⟩ := hv1
  simp -dsimp (disch := omega) [tb35_1, hv1']
  refine ⟨fun j hj hR => ?_, take_rd (w := 2) rfl R1 fun h3 R3 F3 => ?_⟩
  · obtain rfl : j = r := by simpa using hR
    exact F1.same j (by simp; omega) R.rs
  have F3n := F3.le
  have b3 := F3.same h.next (by omega) (by omega)
  rw [b2] at b3
  have hb1 := got1 S st
  have hb2 := got2 S (st.take S 1)
  have hs3 : ∀ x, ¬ (h3.next ≤ x ∧ x < h3.next) := fun x => by omega
  simp -dsimp (disch := omega) [tb35_1, b3]
  have hF : Fs h (h3.set h.next ⟨#[.int .u8 (numN (st.got S 1)), .int .u16 (numN ((st.take S 1).got S 2))], 1, true⟩) s := (((Fs.refl h s).alloc _).trans (F1.trans F3)).set (Nat.le_refl _) _
  exact RetF.all (by simp; rfl) (hK _ (R3.set b3 (by omega) (by omega) (by omega) (by omega) (fun f a n e => by simp [faultB] at e)) hF)

/-! ### Guests -/
def stG0 (S : List UInt8) (st : St) : St := ((st.take S 1).take S 4).take S 1
def rdG (S : List UInt8) (st : St) : Gu := ⟨numN (st.got S 1), numN ((st.take S 1).got S 4), numN (((st.take S 1).take S 4).got S 1), (List.range 17).map (bN S (stG0 S st))⟩
def stG (S : List UInt8) (st : St) : St := stB S (stG0 S st) 17
theorem rdG_ok (S : List UInt8) (st : St) : (rdG S st).ok := by
  refine ⟨got1 _ _, got4 _ _, got1 _ _, by simp [rdG], fun a ha => ?_⟩
  obtain ⟨k, _, rfl⟩ := List.mem_map.1 ha
  exact bN_lt _ _ _
/-- A guest whose first actions are read. -/
def guK (S : List UInt8) (st : St) (k : Nat) : Gu := { rdG S st with ac := (List.range 17).map fun i => if i < k then bN S (stG0 S st) i else 0 }
theorem guK_zero (S : List UInt8) (st : St) : (guC (guK S st 0)).toArray = #[.int .u8 (numN (st.got S 1)), .int .u32 (numN ((st.take S 1).got S 4)), .int .u8 (numN (((st.take S 1).take S 4).got S 1)), .int .u8 0, .int .u8 0, .int .u8 0, .int .u8 0, .int .u8 0, .int .u8 0, .int .u8 0, .int .u8 0, .int .u8 0, .int .u8 0, .int .u8 0, .int .u8 0, .int .u8 0, .int .u8 0, .int .u8 0, .int .u8 0, .int .u8 0] := rfl
theorem guK_all (S : List UInt8) (st : St) : guK S st 17 = rdG S st := by
  unfold guK rdG
  congr 1
theorem guK_len (S : List UInt8) (st : St) (k : Nat) : (guC (guK S st k)).toArray.size = 20 := by simp [guC, guK, u8L]
theorem guK_set (S : List UInt8) (st : St) (k : Nat) (hk : k < 17) : (guC (guK S st k)).toArray.setIfInBounds (3 + k) (.int .u8 (bN S (stG0 S st) k)) = (guC (guK S st (k + 1))).toArray := by
  apply Array.ext_getElem?
  intro j
  rw [Array.getElem?_setIfInBounds, guK_len]
  simp only [guC, guK, u8L, List.map_map, List.getElem?_toArray]
  by_cases hj : 3 + k = j
  · subst hj
    rw [if_pos rfl, if_pos (by omega), show 3 + k = k + 1 + 1 + 1 by omega, List.getElem?_cons_succ, List.getElem?_cons_succ, List.getElem?_cons_succ, List.getElem?_map, List.getElem?_range hk]
    simp
  · rw [if_neg hj]
    match j with
    | 0 => rfl
    | 1 => rfl
    | 2 => rfl
    | j + 3 =>
      simp only [List.getElem?_cons_succ, List.getElem?_map]
      by_cases h17 : j < 17
      · rw [List.getElem?_range h17]
        simp only [Option.map_some, Function.comp_apply]
        by_cases hjk : j < k
        · rw [if_pos hjk, if_pos (by omega)]
        · rw [if_neg hjk, if_neg (by omega)]
      · rw [List.getElem?_eq_none (by simp; omega)]; rfl
def tb33 (r : Nat) : Nat → Marks := fun k => if k = 1 then ⟨[1, 5, 2000011], fun j => j = r⟩ else ⟨[], fun _ => True⟩
theorem tb33_1 (r : Nat) : tb33 r 1 = ⟨[1, 5, 2000011], fun j => j = r⟩ := rfl
set_option maxHeartbeats 2000000 in
theorem rguest_call (R : Rd h r s p q S st) (hK : ∀ h', Rd h' r s p q S (stG S st) → Fs h h' s → K (.agg (guC (rdG S st)).toArray) h') : ACall prog 33 [.pointer (some ⟨r, 0, none⟩)] h K := by
  refine acallF_of (tb33 r) func33 rfl rfl mixed (by kernel_rfl) fun hwf => ?_
  simp -dsimp (disch := omega) [tb33_1]
  obtain ⟨lr, ls, lp, lq⟩ := R.lps
  refine byte_call (R.alloc _) fun h1 R1 F1 => ?_
  have F1n : h.next + 1 ≤ h1.next := by simpa using F1.le
  have b2 := F1.same h.next (by simp) (by omega)
  rw [blks_alloc_eq] at b2
  obtain ⟨v1, hv1, hf1⟩ := R1.blk
  have hv1' : h1.blks r = some ⟨#[.pointer (some ⟨s, 0, none⟩), v1], 1, true⟩ := hv1
  simp -dsimp (disch := omega) [tb33_1, hv1']
  refine ⟨fun j hj hR => ?_, take_rd (w := 4) rfl R1 fun h3 R3 F3 => ?_⟩
  · obtain rfl : j = r := by simpa using hR
    exact F1.same j (by simp; omega) R.rs
  have F3n := F3.le
  have b3 := F3.same h.next (by omega) (by omega)
  rw [b2] at b3
  simp -dsimp (disch := omega) [tb33_1]
  refine byte_call R3 fun h4 R4 F4 => ?_
  have F4n := F4.le
  have b4 := F4.same h.next (by omega) (by omega)
  rw [b3] at b4
  have hb1 := got1 S st
  have hb2 := got4 S (st.take S 1)
  have hb3 := got1 S ((st.take S 1).take S 4)
  simp -dsimp (disch := omega) [tb33_1]
  have FA : Fs h h4 s := ((Fs.refl h s).alloc _).trans ((F1.trans F3).trans F4)
  rw [← guK_zero]
  obtain ⟨n4, hn4⟩ : ∃ n4, n4 = h4.next := ⟨_, rfl⟩
  refine awp_loop (fun t hh => Rd hh r s p q S (stB S (stG0 S st) (ivN (t 16))) ∧ Fs h hh s ∧ n4 < hh.next ∧ hh.blks h.next = some ⟨#[Value.int .u8 0, Value.int .u32 0, Value.int .u8 0, Value.int .u8 0, Value.int .u8 0, Value.int .u8 0, Value.int .u8 0, Value.int .u8 0, Value.int .u8 0, Value.int .u8 0, Value.int .u8 0, Value.int .u8 0, Value.int .u8 0, Value.int .u8 0, Value.int .u8 0, Value.int .u8 0, Value.int .u8 0, Value.int .u8 0, Value.int .u8 0, Value.int .u8 0], 1, true⟩ ∧ ∃ k : Nat, k ≤ 17 ∧ t 0 = ptr r ∧ t 2 = ptr h.next ∧ t 3 = ptr n4 ∧ t 16 = .int .i64 k ∧ hh.blks n4 = some ⟨(guC (guK S st k)).toArray, 1, true⟩) (fun t _ => 17 - ivN (t 16)) ?_ ?_
  · simp -dsimp (disch := omega) [ivN]
    exact ⟨R4.alloc _, FA.alloc _, by omega, b4, 0, by omega, rfl, rfl⟩
  · rintro t hh ⟨R5, F5, hn5, b5, k, hk, g0, g2, g3, g16, hA⟩
    rw [g16] at R5
    simp only [ivN_int, Int.toNat_natCast] at R5
    refine vcF_sound (tb := tb33 r) mixed _ (by kernel_rfl) ?_
    simp -dsimp (disch := omega) [g16]
    have hn5' : h.next < n4 := by omega
    refine CondF_dec (fun hc => ?_) (fun hc => ?_)
    · simp -dsimp (disch := omega) [g0, g16]
      refine byte_call R5 fun h6 R6 F6 => ?_
      have F6n := F6.le
      have hA6 := F6.same n4 hn5 (by omega)
      rw [hA] at hA6
      have b6 := F6.same h.next (by omega) (by omega)
      rw [b5] at b6
      have hset := guK_set S st k (by omega)
      have hsz := guK_len S st k
      obtain ⟨A, hAe⟩ : ∃ A, A = (guC (guK S st k)).toArray := ⟨_, rfl⟩
      rw [← hAe] at hA6 hset hsz
      have hbn := bN_lt S (stG0 S st) k
      rw [show numN ((stB S (stG0 S st) k).got S 1) = bN S (stG0 S st) k from rfl]
      simp -dsimp (disch := omega) [g0, g2, g3, g16, hA6, hsz, hset]
      refine ⟨⟨R6.set hA6 (by omega) (by omega) (by omega) (by omega) (fun f a n e => by rw [hAe] at e; have := congrArg (fun b => b.cells.size) e; rw [guK_len] at this; simp [faultB] at this), (F5.trans F6).set (by omega) _, by omega, b6, k + 1, by omega, by simp, rfl⟩, by simp [ivN]; omega⟩
    · have hk17 : k = 17 := by omega
      subst hk17
      rw [guK_all] at hA
      have hok := rdG_ok S st
      obtain ⟨A, hAe⟩ : ∃ A, A = (guC (rdG S st)).toArray := ⟨_, rfl⟩
      rw [← hAe] at hA hK
      have hone : oneAll A.toList = true := by rw [hAe]; exact guC_one _
      have hsz : A.size = 20 := by rw [hAe]; simpa using Gu.len hok
      have hex : A.extract 0 20 = A := by rw [← hsz]; exact Array.extract_size
      have hput : Mini.putL #[Value.int .u8 0, Value.int .u32 0, Value.int .u8 0, Value.int .u8 0, Value.int .u8 0, Value.int .u8 0, Value.int .u8 0, Value.int .u8 0, Value.int .u8 0, Value.int .u8 0, Value.int .u8 0, Value.int .u8 0, Value.int .u8 0, Value.int .u8 0, Value.int .u8 0, Value.int .u8 0, Value.int .u8 0, Value.int .u8 0, Value.int .u8 0, Value.int .u8 0] 0 A.toList = A := putL_full (by rw [hsz]; rfl)
      simp -dsimp (disch := omega) [g0, g2, g3, g16, hA, hsz, hex, b5, hput, hone]
      exact RetF.all (by simp (disch := omega) [g2, hsz, hex]) (hK _ (R5.set b5 (by omega) (by omega) (by omega) (by omega) (fun f a n e => by have := congrArg (fun b => b.cells.size) e; simp [faultB] at this)) (F5.set (by omega) _))
end
end Go.Proofs.YtmnemfeofhinaaaDoor
namespace Go.Proofs.YtmnemfeofhinaaaDoor
set_option maxRecDepth 100000
open Go Go.Mini Go.Proofs.Tryd

def stC5 (S : List UInt8) (st : St) : St := stB S st 5
def stC7 (S : List UInt8) (st : St) : St := ((stC5 S st).take S 4).take S 1
def nTo (S : List UInt8) (st : St) : Nat := numN (((stC5 S st).take S 4).got S 1)
def toK (S : List UInt8) (st : St) (k : Nat) : List (Nat × Nat) := (List.range k).map fun i => (bN S (stC7 S st) (2 * i), bN S (stC7 S st) (2 * i + 1))
def rdC (S : List UInt8) (st : St) : Ch := ⟨bN S st 0, bN S st 1, bN S st 2, toK S st (nTo S st), bN S st 3, bN S st 4, numN ((stC5 S st).got S 4)⟩
def stC (S : List UInt8) (st : St) : St := stB S (stC7 S st) (2 * nTo S st)
theorem toK_len (S : List UInt8) (st : St) (k : Nat) : (toK S st k).length = k := by simp [toK]
theorem toK_succ (S : List UInt8) (st : St) (k : Nat) : toK S st (k + 1) = toK S st k ++ [(bN S (stC7 S st) (2 * k), bN S (stC7 S st) (2 * k + 1))] := by
  unfold toK; rw [List.range_succ, List.map_append]; rfl
theorem rdC_ok (S : List UInt8) (st : St) : (rdC S st).ok := by
  refine ⟨bN_lt _ _ _, bN_lt _ _ _, bN_lt _ _ _, bN_lt _ _ _, bN_lt _ _ _, got4 _ _, fun e he => ?_, ?_⟩
  · obtain ⟨k, _, rfl⟩ := List.mem_map.1 he
    exact ⟨bN_lt _ _ _, bN_lt _ _ _⟩
  · show (toK S st (nTo S st)).length < _
    rw [toK_len]
    have := got1 S ((stC5 S st).take S 4)
    unfold nTo; omega
def tb37 (s : Nat) : Nat → Marks := fun k => if k = 1 then ⟨[1, 3, 5, 7, 9, 13, 2000017], fun j => j ≠ s⟩ else if k = 5 then ⟨[1, 3, 5], fun j => j ≠ s⟩ else ⟨[], fun _ => True⟩
theorem tb37_1 (s : Nat) : tb37 s 1 = ⟨[1, 3, 5, 7, 9, 13, 2000017], fun j => j ≠ s⟩ := rfl
theorem tb37_5 (s : Nat) : tb37 s 5 = ⟨[1, 3, 5], fun j => j ≠ s⟩ := rfl

section
variable {h : Hp} {K : Value → Hp → Prop} {r s p q : Nat} {S : List UInt8} {st : St}
set_option maxHeartbeats 4000000 in
theorem rchannel_call (R : Rd h r s p q S st) (hK : ∀ h' vt, Rd h' r s p q S (stC S st) → Fs h h' s → Row h.next h' 2 (rdC S st).to.length (endsC (rdC S st).to) vt → K (.agg (chC (rdC S st) vt).toArray) h') : ACall prog 37 [.pointer (some ⟨r, 0, none⟩)] h K := by
  refine acallF_of (tb37 s) func37 rfl rfl mixed (by kernel_rfl) fun hwf => ?_
  simp -dsimp (disch := omega) [tb37_1]
  obtain ⟨lr, ls, lp, lq⟩ := R.lps
  have hrs := R.rs
  refine byte_call (R.alloc _) fun h1 R1 F1 => ?_
  have F1n : h.next + 1 ≤ h1.next := by simpa using F1.le
  have b1 := F1.same h.next (by simp) (by omega)
  rw [blks_alloc_eq] at b1
  simp -dsimp (disch := omega) [tb37_1]
  refine ⟨fun j hj hR => F1.same j (by simp; omega) (by simpa using hR), ?_⟩
  refine byte_call R1 fun h2 R2 F2 => ?_
  have F2n := F2.le
  have b2 := (F2.same h.next (by omega) (by omega)).trans b1
  simp -dsimp (disch := omega) [tb37_1]
  refine ⟨fun j hj hR => F2.same j (by omega) (by simpa using hR), ?_⟩
  refine byte_call R2 fun h3 R3 F3 => ?_
  have F3n := F3.le
  have b3 := (F3.same h.next (by omega) (by omega)).trans b2
  simp -dsimp (disch := omega) [tb37_1]
  refine ⟨fun j hj hR => F3.same j (by omega) (by simpa using hR), ?_⟩
  refine byte_call R3 fun h4 R4 F4 => ?_
  have F4n := F4.le
  have b4 := (F4.same h.next (by omega) (by omega)).trans b3
  simp -dsimp (disch := omega) [tb37_1]
  refine ⟨fun j hj hR => F4.same j (by omega) (by simpa using hR), ?_⟩
  refine byte_call R4 fun h5 R5 F5 => ?_
  have F5n := F5.le
  have b5 := (F5.same h.next (by omega) (by omega)).trans b4
  obtain ⟨v5, hv5, hf5⟩ := R5.blk
  have hv5' : h5.blks r = some ⟨#[.pointer (some ⟨s, 0, none⟩), v5], 1, true⟩ := hv5
  simp -dsimp (disch := omega) [tb37_1, hv5', hrs]
  refine ⟨fun j hj hR => F5.same j (by omega) (by simpa using hR), ?_⟩
  refine take_rd (w := 4) rfl R5 fun h6 R6 F6 => ?_
  have F6n := F6.le
  have b6 := (F6.same h.next (by omega) (by omega)).trans b5
  have hb5 : numN (St.got S (St.take S (St.take S (St.take S (St.take S (St.take S st 1) 1) 1) 1) 1) 4) < 4294967296 := got4 _ _
  simp -dsimp (disch := omega) [tb37_1]
  refine ACallF.gen fun G hG => ?_
  have hG : G = h6.alloc ⟨(chC (rdC S st) (.slice none 0 0)).toArray, 1, true⟩ := hG
  have Gn : G.next = h6.next + 1 := by rw [hG]; simp
  have R6' : Rd G r s p q S ((stC5 S st).take S 4) := by rw [hG]; exact R6.alloc _
  have FA : Fs h G s := by rw [hG]; exact ((((((Fs.refl h s).alloc _).trans F1).trans (F2.trans F3)).trans (F4.trans F5)).trans F6).alloc _
  have bG : G.blks h.next = some ⟨#[.int .u8 0, .int .u8 0, .int .u8 0, .slice none 0 0, .int .u8 0, .int .u8 0, .int .u32 0], 1, true⟩ := by rw [hG, blks_alloc_ne _ _ _ (by omega)]; exact b6
  have cG : G.blks h6.next = some ⟨(chC (rdC S st) (.slice none 0 0)).toArray, 1, true⟩ := by rw [hG]; exact blks_alloc_eq _ _
  clear hG
  refine byte_call R6' fun h7 R7 F7 => ?_
  have F7n := F7.le
  have b7 := (F7.same h.next (by omega) (by omega)).trans bG
  have c7 := (F7.same h6.next (by omega) (by omega)).trans cG
  have FB := FA.trans F7
  clear b1 b2 b3 b4 b5 b6 bG cG R1 R2 R3 R4 R5 R6 hv5 hv5' hf5
  obtain ⟨n4, hn4⟩ : ∃ n4, n4 = h6.next := ⟨_, rfl⟩
  rw [← hn4] at c7 ⊢
  have hn4h : h.next < n4 := by omega
  obtain ⟨N, hN⟩ : ∃ N, N = nTo S st := ⟨_, rfl⟩
  have hN2 : numN (St.got S ((stC5 S st).take S 4) 1) = N := hN.symm
  have hN256 : N < 256 := by rw [hN]; exact got1 _ _
  rw [hN2]
  simp -dsimp (disch := omega)
  refine awp_loop (fun t hh => Rd hh r s p q S (stB S (stC7 S st) (2 * (N - ivN (t 4)))) ∧ Fs h hh s ∧ n4 < hh.next ∧ hh.blks h.next = some ⟨#[.int .u8 0, .int .u8 0, .int .u8 0, .slice none 0 0, .int .u8 0, .int .u8 0, .int .u32 0], 1, true⟩ ∧ ∃ (k : Nat) (vt : Value), k ≤ N ∧ t 0 = ptr r ∧ t 2 = ptr h.next ∧ t 3 = ptr n4 ∧ t 4 = .int .u8 ((N - k : Nat) : Int) ∧ hh.blks n4 = some ⟨(chC (rdC S st) vt).toArray, 1, true⟩ ∧ Row h.next hh 2 k (endsC (toK S st k)) vt ∧ sblk vt ≠ some n4 ∧ sblk vt ≠ some h.next) (fun t _ => ivN (t 4)) ?_ ?_
  · simp -dsimp (disch := omega) [ivN]
    exact ⟨R7, FB, by omega, b7, 0, by omega, by simp, _, c7, Row.nil _ _ _, by simp [sblk], by simp [sblk]⟩
  · rintro t hh ⟨R8, F8, hn8, b8, k, vt, hk, g0, g2, g3, g4, hcc, hrow, hv1, hv2⟩
    rw [g4] at R8
    simp only [ivN_int, Int.toNat_natCast] at R8
    rw [show N - (N - k) = k by omega] at R8
    refine vcF_sound (tb := tb37 s) mixed _ (by kernel_rfl) ?_
    simp -dsimp (disch := omega) [g4]
    have F8n := F8.le
    obtain ⟨C, hC⟩ : ∃ C : Value → Array Value, C = fun vt => (chC (rdC S st) vt).toArray := ⟨_, rfl⟩
    have hC3 : ∀ vt, (C vt)[3]? = some vt := fun vt => by rw [hC]; rfl
    have hCs : ∀ vt, (C vt).size = 7 := fun vt => by rw [hC]; rfl
    have hCu : ∀ vt u, (C vt).setIfInBounds 3 u = C u := fun vt u => by rw [hC]; rfl
    have hcc : hh.blks n4 = some ⟨C vt, 1, true⟩ := by rw [hC]; exact hcc
    have hblk := hrow.blk
    refine CondF_dec (fun hc => ?_) (fun hc => ?_)
    · simp -dsimp (disch := omega) [g0, g3, hcc, hC3, hCs, tb37_5, -getElem?_pos]
      refine ⟨by omega, ?_⟩
      refine byte_call R8 fun hA RA FA' => ?_
      have FAn := FA'.le
      simp -dsimp (disch := omega) [tb37_5, g0]
      refine ⟨fun j hj hR => FA'.same j (by omega) (by simpa using hR), ?_⟩
      refine byte_call RA fun hB RB FB' => ?_
      have FBn := FB'.le
      have FC := FA'.trans FB'
      have hx1 := bN_lt S (stC7 S st) (2 * k)
      have hx2 := bN_lt S (stC7 S st) (2 * k + 1)
      rw [show numN ((stB S (stC7 S st) (2 * k)).got S 1) = bN S (stC7 S st) (2 * k) from rfl, show numN (((stB S (stC7 S st) (2 * k)).take S 1).got S 1) = bN S (stC7 S st) (2 * k + 1) from rfl]
      simp -dsimp (disch := omega) [tb37_5, g0]
      refine ⟨fun j hj hR => FB'.same j (by omega) (by simpa using hR), ?_⟩
      have hrowB : Row h.next (hB.alloc ⟨#[.int .u8 (bN S (stC7 S st) (2 * k)), .int .u8 (bN S (stC7 S st) (2 * k + 1))], 2, true⟩) 2 k (endsC (toK S st k)) vt := (hrow.mono (by omega) fun b hb => FC.same b (hblk b hb).2 (by have := (hblk b hb).1; omega)).alloc _
      refine app_row hrowB (by simp; omega) (src_slice _ 2 1 2 ⟨hB.next, 0, none⟩ #[.int .u8 (bN S (stC7 S st) (2 * k)), .int .u8 (bN S (stC7 S st) (2 * k + 1))] (by simp (disch := omega))) (by omega) rfl (by unfold ROOM; omega) fun v' h' r1 r2 r3 r4 => ?_
      have r2' : h'.next = hB.next + 2 := by rw [r2]; simp
      have same' : ∀ i, i < hB.next → sblk vt ≠ some i → h'.blks i = hB.blks i := fun i hi hv => by rw [r4 i (by simp; omega) hv, blks_alloc_ne _ _ _ (by omega)]
      have hcc' : h'.blks n4 = some ⟨C vt, 1, true⟩ := by rw [same' n4 (by omega) hv1, FC.same n4 hn8 (by omega)]; exact hcc
      have b8' : h'.blks h.next = some ⟨#[.int .u8 0, .int .u8 0, .int .u8 0, .slice none 0 0, .int .u8 0, .int .u8 0, .int .u32 0], 1, true⟩ := by rw [same' _ (by omega) hv2, FC.same _ (by omega) (by omega)]; exact b8
      have RB' : Rd h' r s p q S (stB S (stC7 S st) (2 * (k + 1))) := by
        refine Rd.turn (show Rd hB r s p q S (stB S (stC7 S st) (2 * (k + 1))) from RB) (by omega) fun i hi hw => same' i hi fun hv => ?_
        have := (hblk i hv).1
        rcases hw with rfl | rfl | rfl | rfl | ⟨f, a, n, hw⟩
        · omega
        · omega
        · omega
        · omega
        · obtain ⟨_, ⟨rfl, _⟩ | ⟨b, y1, y2, rfl, y3⟩⟩ := hrow
          · simp [sblk] at hv
          · have : b = i := by simpa [sblk] using hv
            subst this
            rw [FC.same b (by omega) (by omega), y3] at hw
            have := congrArg (fun x => x.map (fun y : Blk => y.esz)) hw
            simp [faultB] at this
      have FD : Fs h h' s := ⟨by omega, fun i hi hne => by rw [same' i (by omega) (fun hv => by have := (hblk i hv).1; omega), FC.same i (by omega) hne, F8.same i hi hne]⟩
      have hb' : sblk v' = some (hB.next + 1) := by rw [r3]; simp
      obtain ⟨a', c', rfl⟩ := r1.slice
      have hNk : ((N - k : Nat) : Int) - 1 = ((N - (k + 1) : Nat) : Int) := by omega
      simp -dsimp (disch := omega) [tb37_5, g0, g2, g3, g4, hcc', hCs, hCu]
      rw [hNk]
      have hvn : ∀ i, i < hB.next → sblk (.slice a' (k + 1) c') ≠ some i := fun i hi e => by rw [e] at hb'; cases hb'; omega
      refine ⟨⟨?_, FD.set (by omega) _, by omega, b8', k + 1, by omega, rfl, _, by rw [hC], ?_, hvn _ (by omega), hvn _ (by omega)⟩, by simp [ivN]; omega⟩
      · simp only [ivN_int, Int.toNat_natCast]
        rw [show N - (N - (k + 1)) = k + 1 by omega]
        exact RB'.set hcc' (by omega) (by omega) (by omega) (by omega) fun f a n e => by have : (C vt).size = 3 := congrArg (fun b : Blk => b.cells.size) e; rw [hCs] at this; omega
      · rw [toK_succ, endsC_app]
        exact Row.set r1 _ _ (hvn _ (by omega))
    · have hkN : k = N := by omega
      rw [hkN] at hrow R8
      have hex : (C vt).extract 0 7 = C vt := by rw [← hCs vt]; exact Array.extract_size
      have hone : oneAll (C vt).toList = true := by obtain ⟨_, _, rfl⟩ := hrow.slice; rw [hC]; rfl
      have hput : Mini.putL #[Value.int .u8 0, Value.int .u8 0, Value.int .u8 0, Value.slice none 0 0, Value.int .u8 0, Value.int .u8 0, Value.int .u32 0] 0 (C vt).toList = C vt := putL_full (by rw [hCs]; rfl)
      simp -dsimp (disch := omega) [g0, g2, g3, g4, hcc, hCs, hex, b8, hput, hone]
      have hvt : ∀ i, sblk vt = some i → h.next ≤ i := fun i hi => (hblk i hi).1
      refine RetF.all (by simp (disch := omega) [g2, hCs, hex]) (?_ : K (.agg (C vt)) _)
      have R9 : Rd hh r s p q S (stC S st) := by rw [hN] at R8; exact R8
      rw [hC]
      refine hK _ vt (R9.set b8 (by omega) (by omega) (by omega) (by omega) (fun f a n e => by have := congrArg (fun b => b.cells.size) e; simp [faultB] at this)) (F8.set (by omega) _) ?_
      rw [show (rdC S st).to = toK S st N by rw [hN]; rfl, toK_len]
      exact Row.set hrow _ _ hv2
end
end Go.Proofs.YtmnemfeofhinaaaDoor
namespace Go.Proofs.YtmnemfeofhinaaaDoor
set_option maxRecDepth 100000
open Go Go.Mini Go.Proofs.Tryd

/-- So many, one behind the other, up to the first fault. -/
def lsX {α : Type} (rd : St → α) (nx : St → St) (each : ByteArray) : Nat → Nat → St → List α × St
  | 0, _, st => ([], st)
  | n + 1, i, st => if st.flt = none then
      (rd st :: (lsX rd nx each n (i + 1) ((nx st).note each (i : Nat) (failN (nx st).torn))).1, (lsX rd nx each n (i + 1) ((nx st).note each (i : Nat) (failN (nx st).torn))).2)
    else ([], st)
theorem lsX_flt {α : Type} {rd : St → α} {nx : St → St} {each : ByteArray} {n i : Nat} {st : St} (h : st.flt ≠ none) : lsX rd nx each n i st = ([], st) := by
  cases n with
  | zero => rfl
  | succ n => rw [lsX, if_neg h]
/-- How many, and these. -/
def lsN (S : List UInt8) (st : St) : Nat := numN (st.got S 1)
def lsS (S : List UInt8) (all : ByteArray) (st : St) : St := (st.take S 1).note all 0 (failN (st.take S 1).torn)
def lsA {α : Type} (S : List UInt8) (rd : St → α) (nx : St → St) (all each : ByteArray) (st : St) : List α × St := lsX rd nx each (lsN S st) 0 (lsS S all st)

section
variable {h : Hp} {K : Value → Hp → Prop} {r s p q : Nat} {S : List UInt8} {st : St}
theorem Rd.fr {h h' : Hp} {r s : Nat} (x : Fr h h' r s) {m : Nat} (hr : r < m) (hs : s < m) {e n : Nat} {cs : List Value} {v : Value} (R : Row m h e n cs v) : Row m h' e n cs v :=
  R.mono x.le fun b hb => x.same b (R.blk b hb).2 (by have := (R.blk b hb).1; omega) (by have := (R.blk b hb).1; omega)
theorem failR (R : Rd h r s p q S st) (hK : K (.int .i64 (failN st.torn)) h) : ACall prog 31 [.pointer (some ⟨s, 0, none⟩)] h K := fail_call R.src hK
theorem Rd.app {m : Nat} {hh h' : Hp} {st : St} (R : Rd hh r s p q S st) (h1 : r < m) (h2 : s < m) (h3 : p < m) (h4 : q < m) {e n : Nat} {cs : List Value} {v : Value} (row : Row m hh e n cs v) (he : e ≠ 1) (hn : hh.next ≤ h'.next) (hs : ∀ i, i < hh.next → sblk v ≠ some i → h'.blks i = hh.blks i) : Rd h' r s p q S st := by
  refine R.turn hn fun i hi hw => hs i hi fun hv => ?_
  have := (row.blk i hv).1
  rcases hw with rfl | rfl | rfl | rfl | ⟨f, a, n, hw⟩
  · omega
  · omega
  · omega
  · omega
  · obtain ⟨_, ⟨rfl, _⟩ | ⟨b, y1, y2, rfl, y3⟩⟩ := row
    · simp [sblk] at hv
    · have : b = i := by simpa [sblk] using hv
      subst this
      rw [y3] at hw
      cases hw
      exact he rfl
theorem guesC_snoc (l : List Gu) (g : Gu) : guesC (l ++ [g]) = guesC l ++ guC g := by simp [guesC]
set_option maxHeartbeats 4000000 in
theorem lguest_call {all each : ByteArray} (R : Rd h r s p q S st) (hK : ∀ h' v, Rd h' r s p q S (lsA S (rdG S) (stG S) all each st).2 → Fr h h' r s → Row h.next h' 20 (lsA S (rdG S) (stG S) all each st).1.length (guesC (lsA S (rdG S) (stG S) all each st).1) v → K v h') :
    ACall prog 32 [.pointer (some ⟨r, 0, none⟩), .string all, .string each, .func (.func 33) #[.pointer (some ⟨r, 0, none⟩)] #[]] h K := by
  refine acallF_of tb0 func32 rfl rfl mixed (by kernel_rfl) fun hwf => ?_
  simp -dsimp (disch := omega)
  obtain ⟨lr, ls, lp, lq⟩ := R.lps
  refine byte_call R fun h1 R1 F1 => ?_
  have hb1 := got1 S st
  obtain ⟨v1, hv1, hf1⟩ := R1.blk
  have hv1' : h1.blks r = some ⟨#[.pointer (some ⟨s, 0, none⟩), v1], 1, true⟩ := hv1
  simp -dsimp (disch := omega) [hv1']
  refine failR R1 ?_
  simp -dsimp (disch := omega) [hv1']
  refine note_call R1 fun h2 R2 F2 => ?_
  simp -dsimp (disch := omega)
  have F12 : Fr h h2 r s := (F1.fr r).trans F2
  obtain ⟨N, hN⟩ : ∃ N, N = numN (st.got S 1) := ⟨_, rfl⟩
  rw [← hN] at hb1 ⊢
  have hA : lsA S (rdG S) (stG S) all each st = lsX (rdG S) (stG S) each N 0 (lsS S all st) := by rw [hN]; rfl
  rw [hA] at hK
  refine awp_loop (fun t hh => Fr h hh r s ∧ ∃ (i : Nat) (acc : List Gu) (sti : St) (v : Value), i ≤ N ∧ t 0 = ptr r ∧ t 2 = .string each ∧ t 3 = .func (.func 33) #[ptr r] #[] ∧ t 8 = v ∧ t 9 = .int .i64 N ∧ t 10 = .int .i64 i ∧ Rd hh r s p q S sti ∧ Row h.next hh 20 i (guesC acc) v ∧ acc.length = i ∧ lsX (rdG S) (stG S) each N 0 (lsS S all st) = (acc ++ (lsX (rdG S) (stG S) each (N - i) i sti).1, (lsX (rdG S) (stG S) each (N - i) i sti).2)) (fun t _ => N - ivN (t 10)) ?_ ?_
  · simp -dsimp (disch := omega)
    exact ⟨F12, 0, by omega, rfl, [], _, R2, Row.nil _ _ _, rfl, rfl⟩
  · rintro t hh ⟨F3, i, acc, sti, v, hi, g0, g2, g3, g8, g9, g10, R3, hrow, hacc, heq⟩
    refine vcF_sound (tb := tb0) mixed _ (by kernel_rfl) ?_
    obtain ⟨v3, hv3, hf3⟩ := R3.blk
    have hv3' : hh.blks r = some ⟨#[.pointer (some ⟨s, 0, none⟩), v3], 1, true⟩ := hv3
    by_cases hc : i < N
    · cases hfl : sti.flt with
      | some z =>
        rw [hfl] at hf3
        obtain ⟨d, rfl, hd, hdl⟩ := hf3
        rw [lsX_flt (rd := rdG S) (nx := stG S) (each := each) (n := N - i) (i := i) (st := sti) (by rw [hfl]; simp)] at heq
        simp only [List.append_nil] at heq
        rw [heq] at hK
        simp -dsimp (disch := omega) [g0, g8, g9, g10, hv3', hc]
        simp only at hK
        rw [hacc] at hK
        exact RetF.all (by simp) (hK _ _ R3 F3 hrow)
      | none =>
        rw [hfl] at hf3
        obtain rfl : v3 = .pointer none := hf3
        simp -dsimp (disch := omega) [g0, g3, g8, g9, g10, hv3', hc]
        refine rguest_call R3 fun h4 R4 F4 => ?_
        have hok := rdG_ok S sti
        obtain ⟨A, hAe⟩ : ∃ A, A = (guC (rdG S sti)).toArray := ⟨_, rfl⟩
        rw [← hAe]
        have hone : oneAll A.toList = true := by rw [hAe]; exact guC_one _
        have hsz : A.size = 20 := by rw [hAe]; simpa using Gu.len hok
        have hput : Mini.putL #[Value.int .u8 0, Value.int .u32 0, Value.int .u8 0, Value.int .u8 0, Value.int .u8 0, Value.int .u8 0, Value.int .u8 0, Value.int .u8 0, Value.int .u8 0, Value.int .u8 0, Value.int .u8 0, Value.int .u8 0, Value.int .u8 0, Value.int .u8 0, Value.int .u8 0, Value.int .u8 0, Value.int .u8 0, Value.int .u8 0, Value.int .u8 0, Value.int .u8 0] 0 A.toList = A := putL_full (by rw [hsz]; rfl)
        have F34 : Fr h h4 r s := F3.trans (F4.fr r)
        have F4n := F34.le
        have hrow4 : Row h.next h4 20 i (guesC acc) v := Rd.fr (F4.fr r) lr ls hrow
        simp -dsimp (disch := omega) [g8, hsz, hone, hput]
        have hrowA := hrow4.alloc ⟨A, 20, true⟩
        refine app_row hrowA (by simp; omega) (src_slice _ 20 1 2 ⟨h4.next, 0, none⟩ A (by simp (disch := omega) [hsz])) (by omega) (by omega) (by unfold ROOM; omega) fun v5 h5 r1 r2 r3 r4 => ?_
        have r2' : h5.next = h4.next + 2 := by rw [r2]; simp
        have hAl : A.toList = guC (rdG S sti) := by rw [hAe]
        rw [hAl, ← guesC_snoc] at r1
        have R5 : Rd h5 r s p q S (stG S sti) := Rd.app (R4.alloc _) lr ls lp lq hrowA (by omega) (by simp; omega) fun i hi hv => r4 i hi hv
        have F5 : Fr h h5 r s := ⟨by omega, fun i hi e1 e2 => by rw [r4 i (by simp; omega) (fun hv => by have := (hrow4.blk i hv).1; omega), blks_alloc_ne _ _ _ (by omega)]; exact F34.same i hi e1 e2⟩
        obtain ⟨v6, hv6, hf6⟩ := R5.blk
        have hv6' : h5.blks r = some ⟨#[.pointer (some ⟨s, 0, none⟩), v6], 1, true⟩ := hv6
        simp -dsimp (disch := omega) [g0, g2, g10, hv6']
        refine failR R5 ?_
        simp -dsimp (disch := omega) [g0, g2, g10, hv6']
        refine note_call R5 fun h7 R7 F7 => ?_
        simp -dsimp (disch := omega) [g0, g2, g3, g8, g9, g10]
        have hst : lsX (rdG S) (stG S) each (N - i) i sti = (rdG S sti :: (lsX (rdG S) (stG S) each (N - (i + 1)) (i + 1) ((stG S sti).note each (i : Nat) (failN (stG S sti).torn))).1, (lsX (rdG S) (stG S) each (N - (i + 1)) (i + 1) ((stG S sti).note each (i : Nat) (failN (stG S sti).torn))).2) := by
          rw [show N - i = (N - (i + 1)) + 1 by omega, lsX, if_pos hfl]
        rw [hst] at heq
        refine ⟨⟨F5.trans F7, i + 1, by omega, by simp, acc ++ [rdG S sti], _, R7, Rd.fr F7 lr ls r1, by simp [hacc], ?_⟩, by simp [ivN]; omega⟩
        rw [heq]
        simp
    · have hiN : i = N := by omega
      rw [hiN, Nat.sub_self] at heq
      simp only [lsX, List.append_nil] at heq
      rw [heq] at hK
      simp -dsimp (disch := omega) [g0, g8, g9, g10, hv3', hc]
      simp only at hK
      rw [hacc] at hK
      exact RetF.all (by simp) (hK _ _ R3 F3 hrow)
theorem winsC_snoc (l : List Win) (g : Win) : winsC (l ++ [g]) = winsC l ++ winC g := by simp [winsC]
set_option maxHeartbeats 4000000 in
theorem lwindow_call {all each : ByteArray} (R : Rd h r s p q S st) (hK : ∀ h' v, Rd h' r s p q S (lsA S (rdW S) (stW S) all each st).2 → Fr h h' r s → Row h.next h' 2 (lsA S (rdW S) (stW S) all each st).1.length (winsC (lsA S (rdW S) (stW S) all each st).1) v → K v h') :
    ACall prog 34 [.pointer (some ⟨r, 0, none⟩), .string all, .string each, .func (.func 35) #[.pointer (some ⟨r, 0, none⟩)] #[]] h K := by
  refine acallF_of tb0 func34 rfl rfl mixed (by kernel_rfl) fun hwf => ?_
  simp -dsimp (disch := omega)
  obtain ⟨lr, ls, lp, lq⟩ := R.lps
  refine byte_call R fun h1 R1 F1 => ?_
  have hb1 := got1 S st
  obtain ⟨v1, hv1, hf1⟩ := R1.blk
  have hv1' : h1.blks r = some ⟨#[.pointer (some ⟨s, 0, none⟩), v1], 1, true⟩ := hv1
  simp -dsimp (disch := omega) [hv1']
  refine failR R1 ?_
  simp -dsimp (disch := omega) [hv1']
  refine note_call R1 fun h2 R2 F2 => ?_
  simp -dsimp (disch := omega)
  have F12 : Fr h h2 r s := (F1.fr r).trans F2
  obtain ⟨N, hN⟩ : ∃ N, N = numN (st.got S 1) := ⟨_, rfl⟩
  rw [← hN] at hb1 ⊢
  have hA : lsA S (rdW S) (stW S) all each st = lsX (rdW S) (stW S) each N 0 (lsS S all st) := by rw [hN]; rfl
  rw [hA] at hK
  refine awp_loop (fun t hh => Fr h hh r s ∧ ∃ (i : Nat) (acc : List Win) (sti : St) (v : Value), i ≤ N ∧ t 0 = ptr r ∧ t 2 = .string each ∧ t 3 = .func (.func 35) #[ptr r] #[] ∧ t 8 = v ∧ t 9 = .int .i64 N ∧ t 10 = .int .i64 i ∧ Rd hh r s p q S sti ∧ Row h.next hh 2 i (winsC acc) v ∧ acc.length = i ∧ lsX (rdW S) (stW S) each N 0 (lsS S all st) = (acc ++ (lsX (rdW S) (stW S) each (N - i) i sti).1, (lsX (rdW S) (stW S) each (N - i) i sti).2)) (fun t _ => N - ivN (t 10)) ?_ ?_
  · simp -dsimp (disch := omega)
    exact ⟨F12, 0, by omega, rfl, [], _, R2, Row.nil _ _ _, rfl, rfl⟩
  · rintro t hh ⟨F3, i, acc, sti, v, hi, g0, g2, g3, g8, g9, g10, R3, hrow, hacc, heq⟩
    refine vcF_sound (tb := tb0) mixed _ (by kernel_rfl) ?_
    obtain ⟨v3, hv3, hf3⟩ := R3.blk
    have hv3' : hh.blks r = some ⟨#[.pointer (some ⟨s, 0, none⟩), v3], 1, true⟩ := hv3
    by_cases hc : i < N
    · cases hfl : sti.flt with
      | some z =>
        rw [hfl] at hf3
        obtain ⟨d, rfl, hd, hdl⟩ := hf3
        rw [lsX_flt (rd := rdW S) (nx := stW S) (each := each) (n := N - i) (i := i) (st := sti) (by rw [hfl]; simp)] at heq
        simp only [List.append_nil] at heq
        rw [heq] at hK
        simp -dsimp (disch := omega) [g0, g8, g9, g10, hv3', hc]
        simp only at hK
        rw [hacc] at hK
        exact RetF.all (by simp) (hK _ _ R3 F3 hrow)
      | none =>
        rw [hfl] at hf3
        obtain rfl : v3 = .pointer none := hf3
        simp -dsimp (disch := omega) [g0, g3, g8, g9, g10, hv3', hc]
        refine window_call R3 fun h4 R4 F4 => ?_
        obtain ⟨A, hAe⟩ : ∃ A, A = (winC (rdW S sti)).toArray := ⟨_, rfl⟩
        rw [← hAe]
        have hone : oneAll A.toList = true := by rw [hAe]; rfl
        have hsz : A.size = 2 := by rw [hAe]; rfl
        have hput : Mini.putL #[Value.int .u8 0, Value.int .u16 0] 0 A.toList = A := putL_full (by rw [hsz]; rfl)
        have F34 : Fr h h4 r s := F3.trans (F4.fr r)
        have F4n := F34.le
        have hrow4 : Row h.next h4 2 i (winsC acc) v := Rd.fr (F4.fr r) lr ls hrow
        simp -dsimp (disch := omega) [g8, hsz, hone, hput]
        have hrowA := hrow4.alloc ⟨A, 2, true⟩
        refine app_row hrowA (by simp; omega) (src_slice _ 2 1 2 ⟨h4.next, 0, none⟩ A (by simp (disch := omega) [hsz])) (by omega) (by omega) (by unfold ROOM; omega) fun v5 h5 r1 r2 r3 r4 => ?_
        have r2' : h5.next = h4.next + 2 := by rw [r2]; simp
        have hAl : A.toList = winC (rdW S sti) := by rw [hAe]
        rw [hAl, ← winsC_snoc] at r1
        have R5 : Rd h5 r s p q S (stW S sti) := Rd.app (R4.alloc _) lr ls lp lq hrowA (by omega) (by simp; omega) fun i hi hv => r4 i hi hv
        have F5 : Fr h h5 r s := ⟨by omega, fun i hi e1 e2 => by rw [r4 i (by simp; omega) (fun hv => by have := (hrow4.blk i hv).1; omega), blks_alloc_ne _ _ _ (by omega)]; exact F34.same i hi e1 e2⟩
        obtain ⟨v6, hv6, hf6⟩ := R5.blk
        have hv6' : h5.blks r = some ⟨#[.pointer (some ⟨s, 0, none⟩), v6], 1, true⟩ := hv6
        simp -dsimp (disch := omega) [g0, g2, g10, hv6']
        refine failR R5 ?_
        simp -dsimp (disch := omega) [g0, g2, g10, hv6']
        refine note_call R5 fun h7 R7 F7 => ?_
        simp -dsimp (disch := omega) [g0, g2, g3, g8, g9, g10]
        have hst : lsX (rdW S) (stW S) each (N - i) i sti = (rdW S sti :: (lsX (rdW S) (stW S) each (N - (i + 1)) (i + 1) ((stW S sti).note each (i : Nat) (failN (stW S sti).torn))).1, (lsX (rdW S) (stW S) each (N - (i + 1)) (i + 1) ((stW S sti).note each (i : Nat) (failN (stW S sti).torn))).2) := by
          rw [show N - i = (N - (i + 1)) + 1 by omega, lsX, if_pos hfl]
        rw [hst] at heq
        refine ⟨⟨F5.trans F7, i + 1, by omega, by simp, acc ++ [rdW S sti], _, R7, Rd.fr F7 lr ls r1, by simp [hacc], ?_⟩, by simp [ivN]; omega⟩
        rw [heq]
        simp
    · have hiN : i = N := by omega
      rw [hiN, Nat.sub_self] at heq
      simp only [lsX, List.append_nil] at heq
      rw [heq] at hK
      simp -dsimp (disch := omega) [g0, g8, g9, g10, hv3', hc]
      simp only at hK
      rw [hacc] at hK
      exact RetF.all (by simp) (hK _ _ R3 F3 hrow)
end
end Go.Proofs.YtmnemfeofhinaaaDoor
namespace Go.Proofs.YtmnemfeofhinaaaDoor
set_option maxRecDepth 100000
open Go Go.Mini Go.Proofs.Tryd

theorem chsC_snoc (L : List (Ch × Value)) (c : Ch) (v : Value) : chsC (L ++ [(c, v)]) = chsC L ++ chC c v := by simp [chsC]
theorem _root_.Go.Mini.Row.weak {m m' : Nat} {h : Hp} {e n : Nat} {cs : List Value} {v : Value} (r : Row m h e n cs v) (hm : m' ≤ m) : Row m' h e n cs v := by
  obtain ⟨r0, r1 | ⟨b, y1, y2, y3⟩⟩ := r
  · exact ⟨r0, .inl r1⟩
  · exact ⟨r0, .inr ⟨b, by omega, y2, y3⟩⟩
section
variable {h : Hp} {K : Value → Hp → Prop} {r s p q : Nat} {S : List UInt8} {st : St}
set_option maxHeartbeats 4000000 in
theorem lchannel_call {all each : ByteArray} (R : Rd h r s p q S st) (hK : ∀ h' v (L : List (Ch × Value)), L.map (·.1) = (lsA S (rdC S) (stC S) all each st).1 → Rd h' r s p q S (lsA S (rdC S) (stC S) all each st).2 → Fr h h' r s → Row h.next h' 7 L.length (chsC L) v → (∀ x ∈ L, Row h.next h' 2 x.1.to.length (endsC x.1.to) x.2) → K v h') :
    ACall prog 36 [.pointer (some ⟨r, 0, none⟩), .string all, .string each, .func (.func 37) #[.pointer (some ⟨r, 0, none⟩)] #[]] h K := by
  refine acallF_of tb0 func36 rfl rfl mixed (by kernel_rfl) fun hwf => ?_
  simp -dsimp (disch := omega)
  obtain ⟨lr, ls, lp, lq⟩ := R.lps
  refine byte_call R fun h1 R1 F1 => ?_
  have hb1 := got1 S st
  obtain ⟨v1, hv1, hf1⟩ := R1.blk
  have hv1' : h1.blks r = some ⟨#[.pointer (some ⟨s, 0, none⟩), v1], 1, true⟩ := hv1
  simp -dsimp (disch := omega) [hv1']
  refine failR R1 ?_
  simp -dsimp (disch := omega) [hv1']
  refine note_call R1 fun h2 R2 F2 => ?_
  simp -dsimp (disch := omega)
  have F12 : Fr h h2 r s := (F1.fr r).trans F2
  obtain ⟨N, hN⟩ : ∃ N, N = numN (st.got S 1) := ⟨_, rfl⟩
  rw [← hN] at hb1 ⊢
  have hA : lsA S (rdC S) (stC S) all each st = lsX (rdC S) (stC S) each N 0 (lsS S all st) := by rw [hN]; rfl
  rw [hA] at hK
  refine awp_loop (fun t hh => Fr h hh r s ∧ ∃ (i : Nat) (acc : List (Ch × Value)) (sti : St) (v : Value), i ≤ N ∧ t 0 = ptr r ∧ t 2 = .string each ∧ t 3 = .func (.func 37) #[ptr r] #[] ∧ t 8 = v ∧ t 9 = .int .i64 N ∧ t 10 = .int .i64 i ∧ Rd hh r s p q S sti ∧ Row h.next hh 7 i (chsC acc) v ∧ acc.length = i ∧ (∀ x ∈ acc, Row h.next hh 2 x.1.to.length (endsC x.1.to) x.2 ∧ ∀ b, sblk x.2 = some b → sblk v ≠ some b) ∧ lsX (rdC S) (stC S) each N 0 (lsS S all st) = (acc.map (·.1) ++ (lsX (rdC S) (stC S) each (N - i) i sti).1, (lsX (rdC S) (stC S) each (N - i) i sti).2)) (fun t _ => N - ivN (t 10)) ?_ ?_
  · simp -dsimp (disch := omega)
    exact ⟨F12, 0, by omega, rfl, [], _, R2, Row.nil _ _ _, rfl, (fun _ _ hx => by cases hx), rfl⟩
  · rintro t hh ⟨F3, i, acc, sti, v, hi, g0, g2, g3, g8, g9, g10, R3, hrow, hacc, hel, heq⟩
    refine vcF_sound (tb := tb0) mixed _ (by kernel_rfl) ?_
    obtain ⟨v3, hv3, hf3⟩ := R3.blk
    have hv3' : hh.blks r = some ⟨#[.pointer (some ⟨s, 0, none⟩), v3], 1, true⟩ := hv3
    by_cases hc : i < N
    · cases hfl : sti.flt with
      | some z =>
        rw [hfl] at hf3
        obtain ⟨d, rfl, hd, hdl⟩ := hf3
        rw [lsX_flt (rd := rdC S) (nx := stC S) (each := each) (n := N - i) (i := i) (st := sti) (by rw [hfl]; simp)] at heq
        simp only [List.append_nil] at heq
        rw [heq] at hK
        simp -dsimp (disch := omega) [g0, g8, g9, g10, hv3', hc]
        refine RetF.all (by simp) (hK _ v acc rfl R3 F3 ?_ fun x hx => (hel x hx).1)
        rw [hacc]; exact hrow
      | none =>
        rw [hfl] at hf3
        obtain rfl : v3 = .pointer none := hf3
        simp -dsimp (disch := omega) [g0, g3, g8, g9, g10, hv3', hc]
        refine rchannel_call R3 fun h4 vt R4 F4 rv => ?_
        obtain ⟨avt, cvt, hvte⟩ := rv.slice
        obtain ⟨A, hAe⟩ : ∃ A, A = (chC (rdC S sti) vt).toArray := ⟨_, rfl⟩
        rw [← hAe]
        have hone : oneAll A.toList = true := by rw [hAe, hvte]; rfl
        have hsz : A.size = 7 := by rw [hAe]; rfl
        have hput : Mini.putL #[Value.int .u8 0, Value.int .u8 0, Value.int .u8 0, Value.slice none 0 0, Value.int .u8 0, Value.int .u8 0, Value.int .u32 0] 0 A.toList = A := putL_full (by rw [hsz]; rfl)
        have F34 : Fr h h4 r s := F3.trans (F4.fr r)
        have F4n := F34.le
        have hrow4 : Row h.next h4 7 i (chsC acc) v := Rd.fr (F4.fr r) lr ls hrow
        simp -dsimp (disch := omega) [g8, hsz, hone, hput]
        have hrowA := hrow4.alloc ⟨A, 7, true⟩
        refine app_row hrowA (by simp; omega) (src_slice _ 7 1 2 ⟨h4.next, 0, none⟩ A (by simp (disch := omega) [hsz])) (by omega) (by omega) (by unfold ROOM; omega) fun v5 h5 r1 r2 r3 r4 => ?_
        have r2' : h5.next = h4.next + 2 := by rw [r2]; simp
        have hAl : A.toList = chC (rdC S sti) vt := by rw [hAe]
        rw [hAl, ← chsC_snoc] at r1
        have R5 : Rd h5 r s p q S (stC S sti) := Rd.app (R4.alloc _) lr ls lp lq hrowA (by omega) (by simp; omega) fun i hi hv => r4 i hi hv
        have F5 : Fr h h5 r s := ⟨by omega, fun i hi e1 e2 => by rw [r4 i (by simp; omega) (fun hv => by have := (hrow4.blk i hv).1; omega), blks_alloc_ne _ _ _ (by omega)]; exact F34.same i hi e1 e2⟩
        obtain ⟨v6, hv6, hf6⟩ := R5.blk
        have hv6' : h5.blks r = some ⟨#[.pointer (some ⟨s, 0, none⟩), v6], 1, true⟩ := hv6
        simp -dsimp (disch := omega) [g0, g2, g10, hv6']
        refine failR R5 ?_
        simp -dsimp (disch := omega) [g0, g2, g10, hv6']
        refine note_call R5 fun h7 R7 F7 => ?_
        simp -dsimp (disch := omega) [g0, g2, g3, g8, g9, g10]
        have hst : lsX (rdC S) (stC S) each (N - i) i sti = (rdC S sti :: (lsX (rdC S) (stC S) each (N - (i + 1)) (i + 1) ((stC S sti).note each (i : Nat) (failN (stC S sti).torn))).1, (lsX (rdC S) (stC S) each (N - (i + 1)) (i + 1) ((stC S sti).note each (i : Nat) (failN (stC S sti).torn))).2) := by
          rw [show N - i = (N - (i + 1)) + 1 by omega, lsX, if_pos hfl]
        rw [hst] at heq
        refine ⟨⟨F5.trans F7, i + 1, by omega, by simp, acc ++ [(rdC S sti, vt)], _, R7, Rd.fr F7 lr ls r1, by simp [hacc], ?_, ?_⟩, by simp [ivN]; omega⟩
        · intro xa xv hx
          have hv5 : ∀ b, sblk v5 = some b → b = h4.next + 1 := fun b hb => by rw [r3] at hb; simp at hb; omega
          have hh4 := F4.le
          have keep : ∀ b, h.next ≤ b → b < h4.next → sblk v ≠ some b → h5.blks b = h4.blks b := fun b h1 h2 h3 => by rw [r4 b (by simp; omega) h3, blks_alloc_ne _ _ _ (by omega)]
          rcases List.mem_append.1 hx with hx | hx
          · obtain ⟨q1, q2⟩ := hel _ hx
            refine ⟨Rd.fr F7 lr ls (Row.mono (Rd.fr (F4.fr r) lr ls q1) (by omega) fun b hb => keep b (q1.blk b hb).1 (by have := (q1.blk b hb).2; omega) (q2 b hb)), fun b hb e => ?_⟩
            have := hv5 b e
            have := (q1.blk b hb).2
            omega
          · simp only [List.mem_singleton, Prod.mk.injEq] at hx
            obtain ⟨rfl, rfl⟩ := hx
            have rv2 := rv.weak (m' := h.next) (by have := F3.le; omega)
            refine ⟨Rd.fr F7 lr ls (rv2.mono (by omega) fun b hb => keep b (rv2.blk b hb).1 (rv2.blk b hb).2 (fun e => by have := (rv.blk b hb).1; have := (hrow.blk b e).2; omega)), fun b hb e => ?_⟩
            have := hv5 b e
            have := (rv.blk b hb).2
            omega
        · rw [heq]
          simp
    · have hiN : i = N := by omega
      rw [hiN, Nat.sub_self] at heq
      simp only [lsX, List.append_nil] at heq
      rw [heq] at hK
      simp -dsimp (disch := omega) [g0, g8, g9, g10, hv3', hc]
      refine RetF.all (by simp) (hK _ v acc rfl R3 F3 ?_ fun x hx => (hel x hx).1)
      rw [hacc]; exact hrow
end
end Go.Proofs.YtmnemfeofhinaaaDoor
namespace Go.Proofs.YtmnemfeofhinaaaDoor
set_option maxRecDepth 100000
open Go Go.Mini Go.Proofs.Tryd

def sMagic : ByteArray := txt [109, 97, 103, 105, 99]
def sWindow : ByteArray := txt [119, 105, 110, 100, 111, 119]
def sChannel : ByteArray := txt [99, 104, 97, 110, 110, 101, 108]
def sSum : ByteArray := txt [115, 117, 109]
def sEnd : ByteArray := txt [101, 110, 100]
theorem lsX_mem {α : Type} {rd : St → α} {nx : St → St} {each : ByteArray} : ∀ {n i : Nat} {st : St} {x : α}, x ∈ (lsX rd nx each n i st).1 → ∃ st', x = rd st'
  | 0, _, _, _, h => by cases h
  | n + 1, i, st, x, h => by
    unfold lsX at h
    split at h
    · rcases List.mem_cons.1 h with rfl | h
      · exact ⟨_, rfl⟩
      · exact lsX_mem h
    · cases h
theorem lsX_len {α : Type} {rd : St → α} {nx : St → St} {each : ByteArray} : ∀ {n i : Nat} {st : St}, (lsX rd nx each n i st).1.length ≤ n
  | 0, _, _ => Nat.le_refl _
  | n + 1, i, st => by
    unfold lsX
    split
    · rw [List.length_cons]; exact Nat.succ_le_succ lsX_len
    · exact Nat.zero_le _
/-- Where the reader stands behind the magic; behind the lists; behind all. -/
def prM (S : List UInt8) : St :=
  let st1 := (St.mk 0 false none).take S 4
  let st2 := st1.note sMagic 0 (failN st1.torn)
  if (St.mk 0 false none).got S 4 ≠ magicL then st2.note sMagic 0 3 else st2
def prG (S : List UInt8) : List Gu × St := lsA S (rdG S) (stG S) sGuests sGuest (prM S)
def prW (S : List UInt8) : List Win × St := lsA S (rdW S) (stW S) sWindows sWindow (prG S).2
def prC (S : List UInt8) : List Ch × St := lsA S (rdC S) (stC S) sChannels sChannel (prW S).2
def prS (S : List UInt8) : St :=
  let st3 := (prC S).2
  let st4 := st3.take S 4
  let st5 := st4.note sSum 0 (failN st4.torn)
  let st6 := if (numN (st3.got S 4) : Int) ≠ sumL (S.take st3.a) then st5.note sSum 0 7 else st5
  if st6.a < S.length then st6.note sEnd 0 5 else st6
def prF (S : List UInt8) : Option Flt := match (prS S).flt with
  | some z => some z
  | none => chkC (prG S).1 (prW S).1 (prC S).1
def orN {α : Type} (o : Option Flt) (l : List α) : List α := if o = none then l else []
theorem _root_.Go.Mini.Ext.fr {h a b : Hp} {r s : Nat} (x : Ext h a) (y : Fr a b r s) (hr : h.next ≤ r) (hs : h.next ≤ s) : Ext h b := ⟨Nat.le_trans x.le y.le, fun i hi => (y.same i (Nat.lt_of_lt_of_le hi x.le) (by omega) (by omega)).trans (x.same i hi)⟩

def tb9 (m : Nat) : Nat → Marks := fun k => if k = 20 then ⟨[4, 6], fun j => j ≠ m⟩ else ⟨[], fun _ => True⟩
theorem tb9_20 (m : Nat) : tb9 m 20 = ⟨[4, 6], fun j => j ≠ m⟩ := rfl

theorem lsA_ok {α : Type} {P : α → Prop} {S : List UInt8} {rd : St → α} {nx : St → St} {all each : ByteArray} {st : St} (h : ∀ st, P (rd st)) : ∀ x ∈ (lsA S rd nx all each st).1, P x := fun x hx => by
  obtain ⟨st', rfl⟩ := lsX_mem hx
  exact h st'
theorem lsA_len {α : Type} {S : List UInt8} {rd : St → α} {nx : St → St} {all each : ByteArray} {st : St} : (lsA S rd nx all each st).1.length < 256 := Nat.lt_of_le_of_lt lsX_len (got1 S st)
theorem rdW_ok (S : List UInt8) (st : St) : (rdW S st).ok := ⟨got1 _ _, got2 _ _⟩
/-- A configuration all of whose blocks are there. -/
structure CfT (h : Hp) (gs : List Gu) (ws : List Win) (L : List (Ch × Value)) (vg vw vc : Value) : Prop where
  v : CfV h gs ws L vg vw vc
  tg : ∀ b, sblk vg = some b → b < h.next
  tw : ∀ b, sblk vw = some b → b < h.next
  tc : ∀ b, sblk vc = some b → b < h.next
  tl : ∀ x ∈ L, ∀ b, sblk x.2 = some b → b < h.next
theorem CfT.ext {h h' : Hp} {gs : List Gu} {ws : List Win} {L : List (Ch × Value)} {vg vw vc : Value} (c : CfT h gs ws L vg vw vc) (x : Ext h h') : CfT h' gs ws L vg vw vc :=
  have xn := x.le
  ⟨⟨c.v.g.mono fun b hb => x.same b (c.tg b hb), c.v.w.mono fun b hb => x.same b (c.tw b hb), c.v.c.ext x c.tc c.tl, c.v.gok, c.v.wok, c.v.lg, c.v.lw, c.v.lc⟩,
    fun b hb => Nat.lt_of_lt_of_le (c.tg b hb) xn, fun b hb => Nat.lt_of_lt_of_le (c.tw b hb) xn, fun b hb => Nat.lt_of_lt_of_le (c.tc b hb) xn, fun e he b hb => Nat.lt_of_lt_of_le (c.tl e he b hb) xn⟩
theorem Row.cfv {m : Nat} {hh : Hp} {gs : List Gu} {ws : List Win} {L : List (Ch × Value)} {vg vw vc : Value} (rg : Row m hh 20 gs.length (guesC gs) vg) (rw' : Row m hh 2 ws.length (winsC ws) vw) (rc : Row m hh 7 L.length (chsC L) vc) (hLr : ∀ x ∈ L, Row m hh 2 x.1.to.length (endsC x.1.to) x.2)
    (h1 : ∀ g ∈ gs, g.ok) (h2 : ∀ w ∈ ws, w.ok) (h3 : ∀ x ∈ L, x.1.ok) (l1 : gs.length < 256) (l2 : ws.length < 256) (l3 : L.length < 256) : CfT hh gs ws L vg vw vc :=
  ⟨⟨row_sl rg, row_sl rw', ⟨row_sl rc, fun x hx => ⟨h3 x hx, .inl (row_sl (hLr x hx))⟩⟩, h1, h2, by omega, by omega, by omega⟩, fun b hb => (rg.blk b hb).2, fun b hb => (rw'.blk b hb).2, fun b hb => (rc.blk b hb).2, fun x hx b hb => ((hLr x hx).blk b hb).2⟩
theorem CfT.nil (h : Hp) : CfT h [] [] [] (.slice none 0 0) (.slice none 0 0) (.slice none 0 0) :=
  ⟨⟨⟨rfl, .inl ⟨_, _, rfl, rfl⟩⟩, ⟨rfl, .inl ⟨_, _, rfl, rfl⟩⟩, ⟨⟨rfl, .inl ⟨_, _, rfl, rfl⟩⟩, (fun x hx => by cases hx)⟩, (fun x hx => by cases hx), (fun x hx => by cases hx), by decide, by decide, by decide⟩, (fun b hb => by cases hb), (fun b hb => by cases hb), (fun b hb => by cases hb), (fun x hx => by cases hx)⟩
theorem cfv_of {m : Nat} {hh : Hp} {S : List UInt8} {L : List (Ch × Value)} {vg vw vc : Value} (rg : Row m hh 20 (prG S).1.length (guesC (prG S).1) vg) (rw' : Row m hh 2 (prW S).1.length (winsC (prW S).1) vw) (rc : Row m hh 7 L.length (chsC L) vc) (hL : L.map (·.1) = (prC S).1) (hLr : ∀ x ∈ L, Row m hh 2 x.1.to.length (endsC x.1.to) x.2) : CfT hh (prG S).1 (prW S).1 L vg vw vc := by
  refine Row.cfv rg rw' rc hLr (lsA_ok (rdG_ok S)) (lsA_ok (rdW_ok S)) (fun x hx => ?_) lsA_len lsA_len ?_
  · exact lsA_ok (P := Ch.ok) (rdC_ok S) x.1 (by rw [show (lsA S (rdC S) (stC S) sChannels sChannel (prW S).2).1 = (prC S).1 from rfl, ← hL]; exact List.mem_map.2 ⟨x, hx, rfl⟩)
  · have := lsA_len (S := S) (rd := rdC S) (nx := stC S) (all := sChannels) (each := sChannel) (st := (prW S).2)
    rw [show (lsA S (rdC S) (stC S) sChannels sChannel (prW S).2).1 = (prC S).1 from rfl, ← hL, List.length_map] at this
    exact this

section
variable {h0 hh : Hp} {K : Value → Hp → Prop} {r s p q cb mm : Nat} {S : List UInt8} {t : Tm} {vg vw vc : Value} {L : List (Ch × Value)}
theorem tail19 (E : Ext h0 hh) (hr : h0.next < r) (hs : h0.next < s) (hp : h0.next < p) (hq : h0.next < q) (b0 : hh.blks h0.next = some ⟨#[.slice none 0 0, .slice none 0 0, .slice none 0 0], 1, true⟩) (hm : h0.next < mm) (hmr : r < mm) (hms : s < mm) (hcb : h0.next < cb) (hcbn : cb < hh.next) (hcr : cb ≠ r) (hcs : cb ≠ s) (bc : hh.blks cb = some ⟨#[vg, vw, vc], 1, true⟩) (rg : Row mm hh 20 (prG S).1.length (guesC (prG S).1) vg) (rw' : Row mm hh 2 (prW S).1.length (winsC (prW S).1) vw) (rc : Row mm hh 7 L.length (chsC L) vc) (hL : L.map (·.1) = (prC S).1) (hLr : ∀ x ∈ L, Row mm hh 2 x.1.to.length (endsC x.1.to) x.2) (t2 : t 2 = ptr h0.next) (t4 : t 4 = ptr r) (t6 : t 6 = ptr cb) {vf : Value} (br : hh.blks r = some (rdB s vf)) (hf : FltV hh (prF S) vf)
    (hK : ∀ h' v L vg vw vc, Ext h0 h' → IsEr h' (erOf (prF S)) v → CfT h' (orN (prF S) (prG S).1) (orN (prF S) (prW S).1) L vg vw vc → L.map (·.1) = orN (prF S) (prC S).1 → K (.tuple #[.agg #[vg, vw, vc], v]) h') : vcF prog f9.ntmps (tb9 h0.next) (sndC (sndC (sndC (sndC (sndC (sndC (sndC (sndC (sndC (sndC (sndC (sndC (sndC (sndC (sndC (bodyC f9)))))))))))))))) (FnQ prog f9.results.toList h0 K) t hh (.mk _) := by
  have e0 : (sndC (sndC (sndC (sndC (sndC (sndC (sndC (sndC (sndC (sndC (sndC (sndC (sndC (sndC (sndC (bodyC f9)))))))))))))))) = (sndC (sndC (sndC (sndC (sndC (sndC (sndC (sndC (sndC (sndC (sndC (sndC (sndC (sndC (sndC (bodyC f9)))))))))))))))) := rfl
  conv at e0 => rhs; whnf
  rw [e0]
  clear e0
  have br' : hh.blks r = some ⟨#[.pointer (some ⟨s, 0, none⟩), vf], 1, true⟩ := br
  have hn := E.le
  have lt0 : h0.next < hh.next := by omega
  cases hfl : prF S with
  | none =>
    rw [hfl] at hf hK
    obtain rfl : vf = .pointer none := hf
    have hcf := cfv_of rg rw' rc hL hLr
    have x1 := rg.slice
    have x2 := rw'.slice
    have x3 := rc.slice
    obtain ⟨ag, cg, rfl⟩ := x1
    obtain ⟨aw, cw, rfl⟩ := x2
    obtain ⟨ac, cc, rfl⟩ := x3
    simp -dsimp (disch := omega) [t2, t4, t6, br', bc, b0]
    have eg : orN none (prG S).1 = (prG S).1 := rfl
    have ew : orN none (prW S).1 = (prW S).1 := rfl
    have ec : orN none (prC S).1 = (prC S).1 := rfl
    rw [eg, ew, ec] at hK
    have xs : ∀ (b : Blk) {e n : Nat} {cs : List Value} {v : Value}, Row mm hh e n cs v → Row mm (hh.set h0.next b) e n cs v := fun b _ _ _ _ R => Row.set R _ _ fun e => by have := (R.blk _ e).1; omega
    exact RetF.all (by simp (disch := omega) [t2]) (hK _ _ L _ _ _ (E.then_set _ (Nat.le_refl _)) rfl (cfv_of (xs _ rg) (xs _ rw') (xs _ rc) hL fun x hx => xs _ (hLr x hx)) hL)
  | some z =>
    obtain ⟨f, a, n⟩ := z
    rw [hfl] at hf hK
    obtain ⟨d, rfl, hd, hl⟩ := hf
    simp -dsimp (disch := omega) [t2, t4, br', b0, tb9_20]
    have hd0 : d ≠ h0.next := fun e => by rw [e, b0] at hd; have := congrArg (fun x => x.map (fun b : Blk => b.cells[0]?)) hd; simp [faultB] at this
    refine ⟨by omega, RetF.all (by simp (disch := omega) [t2]) (hK _ (.iface 70 (.pointer (some ⟨d, 0, none⟩))) [] _ _ _ (E.then_set _ (Nat.le_refl _)) ⟨d, rfl, by rw [blks_set_ne _ _ _ _ hd0]; exact hd, hl⟩ (CfT.nil _) rfl)⟩
theorem tail17 (E : Ext h0 hh) (hr : h0.next < r) (hs : h0.next < s) (hp : h0.next < p) (hq : h0.next < q) (b0 : hh.blks h0.next = some ⟨#[.slice none 0 0, .slice none 0 0, .slice none 0 0], 1, true⟩) (hm : h0.next < mm) (hmr : r < mm) (hms : s < mm) (hcb : h0.next < cb) (hcbn : cb < hh.next) (hcr : cb ≠ r) (hcs : cb ≠ s) (bc : hh.blks cb = some ⟨#[vg, vw, vc], 1, true⟩) (rg : Row mm hh 20 (prG S).1.length (guesC (prG S).1) vg) (rw' : Row mm hh 2 (prW S).1.length (winsC (prW S).1) vw) (rc : Row mm hh 7 L.length (chsC L) vc) (hL : L.map (·.1) = (prC S).1) (hLr : ∀ x ∈ L, Row mm hh 2 x.1.to.length (endsC x.1.to) x.2) (t2 : t 2 = ptr h0.next) (t4 : t 4 = ptr r) (t6 : t 6 = ptr cb) {st : St} (R : Rd hh r s p q S st) (hst : st.flt = (prS S).flt)
    (hK : ∀ h' v L vg vw vc, Ext h0 h' → IsEr h' (erOf (prF S)) v → CfT h' (orN (prF S) (prG S).1) (orN (prF S) (prW S).1) L vg vw vc → L.map (·.1) = orN (prF S) (prC S).1 → K (.tuple #[.agg #[vg, vw, vc], v]) h') : vcF prog f9.ntmps (tb9 h0.next) (sndC (sndC (sndC (sndC (sndC (sndC (sndC (sndC (sndC (sndC (sndC (sndC (sndC (sndC (bodyC f9))))))))))))))) (FnQ prog f9.results.toList h0 K) t hh (.mk _) := by
  obtain ⟨RR, hR1⟩ : ∃ RR, RR = (sndC (sndC (sndC (sndC (sndC (sndC (sndC (sndC (sndC (sndC (sndC (sndC (sndC (sndC (sndC (bodyC f9)))))))))))))))) := ⟨_, rfl⟩
  have hR2 := hR1
  conv at hR2 => rhs; whnf
  have e0 : (sndC (sndC (sndC (sndC (sndC (sndC (sndC (sndC (sndC (sndC (sndC (sndC (sndC (sndC (bodyC f9))))))))))))))) = (sndC (sndC (sndC (sndC (sndC (sndC (sndC (sndC (sndC (sndC (sndC (sndC (sndC (sndC (bodyC f9))))))))))))))) := rfl
  conv at e0 => rhs; whnf
  rw [e0, ← hR2]
  clear e0 hR2
  obtain ⟨vf, br, hf⟩ := R.blk
  have br' : hh.blks r = some ⟨#[.pointer (some ⟨s, 0, none⟩), vf], 1, true⟩ := br
  have hn := E.le
  have lr := R.lr
  rw [hst] at hf
  cases hfl : (prS S).flt with
  | some z =>
    have hpf : prF S = some z := by unfold prF; rw [hfl]
    rw [hfl, ← hpf] at hf
    have hf' := hf
    rw [hpf] at hf'
    obtain ⟨d, rfl, hd, hl⟩ := hf'
    simp -dsimp (disch := omega) [t4, br']
    rw [hR1]
    exact tail19 E hr hs hp hq b0 hm hmr hms hcb hcbn hcr hcs bc rg rw' rc hL hLr t2 t4 t6 br hf hK
  | none =>
    have hpf : prF S = chkC (prG S).1 (prW S).1 (prC S).1 := by unfold prF; rw [hfl]
    rw [hfl] at hf
    obtain rfl : vf = .pointer none := hf
    obtain ⟨ag, cg, e1⟩ := rg.slice
    obtain ⟨aw, cw, e2⟩ := rw'.slice
    obtain ⟨ac, cc, e3⟩ := rc.slice
    subst e1 e2 e3
    simp -dsimp (disch := omega) [t4, t6, br', bc]
    refine check42_call (cfv_of rg rw' rc hL hLr).v fun h' v x hf => ?_
    have hxn := x.le
    rw [hL, ← hpf] at hf
    have br2 : h'.blks r = some ⟨#[.pointer (some ⟨s, 0, none⟩), .pointer none], 1, true⟩ := by rw [x.same r lr]; exact br'
    have hone : v.oneCell' = true ∧ v.cells = #[v] := by
      cases hpp : prF S with
      | none => rw [hpp] at hf; obtain rfl : v = .pointer none := hf; exact ⟨rfl, rfl⟩
      | some z => rw [hpp] at hf; obtain ⟨d, rfl, _⟩ := hf; exact ⟨rfl, rfl⟩
    have hvp : ∃ o, v = .pointer o := by
      cases hpp : prF S with
      | none => rw [hpp] at hf; exact ⟨_, hf⟩
      | some z => rw [hpp] at hf; obtain ⟨d, rfl, _⟩ := hf; exact ⟨_, rfl⟩
    obtain ⟨o, rfl⟩ := hvp
    simp -dsimp (disch := omega) [t4, br2]
    rw [hR1]
    have xs : ∀ (b : Blk) {e n : Nat} {cs : List Value} {v : Value}, e ≠ 1 → Row mm hh e n cs v → Row mm (h'.set r b) e n cs v := fun b _ _ _ _ he R => Row.set (R.mono hxn fun i hi => x.same i (R.blk i hi).2) _ _ fun e => by
      obtain ⟨_, ⟨rfl, _⟩ | ⟨i, y1, y2, rfl, y3⟩⟩ := R
      · simp [sblk] at e
      · have : i = r := by simpa [sblk] using e
        subst this
        rw [br'] at y3
        cases y3
        exact he rfl
    refine tail19 (E := (E.trans x).then_set _ (by omega)) hr hs hp hq (by rw [blks_set_ne _ _ _ _ (by omega), x.same _ (by omega)]; exact b0) hm hmr hms hcb (by simp; omega) hcr hcs (by rw [blks_set_ne _ _ _ _ hcr, x.same _ hcbn]; exact bc) (xs _ (by omega) rg) (xs _ (by omega) rw') (xs _ (by omega) rc) hL (fun y hy => xs _ (by omega) (hLr y hy)) (by simp (disch := omega) [t2]) (by simp (disch := omega) [t4]) (by simp (disch := omega) [t6]) (blks_set_eq _ _ _) ?_ hK
    refine hf.keep (Nat.le_refl _) fun d f a n hd => blks_set_ne _ _ _ _ fun e => ?_
    subst e
    rw [br2] at hd
    have := congrArg (fun x => x.map (fun b : Blk => b.cells.size)) hd
    simp [faultB] at this
theorem tail15 (E : Ext h0 hh) (hr : h0.next < r) (hs : h0.next < s) (hp : h0.next < p) (hq : h0.next < q) (b0 : hh.blks h0.next = some ⟨#[.slice none 0 0, .slice none 0 0, .slice none 0 0], 1, true⟩) (hm : h0.next < mm) (hmr : r < mm) (hms : s < mm) (hcb : h0.next < cb) (hcbn : cb < hh.next) (hcr : cb ≠ r) (hcs : cb ≠ s) (bc : hh.blks cb = some ⟨#[vg, vw, vc], 1, true⟩) (rg : Row mm hh 20 (prG S).1.length (guesC (prG S).1) vg) (rw' : Row mm hh 2 (prW S).1.length (winsC (prW S).1) vw) (rc : Row mm hh 7 L.length (chsC L) vc) (hL : L.map (·.1) = (prC S).1) (hLr : ∀ x ∈ L, Row mm hh 2 x.1.to.length (endsC x.1.to) x.2) (t2 : t 2 = ptr h0.next) (t4 : t 4 = ptr r) (t6 : t 6 = ptr cb) {st : St} (R : Rd hh r s p q S st) (hst : prS S = if st.a < S.length then st.note sEnd 0 5 else st)
    (hK : ∀ h' v L vg vw vc, Ext h0 h' → IsEr h' (erOf (prF S)) v → CfT h' (orN (prF S) (prG S).1) (orN (prF S) (prW S).1) L vg vw vc → L.map (·.1) = orN (prF S) (prC S).1 → K (.tuple #[.agg #[vg, vw, vc], v]) h') : vcF prog f9.ntmps (tb9 h0.next) (sndC (sndC (sndC (sndC (sndC (sndC (sndC (sndC (sndC (sndC (sndC (sndC (sndC (bodyC f9)))))))))))))) (FnQ prog f9.results.toList h0 K) t hh (.mk _) := by
  obtain ⟨RR, hR1⟩ : ∃ RR, RR = (sndC (sndC (sndC (sndC (sndC (sndC (sndC (sndC (sndC (sndC (sndC (sndC (sndC (sndC (bodyC f9))))))))))))))) := ⟨_, rfl⟩
  have hR2 := hR1
  conv at hR2 => rhs; whnf
  have e0 : (sndC (sndC (sndC (sndC (sndC (sndC (sndC (sndC (sndC (sndC (sndC (sndC (sndC (bodyC f9)))))))))))))) = (sndC (sndC (sndC (sndC (sndC (sndC (sndC (sndC (sndC (sndC (sndC (sndC (sndC (bodyC f9)))))))))))))) := rfl
  conv at e0 => rhs; whnf
  rw [e0, ← hR2]
  clear e0 hR2
  obtain ⟨vf, br, hf⟩ := R.blk
  have br' : hh.blks r = some ⟨#[.pointer (some ⟨s, 0, none⟩), vf], 1, true⟩ := br
  have hn := E.le
  simp -dsimp (disch := omega) [t4, br']
  refine left_call R.src ?_
  have hle := R.le
  by_cases c : st.a < S.length
  · have c' : (0 : Int) < (S.length : Int) - st.a := by omega
    rw [if_pos c] at hst
    simp -dsimp (disch := omega) [t4, c', c]
    refine note_call R fun h' R' F => ?_
    simp -dsimp (disch := omega)
    rw [hR1]
    exact tail17 (E.fr F (by omega) (by omega)) hr hs hp hq (by rw [F.same _ (by omega) (by omega) (by omega)]; exact b0) hm hmr hms hcb (Nat.lt_of_lt_of_le hcbn F.le) hcr hcs (by rw [F.same _ hcbn hcr hcs]; exact bc) (Rd.fr F hmr hms rg) (Rd.fr F hmr hms rw') (Rd.fr F hmr hms rc) hL (fun x hx => Rd.fr F hmr hms (hLr x hx)) (by simp (disch := omega) [t2]) (by simp (disch := omega) [t4]) (by simp (disch := omega) [t6]) R' (by rw [hst]; rfl) hK
  · have c' : ¬ (0 : Int) < (S.length : Int) - st.a := by omega
    rw [if_neg c] at hst
    simp -dsimp (disch := omega) [t4, c', c]
    rw [hR1]
    exact tail17 E hr hs hp hq b0 hm hmr hms hcb hcbn hcr hcs bc rg rw' rc hL hLr (by simp (disch := omega) [t2]) (by simp (disch := omega) [t4]) (by simp (disch := omega) [t6]) R (by rw [hst]) hK
theorem tail6 (E : Ext h0 hh) (hr : h0.next < r) (hs : h0.next < s) (hp : h0.next < p) (hq : h0.next < q) (b0 : hh.blks h0.next = some ⟨#[.slice none 0 0, .slice none 0 0, .slice none 0 0], 1, true⟩) (hm : h0.next < mm) (hmn : mm ≤ hh.next) (hmr : r < mm) (hms : s < mm) (t0 : t 0 = .string (txt S)) (t2 : t 2 = ptr h0.next) (t4 : t 4 = ptr r) (R : Rd hh r s p q S (prM S)) (hS : S.length < 4611686018427387904)
    (hK : ∀ h' v L vg vw vc, Ext h0 h' → IsEr h' (erOf (prF S)) v → CfT h' (orN (prF S) (prG S).1) (orN (prF S) (prW S).1) L vg vw vc → L.map (·.1) = orN (prF S) (prC S).1 → K (.tuple #[.agg #[vg, vw, vc], v]) h') : vcF prog f9.ntmps (tb9 h0.next) (sndC (sndC (sndC (sndC (sndC (bodyC f9)))))) (FnQ prog f9.results.toList h0 K) t hh (.mk _) := by
  obtain ⟨RR, hR1⟩ : ∃ RR, RR = (sndC (sndC (sndC (sndC (sndC (sndC (sndC (sndC (sndC (sndC (sndC (sndC (sndC (bodyC f9)))))))))))))) := ⟨_, rfl⟩
  have hR2 := hR1
  conv at hR2 => rhs; whnf
  have e0 : (sndC (sndC (sndC (sndC (sndC (bodyC f9)))))) = (sndC (sndC (sndC (sndC (sndC (bodyC f9)))))) := rfl
  conv at e0 => rhs; whnf
  rw [e0, ← hR2]
  clear e0 hR2
  have hn := E.le
  obtain ⟨cb, hcb⟩ : ∃ cb, cb = hh.next := ⟨_, rfl⟩
  obtain ⟨lr, ls, lp, lq⟩ := R.lps
  simp -dsimp (disch := omega) [t4]
  refine lguest_call (R.alloc _) fun h1 vg R1 F1 rg => ?_
  have F1n := F1.le
  have c1 := F1.same cb (by simp; omega) (by omega) (by omega)
  rw [hcb, blks_alloc_eq, ← hcb] at c1
  have n1 : cb < h1.next := by simp at F1n; omega
  have rg1 := rg.weak (m' := mm) (by simp; omega)
  obtain ⟨ag, cg, e1⟩ := rg.slice
  subst e1
  rw [← hcb]
  simp -dsimp (disch := omega) [t4, c1]
  have nof : ∀ (x y z : Value) f a n, (∃ o k c, x = .slice o k c) → (⟨#[x, y, z], 1, true⟩ : Blk) ≠ faultB f a n := fun x y z f a n ⟨o, k, c, hx⟩ e => by
    subst hx
    have := congrArg (fun b : Blk => b.cells[0]?) e
    simp [faultB] at this
  have ngl : (lsA S (rdG S) (stG S) (txt [103, 117, 101, 115, 116, 115]) (txt [103, 117, 101, 115, 116]) (prM S)) = prG S := rfl
  rw [ngl] at R1 rg rg1 ⊢
  have R1' : Rd (h1.set cb ⟨#[.slice ag (prG S).1.length cg, .slice none 0 0, .slice none 0 0], 1, true⟩) r s p q S (prG S).2 := R1.set c1 (by omega) (by omega) (by omega) (by omega) fun f a n => nof _ _ _ f a n ⟨_, _, _, rfl⟩
  have b1 := (F1.same h0.next (by simp; omega) (by omega) (by omega)).trans ((blks_alloc_ne hh h0.next _ (by omega)).trans b0)
  have E1 : Ext h0 h1 := (E.trans (Ext.alloc _ _)).fr F1 (by omega) (by omega)
  refine lwindow_call R1' fun h2 vw R2 F2 rw' => ?_
  have F2n : h1.next ≤ h2.next := F2.le
  have c2 := F2.same cb (by simpa using n1) (by omega) (by omega)
  rw [blks_set_eq] at c2
  have b2 := (F2.same h0.next (by simp; omega) (by omega) (by omega)).trans ((blks_set_ne _ _ _ _ (by omega)).trans b1)
  have E2 : Ext h0 h2 := (E1.then_set _ (by omega)).fr F2 (by omega) (by omega)
  have rw1 := rw'.weak (m' := mm) (by simp; omega)
  obtain ⟨aw, cw, e2⟩ := rw'.slice
  subst e2
  have sg : ∀ i, sblk (.slice ag (prG S).1.length cg) = some i → i ≠ cb := fun i hi e => by have := (rg.blk i hi).1; simp at this; omega
  have rg2 : Row mm h2 20 (prG S).1.length (guesC (prG S).1) (.slice ag (prG S).1.length cg) := Rd.fr F2 hmr hms (Row.set rg1 _ _ fun e => sg _ e rfl)
  simp -dsimp (disch := omega) [t4, c2]
  have nwl : (lsA S (rdW S) (stW S) (txt [119, 105, 110, 100, 111, 119, 115]) (txt [119, 105, 110, 100, 111, 119]) (prG S).2) = prW S := rfl
  rw [nwl] at R2 rw' rw1 ⊢
  have R2' : Rd (h2.set cb ⟨#[.slice ag (prG S).1.length cg, .slice aw (prW S).1.length cw, .slice none 0 0], 1, true⟩) r s p q S (prW S).2 := R2.set c2 (by omega) (by omega) (by omega) (by omega) fun f a n => nof _ _ _ f a n ⟨_, _, _, rfl⟩
  refine lchannel_call R2' fun h3 vc L hL R3 F3 rc hLr => ?_
  have F3n : h2.next ≤ h3.next := F3.le
  have n2 : cb < h2.next := by omega
  have c3 := F3.same cb (by simpa using n2) (by omega) (by omega)
  rw [blks_set_eq] at c3
  have b3 := (F3.same h0.next (by simp; omega) (by omega) (by omega)).trans ((blks_set_ne _ _ _ _ (by omega)).trans b2)
  have E3 : Ext h0 h3 := (E2.then_set _ (by omega)).fr F3 (by omega) (by omega)
  have rc1 := rc.weak (m' := mm) (by simp; omega)
  have hLr1 : ∀ x ∈ L, Row mm h3 2 x.1.to.length (endsC x.1.to) x.2 := fun x hx => (hLr x hx).weak (by simp; omega)
  obtain ⟨ac, cc, e3⟩ := rc.slice
  subst e3
  have sw : ∀ i, sblk (.slice aw (prW S).1.length cw) = some i → i ≠ cb := fun i hi e => by have := (rw'.blk i hi).1; simp at this; omega
  have rg3 : Row mm h3 20 (prG S).1.length (guesC (prG S).1) (.slice ag (prG S).1.length cg) := Rd.fr F3 hmr hms (Row.set rg2 _ _ fun e => sg _ e rfl)
  have rw3 : Row mm h3 2 (prW S).1.length (winsC (prW S).1) (.slice aw (prW S).1.length cw) := Rd.fr F3 hmr hms (Row.set rw1 _ _ fun e => sw _ e rfl)
  obtain ⟨v3, hv3, hf3⟩ := R3.blk
  have hv3' : h3.blks r = some ⟨#[.pointer (some ⟨s, 0, none⟩), v3], 1, true⟩ := hv3
  simp -dsimp (disch := omega) [t4, c3, hv3']
  have ncl : (lsA S (rdC S) (stC S) (txt [99, 104, 97, 110, 110, 101, 108, 115]) (txt [99, 104, 97, 110, 110, 101, 108]) (prW S).2) = prC S := rfl
  rw [ncl] at R3 hL
  obtain ⟨H, hH⟩ : ∃ H, H = h3.set cb ⟨#[.slice ag (prG S).1.length cg, .slice aw (prW S).1.length cw, .slice ac L.length cc], 1, true⟩ := ⟨_, rfl⟩
  have R4 : Rd H r s p q S (prC S).2 := by rw [hH]; exact R3.set c3 (by omega) (by omega) (by omega) (by omega) fun f a n => nof _ _ _ f a n ⟨_, _, _, rfl⟩
  have sc : ∀ i, sblk (.slice ac L.length cc) = some i → i ≠ cb := fun i hi e => by have := (rc.blk i hi).1; simp at this; omega
  have rg4 : Row mm H 20 (prG S).1.length (guesC (prG S).1) (.slice ag (prG S).1.length cg) := by rw [hH]; exact Row.set rg3 _ _ fun e => sg _ e rfl
  have rw4 : Row mm H 2 (prW S).1.length (winsC (prW S).1) (.slice aw (prW S).1.length cw) := by rw [hH]; exact Row.set rw3 _ _ fun e => sw _ e rfl
  have rc4 : Row mm H 7 L.length (chsC L) (.slice ac L.length cc) := by rw [hH]; exact Row.set rc1 _ _ fun e => sc _ e rfl
  have hL4 : ∀ x ∈ L, Row mm H 2 x.1.to.length (endsC x.1.to) x.2 := fun x hx => by rw [hH]; exact Row.set (hLr1 x hx) _ _ fun e => by have := ((hLr x hx).blk _ e).1; simp at this; omega
  have c4 : H.blks cb = some ⟨#[.slice ag (prG S).1.length cg, .slice aw (prW S).1.length cw, .slice ac L.length cc], 1, true⟩ := by rw [hH]; exact blks_set_eq _ _ _
  have b4 : H.blks h0.next = some ⟨#[.slice none 0 0, .slice none 0 0, .slice none 0 0], 1, true⟩ := by rw [hH, blks_set_ne _ _ _ _ (by omega)]; exact b3
  have E4 : Ext h0 H := by rw [hH]; exact E3.then_set _ (by omega)
  have n4 : cb < H.next := by rw [hH]; simp; omega
  rw [← hH]
  clear hH rg rg1 rg2 rg3 rw' rw1 rw3 rc rc1 hLr hLr1 c1 c2 c3 b1 b2 b3 R1 R1' R2 R2' R3 E1 E2 E3
  obtain ⟨v4, hv4, hf4⟩ := R4.blk
  have hv4' : H.blks r = some ⟨#[.pointer (some ⟨s, 0, none⟩), v4], 1, true⟩ := hv4
  refine at_call R4.src ?_
  simp -dsimp (disch := omega) [t4, hv4']
  refine take_rd (w := 4) rfl R4 fun h5 R5 F5 => ?_
  obtain ⟨v5, hv5, hf5⟩ := R5.blk
  have hv5' : h5.blks r = some ⟨#[.pointer (some ⟨s, 0, none⟩), v5], 1, true⟩ := hv5
  simp -dsimp (disch := omega) [t4, hv5']
  refine failR R5 ?_
  simp -dsimp (disch := omega) [t4]
  refine note_call R5 fun h6 R6 F6 => ?_
  have F56 : Fr H h6 r s := (F5.fr r).trans F6
  have hle := R4.le
  have hsl : (txt S).extract 0 (prC S).2.a = txt (S.take (prC S).2.a) := by rw [ext_txt]; rfl
  have hsz : (txt S).size = S.length := rfl
  simp -dsimp (disch := first | omega | (rw [hsz]; omega)) [t0, hsl]
  refine sum_call (by rw [txt_size, List.length_take]; omega) ?_
  rw [sumTo_all, txt_data]
  have hsr := sumL_range (S.take (prC S).2.a) 1 (by omega)
  rw [show List.foldl sumStep 1 (S.take (prC S).2.a) = sumL (S.take (prC S).2.a) from rfl] at hsr
  obtain ⟨U, hU⟩ : ∃ U : Nat, sumL (S.take (prC S).2.a) = U := Int.eq_ofNat_of_zero_le hsr.1
  rw [hU] at hsr ⊢
  obtain ⟨N, hN⟩ : ∃ N, N = numN ((prC S).2.got S 4) := ⟨_, rfl⟩
  have hN4 : N < 4294967296 := by rw [hN]; exact got4 _ _
  rw [← hN]
  have h6c : h6.blks cb = some ⟨#[.slice ag (prG S).1.length cg, .slice aw (prW S).1.length cw, .slice ac L.length cc], 1, true⟩ := by rw [F56.same cb n4 (by omega) (by omega)]; exact c4
  have h6b : h6.blks h0.next = some ⟨#[.slice none 0 0, .slice none 0 0, .slice none 0 0], 1, true⟩ := by rw [F56.same h0.next (by omega) (by omega) (by omega)]; exact b4
  have hpS : ∀ st6, st6 = (if (N : Int) ≠ (U : Int) then (((prC S).2.take S 4).note sSum 0 (failN ((prC S).2.take S 4).torn)).note sSum 0 7 else ((prC S).2.take S 4).note sSum 0 (failN ((prC S).2.take S 4).torn)) → prS S = if st6.a < S.length then st6.note sEnd 0 5 else st6 := fun st6 h => by
    subst h
    unfold prS
    simp only
    rw [hU, ← hN]
  by_cases d : N = U
  · have d' : (N : Int) = U := by omega
    simp -dsimp (disch := omega) [d, d']
    rw [hR1]
    exact tail15 (E4.fr F56 (by omega) (by omega)) hr hs hp hq h6b hm hmr hms (by omega) (Nat.lt_of_lt_of_le n4 F56.le) (by omega) (by omega) h6c (Rd.fr F56 hmr hms rg4) (Rd.fr F56 hmr hms rw4) (Rd.fr F56 hmr hms rc4) hL (fun x hx => Rd.fr F56 hmr hms (hL4 x hx)) (by simp (disch := omega) [t2]) (by simp (disch := omega) [t4]) (by simp (disch := omega)) R6 (hpS _ (by rw [if_neg (by simpa using d')]; rfl)) hK
  · have d' : ¬ (N : Int) = U := by omega
    simp -dsimp (disch := omega) [d, d', t4]
    refine note_call R6 fun h7 R7 F7 => ?_
    have F67 := F56.trans F7
    simp -dsimp (disch := omega)
    rw [hR1]
    exact tail15 (E4.fr F67 (by omega) (by omega)) hr hs hp hq (by rw [F7.same _ (by have := F56.le; omega) (by omega) (by omega)]; exact h6b) hm hmr hms (by omega) (Nat.lt_of_lt_of_le n4 F67.le) (by omega) (by omega) (by rw [F7.same _ (by have := F56.le; omega) (by omega) (by omega)]; exact h6c) (Rd.fr F67 hmr hms rg4) (Rd.fr F67 hmr hms rw4) (Rd.fr F67 hmr hms rc4) hL (fun x hx => Rd.fr F67 hmr hms (hL4 x hx)) (by simp (disch := omega) [t2]) (by simp (disch := omega) [t4]) (by simp (disch := omega)) R7 (hpS _ (by rw [if_pos (by simpa using d')]; rfl)) hK
end
section
variable {h : Hp} {K : Value → Hp → Prop}
set_option maxHeartbeats 8000000 in
theorem parse_call {S : List UInt8} (hS : S.length < 4611686018427387904) (hK : ∀ h' v L vg vw vc, Ext h h' → IsEr h' (erOf (prF S)) v → CfT h' (orN (prF S) (prG S).1) (orN (prF S) (prW S).1) L vg vw vc → L.map (·.1) = orN (prF S) (prC S).1 → K (.tuple #[.agg #[vg, vw, vc], v]) h') : ACall prog 9 [.string (txt S)] h K := by
  refine acallF_of (tb9 h.next) func9 rfl rfl mixed (by kernel_rfl) fun hwf => ?_
  obtain ⟨RR, hR1⟩ : ∃ RR, RR = (sndC (sndC (sndC (sndC (sndC (bodyC f9)))))) := ⟨_, rfl⟩
  have hR2 := hR1
  conv at hR2 => rhs; whnf
  rw [← hR2]
  clear hR2
  simp -dsimp (disch := omega)
  refine of_call (by rw [txt_size]; omega) fun h1 s p q src hs hp hq x1 => ?_
  have hs : h.next + 1 ≤ s := by simpa using hs
  have hp : h.next + 1 ≤ p := by simpa using hp
  have hq : h.next + 1 ≤ q := by simpa using hq
  have ls := src.ls
  have lp := src.lp
  have lq := src.lq
  have b0 : h1.blks h.next = some ⟨#[.slice none 0 0, .slice none 0 0, .slice none 0 0], 1, true⟩ := by rw [x1.same _ (by simp)]; exact blks_alloc_eq _ _
  have E1 : Ext h h1 := (Ext.alloc _ _).trans x1
  have E1n := E1.le
  simp -dsimp (disch := omega)
  obtain ⟨r, hr⟩ : ∃ r, r = h1.next := ⟨_, rfl⟩
  obtain ⟨G, hG⟩ : ∃ G, G = h1.alloc ⟨#[.pointer (some ⟨s, 0, none⟩), .pointer none], 1, true⟩ := ⟨_, rfl⟩
  have Gn : G.next = r + 1 := by rw [hG, hr]; simp
  have xG : Ext h1 G := by rw [hG]; exact Ext.alloc _ _
  have bG : G.blks r = some ⟨#[.pointer (some ⟨s, 0, none⟩), .pointer none], 1, true⟩ := by rw [hG, hr]; exact blks_alloc_eq _ _
  rw [← hG, ← hr]
  have hr1 : h.next + 1 ≤ r := by omega
  have R0 : Rd G r s p q S (St.mk 0 false none) := by
    refine ⟨?_, ⟨.pointer none, bG, rfl⟩, by omega, by omega, by omega, by omega, Nat.zero_le _⟩
    have := src.ext xG
    rw [txt_size] at this
    simpa using this
  have E2 : Ext h G := E1.trans xG
  have b1 := (xG.same h.next (by omega)).trans b0
  clear hG xG bG
  have hc4 : cut0 4 = 4 := rfl
  refine text_call R0.src ?_
  rw [hc4, show (4 : Int) = ((4 : Nat) : Int) from rfl, got_eq S _ 4 R0.le]
  have R1 := R0.take 4
  obtain ⟨G1, hG1⟩ : ∃ G1, G1 = G.set s (afterB p q ((St.mk 0 false none).a : Nat) ((S.length : Int) - ((St.mk 0 false none).a : Nat)) (St.mk 0 false none).torn ((4 : Nat) : Int)) := ⟨_, rfl⟩
  have F1 : Fr G G1 r s := by rw [hG1]; exact Fr.of_set _ _ _ _
  rw [← hG1] at R1 ⊢
  clear hG1
  have E3 := E2.fr F1 (by omega) (by omega)
  have b2 := (F1.same h.next (by omega) (by omega) (by omega)).trans b1
  obtain ⟨v1, hv1, hf1⟩ := R1.blk
  have hv1' : G1.blks r = some ⟨#[.pointer (some ⟨s, 0, none⟩), v1], 1, true⟩ := hv1
  simp -dsimp (disch := omega) [hv1']
  refine failR R1 ?_
  simp -dsimp (disch := omega)
  refine note_call R1 fun G2 R2 F2 => ?_
  have E4 := E3.fr F2 (by omega) (by omega)
  have b3 := (F2.same h.next (by have := E3.le; have := F1.le; omega) (by omega) (by omega)).trans b2
  simp -dsimp (disch := omega)
  have F12 : Fr G G2 r s := F1.trans F2
  have hM : ∀ st3, st3 = (if (St.mk 0 false none).got S 4 ≠ magicL then ((((St.mk 0 false none).take S 4).note sMagic 0 (failN ((St.mk 0 false none).take S 4).torn))).note sMagic 0 3 else (((St.mk 0 false none).take S 4).note sMagic 0 (failN ((St.mk 0 false none).take S 4).torn))) → prM S = st3 := fun st3 h => by
    subst h; rfl
  by_cases c : (St.mk 0 false none).got S 4 = [65, 76, 67, 49]
  · simp -dsimp (disch := omega) [c]
    rw [hR1]
    refine tail6 (mm := G.next) (r := r) (s := s) (p := p) (q := q) E4 (by omega) (by omega) (by omega) (by omega) b3 (by have := E2.le; omega) F12.le (by omega) (by omega) rfl rfl rfl ?_ hS hK
    rw [hM _ (if_neg (by simpa [magicL] using c)).symm]
    exact R2
  · simp -dsimp (disch := omega) [c]
    refine note_call R2 fun G3 R3 F3 => ?_
    have F13 := F12.trans F3
    have hn := E4.le
    have E5 := E4.fr F3 (by omega) (by omega)
    have b4 := (F3.same h.next (by have := E2.le; have := F12.le; omega) (by omega) (by omega)).trans b3
    simp -dsimp (disch := omega)
    rw [hR1]
    refine tail6 (mm := G.next) (r := r) (s := s) (p := p) (q := q) E5 (by omega) (by omega) (by omega) (by omega) b4 (by omega) F13.le (by omega) (by omega) rfl rfl rfl ?_ hS hK
    rw [hM _ (if_pos (by simpa [magicL] using c)).symm]
    exact R3
end
end Go.Proofs.YtmnemfeofhinaaaDoor
namespace Go.Proofs.YtmnemfeofhinaaaDoor
set_option maxRecDepth 100000
open Go Go.Mini

/-- A byte; a number. -/
def nAt (S : List UInt8) (a n : Nat) : Nat := numN ((S.drop a).take n)
def dG (S : List UInt8) (a : Nat) : Gu := ⟨nAt S a 1, nAt S (a + 1) 4, nAt S (a + 5) 1, (List.range 17).map fun k => nAt S (a + 6 + k) 1⟩
def oneG (S : List UInt8) (a : Nat) : Option (Gu × Nat) := if S.length < a + 23 then none else some (dG S a, a + 23)
def oneW (S : List UInt8) (a : Nat) : Option (Win × Nat) := if S.length < a + 3 then none else some (⟨nAt S a 1, nAt S (a + 1) 2⟩, a + 3)
def dTo (S : List UInt8) (a n : Nat) : List (Nat × Nat) := (List.range n).map fun k => (nAt S (a + 2 * k) 1, nAt S (a + (2 * k + 1)) 1)
def dC (S : List UInt8) (a : Nat) : Ch := ⟨nAt S a 1, nAt S (a + 1) 1, nAt S (a + 2) 1, dTo S (a + 10) (nAt S (a + 9) 1), nAt S (a + 3) 1, nAt S (a + 4) 1, nAt S (a + 5) 4⟩
def oneC (S : List UInt8) (a : Nat) : Option (Ch × Nat) := if S.length < a + 10 then none else if S.length < a + 10 + 2 * nAt S (a + 9) 1 then none else some (dC S a, a + 10 + 2 * nAt S (a + 9) 1)
def dL {α : Type} (one : Nat → Option (α × Nat)) (each : ByteArray) : Nat → Nat → Nat → Flt ⊕ (List α × Nat)
  | 0, _, a => .inr ([], a)
  | n + 1, i, a => match one a with
    | none => .inl (each, (i : Nat), 4)
    | some (x, b) => match dL one each n (i + 1) b with
      | .inl z => .inl z
      | .inr (l, e) => .inr (x :: l, e)
def dLn {α : Type} (S : List UInt8) (one : Nat → Option (α × Nat)) (all each : ByteArray) (a : Nat) : Flt ⊕ (List α × Nat) := if S.length < a + 1 then .inl (all, 0, 4) else dL one each (nAt S a 1) 0 (a + 1)
/-- Behind the channels. -/
def docE (S : List UInt8) (gs : List Gu) (ws : List Win) (cs : List Ch) (e : Nat) : Flt ⊕ (List Gu × List Win × List Ch) :=
  if S.length < e + 4 then .inl (sSum, 0, 4) else if nAt S e 4 ≠ (sumL (S.take e)).toNat then .inl (sSum, 0, 7) else if e + 4 < S.length then .inl (sEnd, 0, 5) else match chkC gs ws cs with
    | some z => .inl z
    | none => .inr (gs, ws, cs)
def docP (S : List UInt8) : Flt ⊕ (List Gu × List Win × List Ch) :=
  if S.length < 4 then .inl (sMagic, 0, 4) else if S.take 4 ≠ magicL then .inl (sMagic, 0, 3) else match dLn S (oneG S) sGuests sGuest 4 with
    | .inl z => .inl z
    | .inr (gs, a) => match dLn S (oneW S) sWindows sWindow a with
      | .inl z => .inl z
      | .inr (ws, b) => match dLn S (oneC S) sChannels sChannel b with
        | .inl z => .inl z
        | .inr (cs, e) => docE S gs ws cs e

/-! ### A step of the reader -/
theorem take_ok {S : List UInt8} {st : St} {n : Nat} (ht : st.torn = false) (h : st.a + n ≤ S.length) : st.take S n = { st with a := st.a + n } ∧ st.got S n = (S.drop st.a).take n := by
  unfold St.take St.got
  rw [if_neg (by simp [ht]; omega), if_neg (by simp [ht]; omega)]
  exact ⟨rfl, rfl⟩
theorem take_no {S : List UInt8} {st : St} {n : Nat} (h : st.torn = true ∨ S.length < st.a + n) : st.take S n = { st with torn := true } ∧ st.got S n = [] := by
  unfold St.take St.got
  rw [if_pos h, if_pos h]
  exact ⟨rfl, rfl⟩
theorem tk_torn {S : List UInt8} {st : St} (n : Nat) (h : st.torn = true) : (st.take S n).torn = true := by rw [(take_no (.inl h)).1]
theorem stB_torn {S : List UInt8} {st : St} (h : st.torn = true) : ∀ k, (stB S st k).torn = true
  | 0 => h
  | k + 1 => tk_torn 1 (stB_torn h k)
theorem stB_flt {S : List UInt8} {st : St} : ∀ k, (stB S st k).flt = st.flt
  | 0 => rfl
  | k + 1 => by rw [stB, St.take_flt, stB_flt k]
theorem stB_ok {S : List UInt8} {st : St} (ht : st.torn = false) : ∀ k, st.a + k ≤ S.length → stB S st k = { st with a := st.a + k }
  | 0, _ => rfl
  | k + 1, h => by
    rw [stB, stB_ok ht k (by omega)]
    rw [(take_ok (st := { st with a := st.a + k }) ht (by show st.a + k + 1 ≤ _; omega)).1]
    rfl
theorem stB_no {S : List UInt8} {st : St} : ∀ k, S.length < st.a + k → st.a ≤ S.length → (stB S st k).torn = true
  | 0, h, h2 => by omega
  | k + 1, h, h2 => by
    by_cases ht : st.torn = true
    · exact stB_torn ht _
    have ht : st.torn = false := by simpa using ht
    by_cases hk : st.a + k ≤ S.length
    · rw [stB, stB_ok ht k hk, (take_no (.inr (by show S.length < st.a + k + 1; omega))).1]
    · exact tk_torn 1 (stB_no k (by omega) h2)
theorem bN_ok {S : List UInt8} {st : St} (ht : st.torn = false) (k : Nat) (h : st.a + k + 1 ≤ S.length) : bN S st k = nAt S (st.a + k) 1 := by
  unfold bN nAt
  rw [stB_ok ht k (by omega), (take_ok (st := { st with a := st.a + k }) ht (by show st.a + k + 1 ≤ _; omega)).2]
theorem got_ok {S : List UInt8} {st : St} {n : Nat} (ht : st.torn = false) (h : st.a + n ≤ S.length) : numN (st.got S n) = nAt S st.a n := by rw [(take_ok ht h).2]; rfl

/-! ### Elements -/
/-- An element's reader and the document's: they agree. -/
structure OneOk {α : Type} (S : List UInt8) (rd : St → α) (nx : St → St) (one : Nat → Option (α × Nat)) : Prop where
  ok : ∀ a x b, a ≤ S.length → one a = some (x, b) → b ≤ S.length ∧ rd ⟨a, false, none⟩ = x ∧ nx ⟨a, false, none⟩ = ⟨b, false, none⟩
  no : ∀ a, a ≤ S.length → one a = none → (nx ⟨a, false, none⟩).torn = true ∧ (nx ⟨a, false, none⟩).flt = none
theorem oneG_ok (S : List UInt8) : OneOk S (rdG S) (stG S) (oneG S) := by
  have base : ∀ a, a + 6 ≤ S.length → stG0 S ⟨a, false, none⟩ = ⟨a + 6, false, none⟩ := fun a h => by
    unfold stG0
    rw [(take_ok (st := ⟨a, false, none⟩) rfl (by show a + 1 ≤ _; omega)).1, (take_ok (st := ⟨a + 1, false, none⟩) rfl (by show a + 1 + 4 ≤ _; omega)).1, (take_ok (st := ⟨a + 1 + 4, false, none⟩) rfl (by show a + 1 + 4 + 1 ≤ _; omega)).1]
  refine ⟨fun a x b ha h => ?_, fun a ha h => ?_⟩
  · unfold oneG at h
    split at h
    · cases h
    · rename_i hl
      cases h
      refine ⟨by omega, ?_, ?_⟩
      · unfold rdG dG
        rw [base a (by omega), got_ok rfl (by show a + 1 ≤ _; omega), (take_ok (st := ⟨a, false, none⟩) rfl (by show a + 1 ≤ _; omega)).1, got_ok rfl (by show a + 1 + 4 ≤ _; omega), (take_ok (st := ⟨a + 1, false, none⟩) rfl (by show a + 1 + 4 ≤ _; omega)).1, got_ok rfl (by show a + 1 + 4 + 1 ≤ _; omega)]
        congr 1
        apply List.map_congr_left
        intro k hk
        exact bN_ok rfl k (by have := List.mem_range.1 hk; show a + 6 + k + 1 ≤ _; omega)
      · unfold stG
        rw [base a (by omega), stB_ok rfl 17 (by show a + 6 + 17 ≤ _; omega)]
  · unfold oneG at h
    split at h
    · rename_i hl
      refine ⟨?_, ?_⟩
      · unfold stG stG0
        by_cases h1 : S.length < a + 1
        · rw [(take_no (st := ⟨a, false, none⟩) (.inr h1)).1]
          exact stB_torn (tk_torn 1 (tk_torn 4 rfl)) 17
        rw [(take_ok (st := ⟨a, false, none⟩) rfl (by show a + 1 ≤ _; omega)).1]
        by_cases h2 : S.length < a + 1 + 4
        · rw [(take_no (st := ⟨a + 1, false, none⟩) (.inr h2)).1]
          exact stB_torn (tk_torn 1 rfl) 17
        rw [(take_ok (st := ⟨a + 1, false, none⟩) rfl (by show a + 1 + 4 ≤ _; omega)).1]
        by_cases h3 : S.length < a + 1 + 4 + 1
        · rw [(take_no (st := ⟨a + 1 + 4, false, none⟩) (.inr h3)).1]
          exact stB_torn rfl 17
        rw [(take_ok (st := ⟨a + 1 + 4, false, none⟩) rfl (by show a + 1 + 4 + 1 ≤ _; omega)).1]
        exact stB_no 17 (by show _ < a + 1 + 4 + 1 + 17; omega) (by show a + 1 + 4 + 1 ≤ _; omega)
      · unfold stG stG0
        rw [stB_flt, St.take_flt, St.take_flt, St.take_flt]
    · cases h
theorem oneW_ok (S : List UInt8) : OneOk S (rdW S) (stW S) (oneW S) := by
  refine ⟨fun a x b ha h => ?_, fun a ha h => ?_⟩
  · unfold oneW at h
    split at h
    · cases h
    · rename_i hl
      cases h
      refine ⟨by omega, ?_, ?_⟩
      · unfold rdW
        rw [got_ok rfl (by show a + 1 ≤ _; omega), (take_ok (st := ⟨a, false, none⟩) rfl (by show a + 1 ≤ _; omega)).1, got_ok rfl (by show a + 1 + 2 ≤ _; omega)]
      · unfold stW
        rw [(take_ok (st := ⟨a, false, none⟩) rfl (by show a + 1 ≤ _; omega)).1, (take_ok (st := ⟨a + 1, false, none⟩) rfl (by show a + 1 + 2 ≤ _; omega)).1]
  · unfold oneW at h
    split at h
    · rename_i hl
      refine ⟨?_, ?_⟩
      · unfold stW
        by_cases h1 : S.length < a + 1
        · rw [(take_no (st := ⟨a, false, none⟩) (.inr h1)).1]
          exact tk_torn 2 rfl
        rw [(take_ok (st := ⟨a, false, none⟩) rfl (by show a + 1 ≤ _; omega)).1, (take_no (st := ⟨a + 1, false, none⟩) (.inr (by show _ < a + 1 + 2; omega))).1]
      · unfold stW
        rw [St.take_flt, St.take_flt]
    · cases h
theorem oneC_ok (S : List UInt8) : OneOk S (rdC S) (stC S) (oneC S) := by
  have b5 : ∀ a, a + 5 ≤ S.length → stC5 S ⟨a, false, none⟩ = ⟨a + 5, false, none⟩ := fun a h => stB_ok rfl 5 h
  have b9 : ∀ a, a + 9 ≤ S.length → (stC5 S ⟨a, false, none⟩).take S 4 = ⟨a + 9, false, none⟩ := fun a h => by
    rw [b5 a (by omega), (take_ok (st := ⟨a + 5, false, none⟩) rfl (by show a + 5 + 4 ≤ _; omega)).1]
  have b10 : ∀ a, a + 10 ≤ S.length → stC7 S ⟨a, false, none⟩ = ⟨a + 10, false, none⟩ := fun a h => by
    unfold stC7
    rw [b9 a (by omega), (take_ok (st := ⟨a + 9, false, none⟩) rfl (by show a + 9 + 1 ≤ _; omega)).1]
  have nt : ∀ a, a + 10 ≤ S.length → nTo S ⟨a, false, none⟩ = nAt S (a + 9) 1 := fun a h => by
    unfold nTo
    rw [b9 a (by omega), got_ok rfl (by show a + 9 + 1 ≤ _; omega)]
  refine ⟨fun a x b ha h => ?_, fun a ha h => ?_⟩
  · unfold oneC at h
    split at h
    · cases h
    · rename_i hl
      split at h
      · cases h
      · rename_i hl2
        cases h
        refine ⟨by omega, ?_, ?_⟩
        · unfold rdC dC
          rw [nt a (by omega), bN_ok rfl 0 (by show a + 0 + 1 ≤ _; omega), bN_ok rfl 1 (by show a + 1 + 1 ≤ _; omega), bN_ok rfl 2 (by show a + 2 + 1 ≤ _; omega), bN_ok rfl 3 (by show a + 3 + 1 ≤ _; omega), bN_ok rfl 4 (by show a + 4 + 1 ≤ _; omega), b5 a (by omega), got_ok rfl (by show a + 5 + 4 ≤ _; omega)]
          congr 1
          unfold toK dTo
          rw [b10 a (by omega)]
          apply List.map_congr_left
          intro k hk
          have := List.mem_range.1 hk
          rw [bN_ok rfl (2 * k) (by show a + 10 + 2 * k + 1 ≤ _; omega), bN_ok rfl (2 * k + 1) (by show a + 10 + (2 * k + 1) + 1 ≤ _; omega)]
        · unfold stC
          rw [b10 a (by omega), nt a (by omega), stB_ok rfl _ (by show a + 10 + _ ≤ _; omega)]
  · refine ⟨?_, by unfold stC stC7 stC5; rw [stB_flt, St.take_flt, St.take_flt, stB_flt]⟩
    unfold oneC at h
    unfold stC
    by_cases h10 : S.length < a + 10
    · refine stB_torn ?_ _
      unfold stC7
      by_cases h5 : S.length < a + 5
      · exact tk_torn 1 (tk_torn 4 (stB_no 5 (by show _ < a + 5; omega) ha))
      rw [b5 a (by omega)]
      by_cases h9 : S.length < a + 9
      · rw [(take_no (st := ⟨a + 5, false, none⟩) (.inr (by show _ < a + 5 + 4; omega))).1]
        exact tk_torn 1 rfl
      rw [(take_ok (st := ⟨a + 5, false, none⟩) rfl (by show a + 5 + 4 ≤ _; omega)).1, (take_no (st := ⟨a + 5 + 4, false, none⟩) (.inr (by show _ < a + 5 + 4 + 1; omega))).1]
    · rw [if_neg h10] at h
      split at h
      · rename_i hl
        rw [b10 a (by omega), nt a (by omega)]
        exact stB_no _ hl (by show a + 10 ≤ _; omega)
      · cases h

/-! ### Lists -/
theorem note_some {st : St} {F : ByteArray} {a e : Int} {z : Flt} (h : st.flt = some z) : (st.note F a e).flt = some z := by
  unfold St.note; rw [if_neg (by rw [h]; simp)]; exact h
theorem note_zero {st : St} {F : ByteArray} {a : Int} : st.note F a 0 = st := by unfold St.note; rw [if_neg (by simp)]
theorem note_new {st : St} {F : ByteArray} {a e : Int} (h : st.flt = none) (he : e ≠ 0) : (st.note F a e).flt = some (F, a, e) := by
  unfold St.note; rw [if_pos ⟨he, h⟩]
theorem lsX_law {α : Type} {S : List UInt8} {rd : St → α} {nx : St → St} {one : Nat → Option (α × Nat)} (ho : OneOk S rd nx one) (each : ByteArray) : ∀ (n i a : Nat), a ≤ S.length →
    match dL one each n i a with
    | .inl z => (lsX rd nx each n i ⟨a, false, none⟩).2.flt = some z
    | .inr (l, e) => e ≤ S.length ∧ lsX rd nx each n i ⟨a, false, none⟩ = (l, ⟨e, false, none⟩)
  | 0, i, a, ha => ⟨ha, rfl⟩
  | n + 1, i, a, ha => by
    unfold dL lsX
    rw [if_pos rfl]
    cases h : one a with
    | none =>
      obtain ⟨h1, h2⟩ := ho.no a ha h
      have h3 : ((nx ⟨a, false, none⟩).note each (i : Nat) (failN (nx ⟨a, false, none⟩).torn)).flt = some (each, ((i : Nat) : Int), 4) := by
        rw [h1]; exact note_new h2 (by decide)
      simp only
      rw [lsX_flt (by rw [h3]; simp)]
      exact h3
    | some p =>
      obtain ⟨x, b⟩ := p
      obtain ⟨h1, h2, h3⟩ := ho.ok a x b ha h
      have ih := lsX_law ho each n (i + 1) b h1
      simp only
      rw [h2, h3]
      have h4 : (St.mk b false none).note each (i : Nat) (failN (St.mk b false none).torn) = ⟨b, false, none⟩ := note_zero
      rw [h4]
      cases hd : dL one each n (i + 1) b with
      | inl z => rw [hd] at ih; exact ih
      | inr q =>
        obtain ⟨l, e⟩ := q
        rw [hd] at ih
        obtain ⟨i1, i2⟩ := ih
        exact ⟨i1, by rw [i2]⟩
theorem lsA_law {α : Type} {S : List UInt8} {rd : St → α} {nx : St → St} {one : Nat → Option (α × Nat)} (ho : OneOk S rd nx one) (all each : ByteArray) (a : Nat) (ha : a ≤ S.length) :
    match dLn S one all each a with
    | .inl z => (lsA S rd nx all each ⟨a, false, none⟩).2.flt = some z
    | .inr (l, e) => e ≤ S.length ∧ lsA S rd nx all each ⟨a, false, none⟩ = (l, ⟨e, false, none⟩) := by
  unfold dLn lsA lsN lsS
  by_cases h : S.length < a + 1
  · rw [if_pos h]
    obtain ⟨h1, h2⟩ := take_no (S := S) (st := ⟨a, false, none⟩) (n := 1) (.inr h)
    rw [h1]
    have h3 : ((St.mk a true none).note all 0 (failN (St.mk a true none).torn)).flt = some (all, 0, 4) := note_new rfl (by simp [failN])
    simp only
    rw [lsX_flt (by rw [h3]; simp)]
    exact h3
  · rw [if_neg h]
    rw [got_ok rfl (by show a + 1 ≤ _; omega), (take_ok (st := ⟨a, false, none⟩) rfl (by show a + 1 ≤ _; omega)).1]
    have h4 : (St.mk (a + 1) false none).note all 0 (failN (St.mk (a + 1) false none).torn) = ⟨a + 1, false, none⟩ := note_zero
    simp only
    rw [h4]
    exact lsX_law ho each _ 0 (a + 1) (by omega)
theorem lsA_some {α : Type} {S : List UInt8} {rd : St → α} {nx : St → St} {all each : ByteArray} {st : St} {z : Flt} (h : st.flt = some z) : (lsA S rd nx all each st).2.flt = some z := by
  unfold lsA lsS
  have h1 : ((st.take S 1).note all 0 (failN (st.take S 1).torn)).flt = some z := note_some (by rw [St.take_flt]; exact h)
  rw [lsX_flt (by rw [h1]; simp)]
  exact h1
theorem prS_some {S : List UInt8} {z : Flt} (h : (prC S).2.flt = some z) : (prS S).flt = some z := by
  have h4 : (((prC S).2.take S 4).note sSum 0 (failN ((prC S).2.take S 4).torn)).flt = some z := note_some (by rw [St.take_flt]; exact h)
  unfold prS
  simp only
  split
  · split
    · exact note_some (note_some h4)
    · exact note_some h4
  · split
    · exact note_some h4
    · exact h4
theorem prF_of {S : List UInt8} {z : Flt} (h : (prS S).flt = some z) : prF S = some z := by unfold prF; rw [h]
/-- The reader's faults are the document's; where there is none, what is read is, too. -/
theorem pr_doc (S : List UInt8) : match docP S with
    | .inl z => prF S = some z
    | .inr (gs, ws, cs) => prF S = none ∧ (prG S).1 = gs ∧ (prW S).1 = ws ∧ (prC S).1 = cs := by
  unfold docP
  by_cases h4 : S.length < 4
  · rw [if_pos h4]
    obtain ⟨t1, t2⟩ := take_no (S := S) (st := ⟨0, false, none⟩) (n := 4) (.inr (by show S.length < 0 + 4; omega))
    have hm : (prM S).flt = some (sMagic, 0, 4) := by
      have h1 : ((St.mk 0 true none).note sMagic 0 (failN (St.mk 0 true none).torn)).flt = some (sMagic, 0, 4) := note_new rfl (by simp [failN])
      unfold prM
      simp only
      rw [t1]
      split
      · exact note_some h1
      · exact h1
    exact prF_of (prS_some (lsA_some (lsA_some (lsA_some hm))))
  rw [if_neg h4]
  obtain ⟨t1, t2⟩ := take_ok (S := S) (st := ⟨0, false, none⟩) (n := 4) rfl (by show 0 + 4 ≤ _; omega)
  rw [List.drop_zero] at t2
  have h1 : (St.mk (0 + 4) false none).note sMagic 0 (failN (St.mk (0 + 4) false none).torn) = ⟨4, false, none⟩ := note_zero
  by_cases hm : S.take 4 ≠ magicL
  · rw [if_pos hm]
    have hm2 : (prM S).flt = some (sMagic, 0, 3) := by
      unfold prM
      simp only
      rw [t1, t2, h1, if_pos hm]
      exact note_new rfl (by decide)
    exact prF_of (prS_some (lsA_some (lsA_some (lsA_some hm2))))
  rw [if_neg hm]
  have hM : prM S = ⟨4, false, none⟩ := by
    unfold prM
    simp only
    rw [t1, t2, h1, if_neg hm]
  have lg := lsA_law (oneG_ok S) sGuests sGuest 4 (by omega)
  cases hg : dLn S (oneG S) sGuests sGuest 4 with
  | inl z =>
    rw [hg] at lg
    rw [← hM] at lg
    exact prF_of (prS_some (lsA_some (lsA_some lg)))
  | inr pg =>
    obtain ⟨gs, a⟩ := pg
    rw [hg] at lg
    obtain ⟨ha, lg⟩ := lg
    have eG : prG S = (gs, ⟨a, false, none⟩) := by unfold prG; rw [hM]; exact lg
    simp only
    have lw := lsA_law (oneW_ok S) sWindows sWindow a ha
    cases hw : dLn S (oneW S) sWindows sWindow a with
    | inl z =>
      rw [hw] at lw
      have : (prW S).2.flt = some z := by unfold prW; rw [eG]; exact lw
      exact prF_of (prS_some (lsA_some this))
    | inr pw =>
      obtain ⟨ws, b⟩ := pw
      rw [hw] at lw
      obtain ⟨hb, lw⟩ := lw
      have eW : prW S = (ws, ⟨b, false, none⟩) := by unfold prW; rw [eG]; exact lw
      simp only
      have lc := lsA_law (oneC_ok S) sChannels sChannel b hb
      cases hc : dLn S (oneC S) sChannels sChannel b with
      | inl z =>
        rw [hc] at lc
        have : (prC S).2.flt = some z := by unfold prC; rw [eW]; exact lc
        exact prF_of (prS_some this)
      | inr pc =>
        obtain ⟨cs, e⟩ := pc
        rw [hc] at lc
        obtain ⟨he, lc⟩ := lc
        have eC : prC S = (cs, ⟨e, false, none⟩) := by unfold prC; rw [eW]; exact lc
        simp only
        unfold docE
        have hsr := (sumL_range (S.take e) 1 (by omega)).1
        rw [show List.foldl sumStep 1 (S.take e) = sumL (S.take e) from rfl] at hsr
        by_cases h5 : S.length < e + 4
        · rw [if_pos h5]
          obtain ⟨q1, q2⟩ := take_no (S := S) (st := ⟨e, false, none⟩) (n := 4) (.inr h5)
          have h6 : ((St.mk e true none).note sSum 0 (failN (St.mk e true none).torn)).flt = some (sSum, 0, 4) := note_new rfl (by simp [failN])
          refine prF_of ?_
          unfold prS
          simp only
          rw [eC]
          simp only
          rw [q1]
          split
          · split
            · exact note_some (note_some h6)
            · exact note_some h6
          · split
            · exact note_some h6
            · exact h6
        rw [if_neg h5]
        obtain ⟨q1, q2⟩ := take_ok (S := S) (st := ⟨e, false, none⟩) (n := 4) rfl (by show e + 4 ≤ _; omega)
        have h7 : (St.mk (e + 4) false none).note sSum 0 (failN (St.mk (e + 4) false none).torn) = ⟨e + 4, false, none⟩ := note_zero
        have hn : numN ((St.mk e false none).got S 4) = nAt S e 4 := got_ok rfl (by show e + 4 ≤ _; omega)
        by_cases hs : nAt S e 4 ≠ (sumL (S.take e)).toNat
        · rw [if_pos hs]
          have h8 : ((St.mk (e + 4) false none).note sSum 0 7).flt = some (sSum, 0, 7) := note_new rfl (by decide)
          refine prF_of ?_
          unfold prS
          simp only
          rw [eC]
          simp only
          rw [q1, hn]
          simp only
          rw [h7, if_pos (show ((nAt S e 4 : Nat) : Int) ≠ sumL (S.take e) by omega)]
          split
          · exact note_some h8
          · exact h8
        rw [if_neg hs]
        have hS : prS S = if e + 4 < S.length then (St.mk (e + 4) false none).note sEnd 0 5 else ⟨e + 4, false, none⟩ := by
          unfold prS
          simp only
          rw [eC]
          simp only
          rw [q1, hn]
          simp only
          rw [h7, if_neg (show ¬ ((nAt S e 4 : Nat) : Int) ≠ sumL (S.take e) by omega)]
        by_cases h9 : e + 4 < S.length
        · rw [if_pos h9] at hS ⊢
          refine prF_of ?_
          rw [hS]
          exact note_new rfl (by decide)
        · rw [if_neg h9] at hS ⊢
          have hF : prF S = chkC gs ws cs := by
            unfold prF
            rw [hS, eG, eW, eC]
          cases hk : chkC gs ws cs with
          | some z => simp only; rw [hF, hk]
          | none => simp only; exact ⟨by rw [hF, hk], by rw [eG], by rw [eW], by rw [eC]⟩
end Go.Proofs.YtmnemfeofhinaaaDoor
