/-
  What an error tells: Code, Where. Where an error lies. The reader of an image: its state, and note. The reader of an image: number, text. The reader of an image: a segment. What the image's reader reads, and which fault it tells first, is the document's: the plain law. What Build gives, Parse takes, and the other way about; texts that are cut, longer or spoilt: the plain law. Texts that are cut or spoilt are no images; what a fault tells: the plain law.
-/
import Derived.Test.YtcbagjhbmdmjfaaDoorIA
import Derived.Test.YtcbagjhbmdmjfaaDoorE6
import Derived.Test.YtcbagjhbmdmjfaaDoorM30
set_option linter.unusedSimpArgs false
set_option linter.unusedVariables false
set_option linter.unusedSectionVars false

namespace Go.Proofs.YtcbagjhbmdmjfaaDoor
set_option maxRecDepth 100000
open Go Go.Mini Go.Proofs.Tryd

/-- What Parse and others give as an error: none, a number, a fault. -/
inductive Er where
  | nil
  | num (n : Int)
  | flt (f : ByteArray) (at_ n : Int)
def IsEr (h : Hp) : Er → Value → Prop
  | .nil, v => v = .nilIface
  | .num n, v => v = .iface 28 (.int .i64 n)
  | .flt f a n, v => ∃ p, v = .iface 70 (.pointer (some ⟨p, 0, none⟩)) ∧ h.blks p = some (faultB f a n) ∧ p < h.next
def Er.code : Er → Int
  | .nil => 0
  | .num n => n
  | .flt _ _ n => n
theorem code_call {e : Er} {v : Value} {h : Hp} {K : Value → Hp → Prop} (he : IsEr h e v) (hE : HasErr h) (h100 : 100 < h.next) (hK : K (.int .i64 e.code) h) : ACall prog 19 [v] h K := by
  refine acallF_of tb0 func19 rfl rfl mixed (by kernel_rfl) fun hwf => ?_
  cases e with
  | nil =>
    obtain rfl := he
    simp -dsimp (disch := omega)
    exact RetF.same hwf (by simp [Er.code]) (Nat.zero_le _) (fun i hi => by simp [Hp.blks_alloc, Nat.ne_of_lt hi]) hK
  | num n =>
    obtain rfl := he
    simp -dsimp (disch := omega)
    refine is_num_call ?_
    by_cases c : n = 0
    · subst c
      simp -dsimp (disch := omega)
      exact RetF.same hwf (by simp [Er.code]) (Nat.zero_le _) (fun i hi => by simp [Hp.blks_alloc, Nat.ne_of_lt hi]) hK
    · have c' : (n == 0) = false := by simpa using c
      rw [c']
      simp -dsimp (disch := omega)
      refine as_num_call (t := h.next) (by unfold HasErr; rw [blks_alloc_ne _ _ _ (by omega)]; exact hE) (blks_alloc_eq _ _) ?_
      simp -dsimp (disch := omega)
      exact RetF.same hwf (by simp [Er.code]) (Nat.zero_le _) (fun i hi => by simp [Hp.blks_alloc, Nat.ne_of_lt hi]) hK
  | flt f a n =>
    obtain ⟨p, rfl, hp, hpn⟩ := he
    simp -dsimp (disch := omega)
    have hp' : (h.alloc ⟨#[.int .i64 2], 1, true⟩).blks p = some (faultB f a n) := by rw [blks_alloc_ne _ _ _ (by omega)]; exact hp
    refine is_fault_call hp' ?_
    by_cases c : n = 0
    · subst c
      simp -dsimp (disch := omega)
      exact RetF.same hwf (by simp [Er.code]) (Nat.zero_le _) (fun i hi => by simp [Hp.blks_alloc, Nat.ne_of_lt hi]) hK
    · have c' : (n == 0) = false := by simpa using c
      rw [c']
      simp -dsimp (disch := omega)
      refine as_wrap_call (t := h.next) (by unfold HasErr; rw [blks_alloc_ne _ _ _ (by omega)]; exact hE) hp' (blks_alloc_eq _ _) ?_
      simp -dsimp (disch := omega)
      exact RetF.same hwf (by simp [Er.code]) (Nat.zero_le _) (fun i hi => by simp [Hp.blks_alloc, Nat.ne_of_lt hi]) hK
end Go.Proofs.YtcbagjhbmdmjfaaDoor
namespace Go.Proofs.YtcbagjhbmdmjfaaDoor
set_option maxRecDepth 100000
open Go Go.Mini Go.Proofs.Tryd

def Er.field : Er → ByteArray
  | .flt f _ _ => f
  | _ => txt []
def Er.place : Er → Int
  | .flt _ a _ => a
  | _ => -1
theorem where_call {e : Er} {v : Value} {h : Hp} {K : Value → Hp → Prop} (he : IsEr h e v) (hE : HasErr h) (h100 : 100 < h.next) (hK : K (.tuple #[.string e.field, .int .i64 e.place]) h) : ACall prog 18 [v] h K := by
  refine acallF_of tb0 func18 rfl rfl mixed (by kernel_rfl) fun hwf => ?_
  cases e with
  | nil =>
    obtain rfl := he
    simp -dsimp (disch := omega)
    exact RetF.same hwf (by simp [Er.field, Er.place]) (by simp [vtop, vtopL]) (fun i hi => by simp [Hp.blks_alloc, Nat.ne_of_lt hi]) hK
  | num n =>
    obtain rfl := he
    simp -dsimp (disch := omega)
    refine as_num_not_call (t := h.next) (by unfold HasErr; rw [blks_alloc_ne _ _ _ (by omega)]; exact hE) (blks_alloc_eq _ _) ?_
    simp -dsimp (disch := omega)
    exact RetF.same hwf (by simp [Er.field, Er.place]) (by simp [vtop, vtopL]) (fun i hi => by simp [Hp.blks_alloc, Nat.ne_of_lt hi]) hK
  | flt f a n =>
    obtain ⟨p, rfl, hp, hpn⟩ := he
    simp -dsimp (disch := omega)
    have hp' : (h.alloc ⟨#[.pointer none], 1, true⟩).blks p = some (faultB f a n) := by rw [blks_alloc_ne _ _ _ (by omega)]; exact hp
    refine as_fault_call (t := h.next) (by unfold HasErr; rw [blks_alloc_ne _ _ _ (by omega)]; exact hE) (by simp; omega) (blks_alloc_eq _ _) ?_
    have hp2 : h.blks p = some ⟨#[.string f, .int .i64 a, .int .i64 n], 1, true⟩ := hp
    have hne : ¬ p = h.next := by omega
    simp -dsimp (disch := omega) [hp2, hne]
    exact RetF.same hwf (by simp [Er.field, Er.place]) (by simp [vtop, vtopL]) (fun i hi => by simp [Hp.blks_alloc, Nat.ne_of_lt hi]) hK
end Go.Proofs.YtcbagjhbmdmjfaaDoor
namespace Go.Proofs.YtcbagjhbmdmjfaaDoor
set_option maxRecDepth 100000
open Go Go.Mini Go.Proofs.Tryd

/-- Where a reader stands: how far, torn or not, the first fault. -/
structure St where
  a : Nat
  torn : Bool
  flt : Option (ByteArray × Int × Int)
def St.note (st : St) (f : ByteArray) (at_ e : Int) : St := if e ≠ 0 ∧ st.flt = none then { st with flt := some (f, at_, e) } else st
def FltV (h : Hp) : Option (ByteArray × Int × Int) → Value → Prop
  | none, v => v = .pointer none
  | some (f, a, e), v => ∃ d, v = .pointer (some ⟨d, 0, none⟩) ∧ h.blks d = some (faultB f a e) ∧ d < h.next
def rdB (s : Nat) (f e : Nat) (v : Value) : Blk := ⟨#[.pointer (some ⟨s, 0, none⟩), .int .u64 f, .int .u64 e, v], 1, true⟩
/-- A reader in the heap; what it may change: itself, and its source. -/
structure Rd (h : Hp) (r s p q : Nat) (S : List UInt8) (f e : Nat) (st : St) : Prop where
  src : Srce h s p q (txt S) st.a ((S.length : Int) - st.a) st.torn
  blk : ∃ v, h.blks r = some (rdB s f e v) ∧ FltV h st.flt v
  lr : r < h.next
  rs : r ≠ s
  rp : r ≠ p
  rq : r ≠ q
  le : st.a ≤ S.length
structure Fr (h h' : Hp) (r s : Nat) : Prop where
  le : h.next ≤ h'.next
  same : ∀ i, i < h.next → i ≠ r → i ≠ s → h'.blks i = h.blks i
theorem Fr.refl (h : Hp) (r s : Nat) : Fr h h r s := ⟨Nat.le_refl _, fun _ _ _ _ => rfl⟩
theorem Fr.trans {h h' h'' : Hp} {r s : Nat} (x : Fr h h' r s) (y : Fr h' h'' r s) : Fr h h'' r s := ⟨Nat.le_trans x.le y.le, fun i h1 h2 h3 => (y.same i (Nat.lt_of_lt_of_le h1 x.le) h2 h3).trans (x.same i h1 h2 h3)⟩
theorem Srce.off {h : Hp} {s p q r : Nat} {S : ByteArray} {at_ left : Int} {torn : Bool} {b : Blk} (hs : Srce h s p q S at_ left torn) (h1 : s ≠ r) (h2 : p ≠ r) (h3 : q ≠ r) : Srce (h.set r b) s p q S at_ left torn :=
  ⟨by rw [blks_set_ne _ _ _ _ h1]; exact hs.bs, by rw [blks_set_ne _ _ _ _ h2]; exact hs.bp, by rw [blks_set_ne _ _ _ _ h3]; exact hs.bq, hs.ls, hs.lp, hs.lq, hs.ps, hs.qs, hs.at0, hs.left0, hs.sum, hs.len⟩
theorem Rd.sr {h : Hp} {r s p q : Nat} {S : List UInt8} {f e : Nat} {st : St} (R : Rd h r s p q S f e st) : s < h.next := R.src.ls
theorem FltV.keep {h h' : Hp} {o : Option (ByteArray × Int × Int)} {v : Value} (x : FltV h o v) (hn : h.next ≤ h'.next) (hs : ∀ d f a e, h.blks d = some (faultB f a e) → h'.blks d = h.blks d) : FltV h' o v := by
  cases o with
  | none => exact x
  | some z =>
    obtain ⟨d, rfl, hd, hl⟩ := x
    exact ⟨d, rfl, by rw [hs d _ _ _ hd]; exact hd, by omega⟩
theorem note_call {r s p q : Nat} {S : List UInt8} {f e : Nat} {st : St} {F : ByteArray} {a n : Int} {h : Hp} {K : Value → Hp → Prop} (R : Rd h r s p q S f e st)
    (hK : ∀ h', Rd h' r s p q S f e (st.note F a n) → Fr h h' r s → K (.tuple #[]) h') : ACall prog 61 [.pointer (some ⟨r, 0, none⟩), .string F, .int .i64 a, .int .i64 n] h K := by
  refine acallF_of tb0 func61 rfl rfl mixed (by kernel_rfl) fun hwf => ?_
  obtain ⟨v, hv, hf⟩ := R.blk
  have hv' : h.blks r = some ⟨#[.pointer (some ⟨s, 0, none⟩), .int .u64 f, .int .u64 e, v], 1, true⟩ := hv
  by_cases c : n = 0
  · subst c
    have e1 : st.note F a 0 = st := by unfold St.note; rw [if_neg (by simp)]
    rw [e1] at hK
    simp -dsimp (disch := omega) [hv']
    exact RetF.all (by simp) (hK _ R (Fr.refl _ _ _))
  · cases hfl : st.flt with
    | some z =>
      have e1 : st.note F a n = st := by unfold St.note; rw [if_neg (by simp [hfl])]
      rw [e1] at hK
      rw [hfl] at hf
      obtain ⟨d, rfl, hd, hl⟩ := hf
      simp -dsimp (disch := omega) [hv', c]
      exact RetF.all (by simp) (hK _ R (Fr.refl _ _ _))
    | none =>
      have e1 : st.note F a n = { st with flt := some (F, a, n) } := by unfold St.note; rw [if_pos ⟨c, hfl⟩]
      rw [e1] at hK
      rw [hfl] at hf
      obtain rfl : v = .pointer none := hf
      have hlr := R.lr
      have hrn : ¬ r = h.next := by omega
      simp -dsimp (disch := omega) [hv', c, hrn]
      refine RetF.all (by simp) (hK _ ⟨?_, ⟨.pointer (some ⟨h.next, 0, none⟩), ?_, ⟨h.next, rfl, ?_, ?_⟩⟩, ?_, R.rs, R.rp, R.rq, R.le⟩ ⟨?_, ?_⟩)
      · exact (R.src.off (Ne.symm R.rs) (Ne.symm R.rp) (Ne.symm R.rq)).ext (Ext.alloc _ _)
      · rw [blks_alloc_ne _ _ _ (by simpa using hrn)]; exact blks_set_eq _ _ _
      · exact blks_alloc_at _ _ _ (by simp)
      · simp
      · simp; omega
      · simp
      · intro i h1 h2 h3
        rw [blks_alloc_ne _ _ _ (by simp; omega), blks_set_ne _ _ _ _ h2]
end Go.Proofs.YtcbagjhbmdmjfaaDoor
namespace Go.Proofs.YtcbagjhbmdmjfaaDoor
set_option maxRecDepth 100000
open Go Go.Mini Go.Proofs.Tryd

def St.got (S : List UInt8) (st : St) (n : Nat) : List UInt8 := if st.torn = true ∨ S.length < st.a + n then [] else (S.drop st.a).take n
def St.take (S : List UInt8) (st : St) (n : Nat) : St := if st.torn = true ∨ S.length < st.a + n then { st with torn := true } else { st with a := st.a + n }
theorem St.take_flt (S : List UInt8) (st : St) (n : Nat) : (st.take S n).flt = st.flt := by unfold St.take; split <;> rfl
theorem St.take_le {S : List UInt8} {st : St} (n : Nat) (h : st.a ≤ S.length) : (st.take S n).a ≤ S.length := by
  unfold St.take; split
  · exact h
  · show st.a + n ≤ S.length; omega
theorem ext_txt (L : List UInt8) (i j : Nat) : (txt L).extract i j = txt ((L.drop i).take (j - i)) := by
  apply ByteArray.ext
  rw [ByteArray.data_extract]
  show L.toArray.extract i j = ((L.drop i).take (j - i)).toArray
  apply Array.ext'
  simp [List.take_drop]
theorem got_eq (S : List UInt8) (st : St) (n : Nat) (hle : st.a ≤ S.length) : YtcbagjhbmdmjfaaDoor.got (txt S) st.a ((S.length : Int) - st.a) st.torn n = txt (st.got S n) := by
  unfold YtcbagjhbmdmjfaaDoor.got St.got
  by_cases c : st.torn = true ∨ S.length < st.a + n
  · rw [if_pos c, if_pos (by rcases c with c | c; exact .inl c; right; omega)]
  · rw [if_neg c, if_neg (by intro d; apply c; rcases d with d | d; exact .inl d; right; omega)]
    rw [Int.toNat_natCast, show ((st.a : Int) + n).toNat = st.a + n by omega]
    rw [ext_txt, show st.a + n - st.a = n by omega]
theorem Rd.take {h : Hp} {r s p q : Nat} {S : List UInt8} {f e : Nat} {st : St} (R : Rd h r s p q S f e st) (n : Nat) : Rd (h.set s (afterB p q st.a ((S.length : Int) - st.a) st.torn n)) r s p q S f e (st.take S n) := by
  have hle := R.le
  have hA : nxtA st.a ((S.length : Int) - st.a) st.torn n = ((st.take S n).a : Int) ∧ nxtL ((S.length : Int) - st.a) st.torn n = (S.length : Int) - (st.take S n).a ∧ nxtT ((S.length : Int) - st.a) st.torn n = (st.take S n).torn := by
    unfold nxtA nxtL nxtT St.take
    by_cases c : st.torn = true ∨ S.length < st.a + n
    · have c' : st.torn = true ∨ (S.length : Int) - st.a < n := by rcases c with c | c; exact .inl c; right; omega
      rw [if_pos c, if_pos c', if_pos c', if_pos c']
      exact ⟨rfl, rfl, rfl⟩
    · have c' : ¬ (st.torn = true ∨ (S.length : Int) - st.a < n) := by intro d; apply c; rcases d with d | d; exact .inl d; right; omega
      rw [if_neg c, if_neg c', if_neg c', if_neg c']
      refine ⟨by simp, by simp; omega, ?_⟩
      show false = st.torn
      cases ht : st.torn with
      | true => exact absurd (.inl ht) c
      | false => rfl
  obtain ⟨v, hv, hf⟩ := R.blk
  have hsrc := R.src.after (n := (n : Int)) (by omega)
  rw [hA.1, hA.2.1, hA.2.2] at hsrc
  refine ⟨hsrc, ⟨v, by rw [blks_set_ne _ _ _ _ R.rs]; exact hv, ?_⟩, R.lr, R.rs, R.rp, R.rq, St.take_le n hle⟩
  rw [St.take_flt]
  refine hf.keep (Nat.le_refl _) fun d F a e' hd => blks_set_ne _ _ _ _ fun hds => ?_
  subst hds
  have := R.src.bs
  rw [hd] at this
  simp [faultB, srcB] at this
theorem Rd.ext {h h' : Hp} {r s p q : Nat} {S : List UInt8} {f e : Nat} {st : St} (R : Rd h r s p q S f e st) (x : Ext h h') : Rd h' r s p q S f e st := by
  obtain ⟨v, hv, hf⟩ := R.blk
  refine ⟨R.src.ext x, ⟨v, by rw [x.same _ R.lr]; exact hv, ?_⟩, Nat.lt_of_lt_of_le R.lr x.le, R.rs, R.rp, R.rq, R.le⟩
  cases ho : st.flt with
  | none => rw [ho] at hf; exact hf
  | some z =>
    rw [ho] at hf
    obtain ⟨d, rfl, hd, hl⟩ := hf
    exact ⟨d, rfl, by rw [x.same _ hl]; exact hd, Nat.lt_of_lt_of_le hl x.le⟩
theorem Fr.of_set (h : Hp) (r s : Nat) (b : Blk) : Fr h (h.set s b) r s := ⟨Nat.le_refl _, fun _ _ _ h3 => blks_set_ne _ _ _ _ h3⟩
theorem Fr.of_ext {h h' : Hp} (x : Ext h h') (r s : Nat) : Fr h h' r s := ⟨x.le, fun i h1 _ _ => x.same i h1⟩
def failN (t : Bool) : Int := if t = true then 4 else 0
/-- What the fields' readers leave. -/
def St.rd (S : List UInt8) (st : St) (F : ByteArray) (n : Nat) : St := (st.take S n).note F st.a (failN (st.take S n).torn)
theorem numTo_txt (l : List UInt8) : numTo (txt l) (txt l).size = numL l := by
  have := numTo_list (txt l) (txt l).size (Nat.le_refl _)
  rw [this, txt_data, txt_size, List.take_length]
theorem number_call {r s p q : Nat} {S : List UInt8} {f e : Nat} {st : St} {F : ByteArray} {w : Nat} {h : Hp} {K : Value → Hp → Prop} (R : Rd h r s p q S f e st) (hw : (wideF w) = w)
    (hK : ∀ h', Rd h' r s p q S f e (st.rd S F w) → Fr h h' r s → K (.tuple #[.int .u64 (numL (st.got S w)), .int .i64 st.a]) h') : ACall prog 62 [.pointer (some ⟨r, 0, none⟩), .string F, .int .i64 w] h K := by
  refine acallF_of tb0 func62 rfl rfl mixed (by kernel_rfl) fun hwf => ?_
  obtain ⟨v, hv, hf⟩ := R.blk
  have hv' : h.blks r = some ⟨#[.pointer (some ⟨s, 0, none⟩), .int .u64 f, .int .u64 e, v], 1, true⟩ := hv
  simp -dsimp (disch := omega) [hv']
  refine at_call R.src ?_
  simp -dsimp (disch := omega) [hv']
  refine taken_call R.src fun h1 x1 => ?_
  rw [hw] at x1 ⊢
  rw [got_eq S st w R.le, numTo_txt]
  have R1 := (R.take w).ext x1
  obtain ⟨v1, hv1, hf1⟩ := R1.blk
  have hv1' : h1.blks r = some ⟨#[.pointer (some ⟨s, 0, none⟩), .int .u64 f, .int .u64 e, v1], 1, true⟩ := hv1
  simp -dsimp (disch := omega) [hv1']
  refine fail_call R1.src ?_
  simp -dsimp (disch := omega) [hv1']
  refine note_call R1 fun h2 R2 F2 => ?_
  simp -dsimp (disch := omega)
  exact RetF.all (by simp) (hK _ R2 (((Fr.of_set _ _ _ _).trans (Fr.of_ext x1 _ _)).trans F2))
theorem textR_call {r s p q : Nat} {S : List UInt8} {f e : Nat} {st : St} {F : ByteArray} {n : Nat} {h : Hp} {K : Value → Hp → Prop} (R : Rd h r s p q S f e st)
    (hK : ∀ h', Rd h' r s p q S f e (st.rd S F n) → Fr h h' r s → K (.tuple #[.string (txt (st.got S n)), .int .i64 st.a]) h') : ACall prog 60 [.pointer (some ⟨r, 0, none⟩), .string F, .int .i64 n] h K := by
  refine acallF_of tb0 func60 rfl rfl mixed (by kernel_rfl) fun hwf => ?_
  obtain ⟨v, hv, hf⟩ := R.blk
  have hv' : h.blks r = some ⟨#[.pointer (some ⟨s, 0, none⟩), .int .u64 f, .int .u64 e, v], 1, true⟩ := hv
  have hc : cut0 (n : Int) = n := by unfold cut0; rw [if_neg (by omega)]
  simp -dsimp (disch := omega) [hv']
  refine at_call R.src ?_
  simp -dsimp (disch := omega) [hv']
  refine text_call R.src ?_
  rw [hc, got_eq S st n R.le]
  have R1 := R.take n
  obtain ⟨v1, hv1, hf1⟩ := R1.blk
  have hv1' : (h.set s (afterB p q st.a ((S.length : Int) - st.a) st.torn n)).blks r = some ⟨#[.pointer (some ⟨s, 0, none⟩), .int .u64 f, .int .u64 e, v1], 1, true⟩ := hv1
  obtain ⟨h1, hh1⟩ : ∃ h1, h1 = h.set s (afterB p q st.a ((S.length : Int) - st.a) st.torn n) := ⟨_, rfl⟩
  have hFr := Fr.of_set h r s (afterB p q st.a ((S.length : Int) - st.a) st.torn n)
  rw [← hh1] at R1 hv1' hFr ⊢
  simp -dsimp (disch := omega) [hv1']
  refine fail_call R1.src ?_
  simp -dsimp (disch := omega) [hv1']
  refine note_call R1 fun h2 R2 F2 => ?_
  simp -dsimp (disch := omega)
  exact RetF.all (by simp) (hK _ R2 (hFr.trans F2))
end Go.Proofs.YtcbagjhbmdmjfaaDoor
namespace Go.Proofs.YtcbagjhbmdmjfaaDoor
set_option maxRecDepth 100000
open Go Go.Mini Go.Proofs.Tryd

def numN (l : List UInt8) : Nat := (numL l).toNat
theorem numL_nat (l : List UInt8) : numL l = (numN l : Int) := by
  have := (numL_range l).1
  unfold numN; omega
theorem got_len (S : List UInt8) (st : St) (n : Nat) : (st.got S n).length ≤ n := by
  unfold St.got; split
  · simp
  · rw [List.length_take]; omega
theorem numN_lt (S : List UInt8) (st : St) (n : Nat) (hn : n ≤ 8) : numN (st.got S n) < 18446744073709551616 := by
  have h1 := numL_range8 (st.got S n) (Nat.le_trans (got_len S st n) hn)
  have := numL_nat (st.got S n)
  omega
theorem numN_lt2 (l : List UInt8) (h : l.length ≤ 2) : numN l ≤ 65535 := by
  have h1 := numL_range l
  have h2 : ((256 ^ l.length : Nat) : Int) ≤ ((256 ^ 2 : Nat) : Int) := Int.ofNat_le.2 (Nat.pow_le_pow_right (by omega) h)
  rw [show ((256 ^ 2 : Nat) : Int) = 65536 from rfl, Int.natCast_pow 256 l.length, show ((256 : Nat) : Int) = 256 from rfl] at h2
  unfold numN; omega
def sAddr : ByteArray := txt [97, 100, 100, 114, 101, 115, 115]
def sLength : ByteArray := txt [108, 101, 110, 103, 116, 104]
def sBytes : ByteArray := txt [98, 121, 116, 101, 115]
def segA (S : List UInt8) (st : St) : Nat := numN (st.got S 8)
def seg1 (S : List UInt8) (st : St) : St := st.rd S sAddr 8
def segL (S : List UInt8) (st : St) : Nat := numN ((seg1 S st).got S 2)
def seg2 (S : List UInt8) (st : St) : St := (seg1 S st).rd S sLength 2
def seg3 (S : List UInt8) (st : St) : St := if segL S st = 0 then (seg2 S st).note sLength (seg1 S st).a 3 else seg2 S st
def seg4 (S : List UInt8) (f e : Nat) (st : St) (en : Nat) : St := (seg3 S st).note sAddr st.a (segN f e (segA S st) (segL S st) en)
def seg5 (S : List UInt8) (f e : Nat) (st : St) (en : Nat) : St := (seg4 S f e st en).rd S sBytes (segL S st)
def segG (S : List UInt8) (f e : Nat) (st : St) (en : Nat) : Sg := ⟨segA S st, (seg4 S f e st en).got S (segL S st)⟩
theorem Fr.set {h h' : Hp} {r s i : Nat} (x : Fr h h' r s) (b : Blk) (hi : h.next ≤ i) : Fr h (h'.set i b) r s := ⟨x.le, fun j h1 h2 h3 => by rw [blks_set_ne _ _ _ _ (by omega)]; exact x.same j h1 h2 h3⟩
theorem Rd.set {h : Hp} {r s p q i : Nat} {S : List UInt8} {f e : Nat} {st : St} {b b0 : Blk} (R : Rd h r s p q S f e st) (hi : h.blks i = some b0) (h3 : b0.cells.size ≠ 3) (hr : i ≠ r) (hs : i ≠ s) (hp : i ≠ p) (hq : i ≠ q) : Rd (h.set i b) r s p q S f e st := by
  obtain ⟨v, hv, hf⟩ := R.blk
  refine ⟨R.src.off (Ne.symm hs) (Ne.symm hp) (Ne.symm hq), ⟨v, by rw [blks_set_ne _ _ _ _ (Ne.symm hr)]; exact hv, ?_⟩, R.lr, R.rs, R.rp, R.rq, R.le⟩
  refine hf.keep (Nat.le_refl _) fun d F a e' hd => blks_set_ne _ _ _ _ fun hds => ?_
  subst hds
  rw [hi] at hd
  simp only [Option.some.injEq] at hd
  subst hd
  exact h3 rfl
theorem segmentR_call {r s p q : Nat} {S : List UInt8} {f e : Nat} {st : St} {en : Nat} {h : Hp} {K : Value → Hp → Prop} (R : Rd h r s p q S f e st) (he : e < 18446744073709551616)
    (hK : ∀ h', Rd h' r s p q S f e (seg5 S f e st en) → Fr h h' r s → K (.agg #[.int .u64 (segG S f e st en).a, .string (txt (segG S f e st en).b)]) h') : ACall prog 63 [.pointer (some ⟨r, 0, none⟩), .int .u64 en] h K := by
  refine acallF_of tb0 func63 rfl rfl mixed (by kernel_rfl) fun hwf => ?_
  simp -dsimp (disch := omega)
  have R0 := R.ext (Ext.alloc h ⟨#[.int .u64 0, .string (txt [])], 1, true⟩)
  refine number_call (w := 8) R0 (by decide) fun h1 R1 F1 => ?_
  have hA := numN_lt S st 8 (by omega)
  rw [numL_nat, show numN (st.got S 8) = segA S st from rfl]
  rw [show numN (st.got S 8) = segA S st from rfl] at hA
  have R1 : Rd h1 r s p q S f e (seg1 S st) := R1
  simp -dsimp (disch := omega)
  refine number_call (w := 2) R1 (by decide) fun h2 R2 F2 => ?_
  have hL := numN_lt2 ((seg1 S st).got S 2) (got_len _ _ _)
  rw [numL_nat, show numN ((seg1 S st).got S 2) = segL S st from rfl]
  rw [show numN ((seg1 S st).got S 2) = segL S st from rfl] at hL
  have R2 : Rd h2 r s p q S f e (seg2 S st) := R2
  have hn1 := F1.le
  have hn2 := F2.le
  have hlr := R.lr
  have hls := R.src.ls
  have hlp := R.src.lp
  have hlq := R.src.lq
  have hb0 : h2.blks h.next = some ⟨#[.int .u64 0, .string (txt [])], 1, true⟩ := by
    rw [F2.same _ (by simp at hn1; omega) (by omega) (by omega), F1.same _ (by simp) (by omega) (by omega)]
    exact blks_alloc_eq _ _
  have F12 : Fr h h2 r s := ((Fr.of_ext (Ext.alloc h _) r s).trans F1).trans F2
  obtain ⟨A, eA⟩ : ∃ A, A = segA S st := ⟨_, rfl⟩
  obtain ⟨L, eL⟩ : ∃ L, L = segL S st := ⟨_, rfl⟩
  rw [← eA] at hA ⊢
  rw [← eL] at hL ⊢
  by_cases c : L = 0
  · have e3 : (seg2 S st).note sLength (seg1 S st).a 3 = seg3 S st := by unfold seg3; rw [← eL, if_pos c]
    subst c
    simp -dsimp (disch := omega)
    refine note_call R2 fun h3 R3 F3 => ?_
    have R3 : Rd h3 r s p q S f e (seg3 S st) := by rw [← e3]; exact R3
    have hn3 := F3.le
    have hb3 : h3.blks h.next = some ⟨#[.int .u64 0, .string (txt [])], 1, true⟩ := by
      rw [F3.same _ (by simp at hn1; omega) (by omega) (by omega)]
      exact hb0
    have F13 := F12.trans F3
    obtain ⟨v3, hv3, hf3⟩ := R3.blk
    have hv3' : h3.blks r = some ⟨#[.pointer (some ⟨s, 0, none⟩), .int .u64 f, .int .u64 e, v3], 1, true⟩ := hv3
    simp -dsimp (disch := omega) [hv3']
    refine segmentP_call (n := 0) (en := en) he hA ?_
    simp -dsimp (disch := omega)
    refine note_call R3 fun h4 R4 F4 => ?_
    have R4 : Rd h4 r s p q S f e (seg4 S f e st en) := by unfold seg4; rw [← eA, ← eL]; exact R4
    have hn4 := F4.le
    simp -dsimp (disch := omega)
    refine textR_call (n := 0) R4 fun h5 R5 F5 => ?_
    have R5 : Rd h5 r s p q S f e (seg5 S f e st en) := by unfold seg5; rw [← eL]; exact R5
    have hn5 := F5.le
    have hb5 : h5.blks h.next = some ⟨#[.int .u64 0, .string (txt [])], 1, true⟩ := by
      rw [F5.same _ (by simp at hn1; omega) (by omega) (by omega), F4.same _ (by simp at hn1; omega) (by omega) (by omega)]
      exact hb3
    have F15 : Fr h h5 r s := (F13.trans F4).trans F5
    simp -dsimp (disch := omega) [hb5]
    have e5 : segG S f e st en = ⟨A, (seg4 S f e st en).got S 0⟩ := by unfold segG; rw [eA, ← eL]
    rw [e5] at hK
    exact RetF.all (by simp) (hK _ (R5.set hb5 (by simp) (by omega) (by omega) (by omega) (by omega)) (F15.set _ (Nat.le_refl _)))
    
  · have e3 : seg2 S st = seg3 S st := by unfold seg3; rw [← eL, if_neg c]
    have c' : ¬ (L : Int) = 0 := by omega
    rw [e3] at R2
    have hb3 := hb0
    have F13 := F12
    obtain ⟨v3, hv3, hf3⟩ := R2.blk
    have hv3' : h2.blks r = some ⟨#[.pointer (some ⟨s, 0, none⟩), .int .u64 f, .int .u64 e, v3], 1, true⟩ := hv3
    simp -dsimp (disch := omega) [c, c', hv3']
    refine segmentP_call (n := L) (en := en) he hA ?_
    simp -dsimp (disch := omega)
    refine note_call R2 fun h4 R4 F4 => ?_
    have R4 : Rd h4 r s p q S f e (seg4 S f e st en) := by unfold seg4; rw [← eA, ← eL]; exact R4
    have hn4 := F4.le
    simp -dsimp (disch := omega)
    refine textR_call (n := L) R4 fun h5 R5 F5 => ?_
    have R5 : Rd h5 r s p q S f e (seg5 S f e st en) := by unfold seg5; rw [← eL]; exact R5
    have hn5 := F5.le
    have hb5 : h5.blks h.next = some ⟨#[.int .u64 0, .string (txt [])], 1, true⟩ := by
      rw [F5.same _ (by simp at hn1; omega) (by omega) (by omega), F4.same _ (by simp at hn1; omega) (by omega) (by omega)]
      exact hb3
    have F15 : Fr h h5 r s := (F13.trans F4).trans F5
    simp -dsimp (disch := omega) [hb5]
    have e5 : segG S f e st en = ⟨A, (seg4 S f e st en).got S L⟩ := by unfold segG; rw [eA, ← eL]
    rw [e5] at hK
    exact RetF.all (by simp) (hK _ (R5.set hb5 (by simp) (by omega) (by omega) (by omega) (by omega)) (F15.set _ (Nat.le_refl _)))
    
end Go.Proofs.YtcbagjhbmdmjfaaDoor
namespace Go.Proofs.YtcbagjhbmdmjfaaDoor
set_option maxRecDepth 100000
open Go Go.Mini Go.Proofs.Tryd

def sMagic : ByteArray := txt [109, 97, 103, 105, 99]
def sEntry : ByteArray := txt [101, 110, 116, 114, 121]
def sCount : ByteArray := txt [99, 111, 117, 110, 116]
def sSum : ByteArray := txt [115, 117, 109]
def sEnd : ByteArray := txt [101, 110, 100]
def magicL : List UInt8 := [65, 76, 77, 49]
abbrev Flt : Type := ByteArray × Int × Int

theorem note_of {st : St} {z : Flt} (h : st.flt = some z) (F : ByteArray) (a n : Int) : st.note F a n = st := by unfold St.note; rw [if_neg (by simp [h])]
theorem note_zero (st : St) (F : ByteArray) (a : Int) : st.note F a 0 = st := by unfold St.note; rw [if_neg (by simp)]
theorem note_flt {st : St} {a n : Int} (F : ByteArray) (hn : n ≠ 0) (h : st.flt = none) : (st.note F a n).flt = some (F, a, n) := by unfold St.note; rw [if_pos ⟨hn, h⟩]
theorem note_keep {st : St} {z : Flt} (h : st.flt = some z) (F : ByteArray) (a n : Int) : (st.note F a n).flt = some z := by rw [note_of h]; exact h
theorem rd_keep {S : List UInt8} {st : St} {z : Flt} (h : st.flt = some z) (F : ByteArray) (n : Nat) : (st.rd S F n).flt = some z := by
  unfold St.rd
  exact note_keep (by rw [St.take_flt]; exact h) _ _ _
theorem rd_ok {S : List UInt8} {a n : Nat} (F : ByteArray) (h : a + n ≤ S.length) : St.rd S ⟨a, false, none⟩ F n = ⟨a + n, false, none⟩ := by
  have e : St.take S ⟨a, false, none⟩ n = ⟨a + n, false, none⟩ := by unfold St.take; rw [if_neg (by simp; omega)]
  unfold St.rd
  rw [e]
  exact note_zero _ _ _
theorem got_ok {S : List UInt8} {a n : Nat} (h : a + n ≤ S.length) : St.got S ⟨a, false, none⟩ n = (S.drop a).take n := by
  unfold St.got; rw [if_neg (by simp; omega)]
theorem rd_torn {S : List UInt8} {a n : Nat} (F : ByteArray) (h : S.length < a + n) : (St.rd S ⟨a, false, none⟩ F n).flt = some (F, (a : Int), 4) := by
  have e : St.take S ⟨a, false, none⟩ n = ⟨a, true, none⟩ := by unfold St.take; rw [if_pos (.inr h)]
  unfold St.rd
  rw [e]
  exact note_flt _ (by simp [failN]) rfl
/-- One segment, as the document reads it. -/
def docS (S : List UInt8) (f e a en : Nat) : Flt ⊕ Sg :=
  if S.length < a + 8 then .inl (sAddr, a, 4) else if S.length < a + 10 then .inl (sLength, a + 8, 4)
  else if numN ((S.drop (a + 8)).take 2) = 0 then .inl (sLength, a + 8, 3)
  else if hasN f e (numN ((S.drop a).take 8)) (numN ((S.drop (a + 8)).take 2)) = false then .inl (sAddr, a, 6)
  else if numN ((S.drop a).take 8) < en then .inl (sAddr, a, 12)
  else if S.length < a + 10 + numN ((S.drop (a + 8)).take 2) then .inl (sBytes, a + 10, 4)
  else .inr ⟨numN ((S.drop a).take 8), (S.drop (a + 10)).take (numN ((S.drop (a + 8)).take 2))⟩
theorem seg_keep {S : List UInt8} {f e en : Nat} {st : St} {z : Flt} (h : st.flt = some z) : (seg5 S f e st en).flt = some z := by
  unfold seg5 seg4
  refine rd_keep (note_keep ?_ _ _ _) _ _
  unfold seg3 seg2 seg1
  have h2 := rd_keep (S := S) (rd_keep (S := S) h sAddr 8) sLength 2
  split
  · exact note_keep h2 _ _ _
  · exact h2
theorem seg_doc (S : List UInt8) (f e a en : Nat) : match docS S f e a en with
    | .inl z => (seg5 S f e ⟨a, false, none⟩ en).flt = some z
    | .inr g => seg5 S f e ⟨a, false, none⟩ en = ⟨a + 10 + g.b.length, false, none⟩ ∧ segG S f e ⟨a, false, none⟩ en = g := by
  unfold docS
  by_cases c1 : S.length < a + 8
  · rw [if_pos c1]
    have h1 : (seg1 S ⟨a, false, none⟩).flt = some (sAddr, (a : Int), 4) := rd_torn _ c1
    have h2 := rd_keep (S := S) h1 sLength 2
    show (seg5 S f e ⟨a, false, none⟩ en).flt = _
    unfold seg5 seg4
    refine rd_keep (note_keep ?_ _ _ _) _ _
    unfold seg3 seg2
    split
    · exact note_keep h2 _ _ _
    · exact h2
  rw [if_neg c1]
  have e1 : seg1 S ⟨a, false, none⟩ = ⟨a + 8, false, none⟩ := rd_ok _ (by omega)
  have a1 : segA S ⟨a, false, none⟩ = numN ((S.drop a).take 8) := by unfold segA; rw [got_ok (by omega)]
  by_cases c2 : S.length < a + 10
  · rw [if_pos c2]
    have h2 : (seg2 S ⟨a, false, none⟩).flt = some (sLength, ((a + 8 : Nat) : Int), 4) := by unfold seg2; rw [e1]; exact rd_torn _ (by omega)
    show (seg5 S f e ⟨a, false, none⟩ en).flt = some (sLength, (a : Int) + 8, 4)
    rw [show (a : Int) + 8 = ((a + 8 : Nat) : Int) by omega]
    unfold seg5 seg4
    refine rd_keep (note_keep ?_ _ _ _) _ _
    unfold seg3
    split
    · exact note_keep h2 _ _ _
    · exact h2
  rw [if_neg c2]
  have e2 : seg2 S ⟨a, false, none⟩ = ⟨a + 10, false, none⟩ := by unfold seg2; rw [e1]; exact rd_ok _ (by omega)
  have l1 : segL S ⟨a, false, none⟩ = numN ((S.drop (a + 8)).take 2) := by unfold segL; rw [e1, got_ok (by omega)]
  have b2 := numN_lt2 ((S.drop (a + 8)).take 2) (List.length_take_le _ _)
  obtain ⟨n, hn⟩ : ∃ n, n = numN ((S.drop (a + 8)).take 2) := ⟨_, rfl⟩
  obtain ⟨x, hx⟩ : ∃ x, x = numN ((S.drop a).take 8) := ⟨_, rfl⟩
  rw [← hn] at l1 b2 ⊢
  rw [← hx] at a1 ⊢
  by_cases c3 : n = 0
  · rw [if_pos c3]
    show (seg5 S f e ⟨a, false, none⟩ en).flt = some (sLength, (a : Int) + 8, 3)
    rw [show (a : Int) + 8 = ((a + 8 : Nat) : Int) by omega]
    unfold seg5 seg4
    refine rd_keep (note_keep ?_ _ _ _) _ _
    unfold seg3
    rw [if_pos (l1.trans c3), e1, e2]
    exact note_flt _ (by decide) rfl
  rw [if_neg c3]
  have e3 : seg3 S ⟨a, false, none⟩ = ⟨a + 10, false, none⟩ := by unfold seg3; rw [if_neg (by rw [l1]; exact c3), e2]
  have e4 : seg4 S f e ⟨a, false, none⟩ en = St.note ⟨a + 10, false, none⟩ sAddr a (segN f e x n en) := by unfold seg4; rw [e3, a1, l1]
  have hs : segN f e x n en = if hasN f e x n = false then 6 else if x < en then 12 else 0 := by
    unfold segN; rw [if_neg c3, if_neg (by omega)]
  by_cases c4 : hasN f e x n = false
  · rw [if_pos c4]
    rw [if_pos c4] at hs
    show (seg5 S f e ⟨a, false, none⟩ en).flt = _
    unfold seg5
    refine rd_keep ?_ _ _
    rw [e4, hs]
    exact note_flt _ (by decide) rfl
  rw [if_neg c4]
  rw [if_neg c4] at hs
  by_cases c5 : x < en
  · rw [if_pos c5]
    rw [if_pos c5] at hs
    show (seg5 S f e ⟨a, false, none⟩ en).flt = _
    unfold seg5
    refine rd_keep ?_ _ _
    rw [e4, hs]
    exact note_flt _ (by decide) rfl
  rw [if_neg c5]
  rw [if_neg c5] at hs
  rw [hs, note_zero] at e4
  by_cases c6 : S.length < a + 10 + n
  · rw [if_pos c6]
    show (seg5 S f e ⟨a, false, none⟩ en).flt = some (sBytes, (a : Int) + 10, 4)
    rw [show (a : Int) + 10 = ((a + 10 : Nat) : Int) by omega]
    unfold seg5
    rw [e4, l1]
    exact rd_torn _ c6
  rw [if_neg c6]
  have hl : ((S.drop (a + 10)).take n).length = n := by rw [List.length_take, List.length_drop]; omega
  refine ⟨?_, ?_⟩
  · unfold seg5
    rw [e4, l1, rd_ok _ (by omega)]
    show _ = (⟨a + 10 + ((S.drop (a + 10)).take n).length, false, none⟩ : St)
    rw [hl]
  · unfold segG
    rw [e4, l1, a1, got_ok (by omega)]
/-- The segments, as the reader reads them, and as the document does. -/
def rdL (S : List UInt8) (f e : Nat) : Nat → St → Nat → List Sg × St
  | 0, st, _ => ([], st)
  | k + 1, st, en => if st.flt = none then (segG S f e st en :: (rdL S f e k (seg5 S f e st en) ((segG S f e st en).a + (segG S f e st en).b.length)).1, (rdL S f e k (seg5 S f e st en) ((segG S f e st en).a + (segG S f e st en).b.length)).2) else ([], st)
def docL (S : List UInt8) (f e : Nat) : Nat → Nat → Nat → Flt ⊕ (List Sg × Nat)
  | 0, a, _ => .inr ([], a)
  | k + 1, a, en => match docS S f e a en with
    | .inl z => .inl z
    | .inr g => match docL S f e k (a + 10 + g.b.length) (g.a + g.b.length) with
      | .inl z => .inl z
      | .inr (l, a') => .inr (g :: l, a')
theorem rdL_flt {S : List UInt8} {f e k en : Nat} {st : St} {z : Flt} (h : st.flt = some z) : rdL S f e k st en = ([], st) := by
  cases k with
  | zero => rfl
  | succ k => unfold rdL; rw [if_neg (by simp [h])]
theorem list_doc (S : List UInt8) (f e : Nat) : ∀ k a en, match docL S f e k a en with
    | .inl z => (rdL S f e k ⟨a, false, none⟩ en).2.flt = some z
    | .inr (l, a') => rdL S f e k ⟨a, false, none⟩ en = (l, ⟨a', false, none⟩)
  | 0, a, en => rfl
  | k + 1, a, en => by
    have h := seg_doc S f e a en
    unfold docL rdL
    rw [if_pos rfl]
    cases hd : docS S f e a en with
    | inl z =>
      rw [hd] at h
      show (rdL S f e k _ _).2.flt = some z
      rw [rdL_flt h]
      exact h
    | inr g =>
      rw [hd] at h
      obtain ⟨h1, h2⟩ := h
      have ih := list_doc S f e k (a + 10 + g.b.length) (g.a + g.b.length)
      rw [h1, h2]
      dsimp only
      cases hr : docL S f e k (a + 10 + g.b.length) (g.a + g.b.length) with
      | inl z => rw [hr] at ih; exact ih
      | inr p =>
        obtain ⟨l, a'⟩ := p
        rw [hr] at ih
        dsimp only at ih ⊢
        rw [ih]
/-- The whole: as the reader reads it. -/
def im1 (S : List UInt8) : St := St.rd S ⟨0, false, none⟩ sMagic 4
def im2 (S : List UInt8) : St := if St.got S ⟨0, false, none⟩ 4 = magicL then im1 S else (im1 S).note sMagic 0 3
def imX (S : List UInt8) : Nat := numN ((im2 S).got S 8)
def im3 (S : List UInt8) : St := (im2 S).rd S sEntry 8
def im4 (S : List UInt8) (f e : Nat) : St := (im3 S).note sEntry (im2 S).a (entN f e (imX S))
def imN (S : List UInt8) (f e : Nat) : Nat := numN ((im4 S f e).got S 1)
def im5 (S : List UInt8) (f e : Nat) : St := (im4 S f e).rd S sCount 1
def im6 (S : List UInt8) (f e : Nat) : St := if 8 < imN S f e then (im5 S f e).note sCount (im4 S f e).a 5 else im5 S f e
def imL (S : List UInt8) (f e : Nat) : List Sg := (rdL S f e (imN S f e) (im6 S f e) 0).1
def im7 (S : List UInt8) (f e : Nat) : St := (rdL S f e (imN S f e) (im6 S f e) 0).2
def im8 (S : List UInt8) (f e : Nat) : St := (im7 S f e).rd S sSum 4
def im9 (S : List UInt8) (f e : Nat) : St := if numL ((im7 S f e).got S 4) = sumL (S.take (im7 S f e).a) then im8 S f e else (im8 S f e).note sSum (im7 S f e).a 7
def im10 (S : List UInt8) (f e : Nat) : St := if (im9 S f e).a < S.length then (im9 S f e).note sEnd (im9 S f e).a 5 else im9 S f e
inductive Tld where
  | bad (z : Flt)
  | good (x : Nat) (l : List Sg)
/-- The whole: as the document reads it. -/
def docP (S : List UInt8) (f e : Nat) : Tld :=
  if S.length < 4 then .bad (sMagic, 0, 4) else if S.take 4 ≠ magicL then .bad (sMagic, 0, 3)
  else if S.length < 12 then .bad (sEntry, 4, 4)
  else if entN f e (numN ((S.drop 4).take 8)) ≠ 0 then .bad (sEntry, 4, entN f e (numN ((S.drop 4).take 8)))
  else if S.length < 13 then .bad (sCount, 12, 4)
  else if 8 < numN ((S.drop 12).take 1) then .bad (sCount, 12, 5)
  else match docL S f e (numN ((S.drop 12).take 1)) 13 0 with
    | .inl z => .bad z
    | .inr (l, a) =>
      if S.length < a + 4 then .bad (sSum, a, 4)
      else if numL ((S.drop a).take 4) ≠ sumL (S.take a) then .bad (sSum, a, 7)
      else if a + 4 < S.length then .bad (sEnd, a + 4, 5)
      else .good (numN ((S.drop 4).take 8)) l
theorem flt_10 {S : List UInt8} {f e : Nat} {z : Flt} (h : (im9 S f e).flt = some z) : (im10 S f e).flt = some z := by
  unfold im10; split
  · exact note_keep h _ _ _
  · exact h
theorem flt_8 {S : List UInt8} {f e : Nat} {z : Flt} (h : (im8 S f e).flt = some z) : (im10 S f e).flt = some z := by
  refine flt_10 ?_
  unfold im9; split
  · exact h
  · exact note_keep h _ _ _
theorem flt_7 {S : List UInt8} {f e : Nat} {z : Flt} (h : (im7 S f e).flt = some z) : (im10 S f e).flt = some z := flt_8 (rd_keep h _ _)
theorem flt_6 {S : List UInt8} {f e : Nat} {z : Flt} (h : (im6 S f e).flt = some z) : (im10 S f e).flt = some z := by
  refine flt_7 ?_
  unfold im7; rw [rdL_flt h]; exact h
theorem flt_5 {S : List UInt8} {f e : Nat} {z : Flt} (h : (im5 S f e).flt = some z) : (im10 S f e).flt = some z := by
  refine flt_6 ?_
  unfold im6; split
  · exact note_keep h _ _ _
  · exact h
theorem flt_4 {S : List UInt8} {f e : Nat} {z : Flt} (h : (im4 S f e).flt = some z) : (im10 S f e).flt = some z := flt_5 (rd_keep h _ _)
theorem flt_3 {S : List UInt8} {f e : Nat} {z : Flt} (h : (im3 S).flt = some z) : (im10 S f e).flt = some z := flt_4 (note_keep h _ _ _)
theorem flt_2 {S : List UInt8} {f e : Nat} {z : Flt} (h : (im2 S).flt = some z) : (im10 S f e).flt = some z := flt_3 (rd_keep h _ _)
theorem flt_1 {S : List UInt8} {f e : Nat} {z : Flt} (h : (im1 S).flt = some z) : (im10 S f e).flt = some z := by
  refine flt_2 ?_
  unfold im2; split
  · exact h
  · exact note_keep h _ _ _
theorem img_doc (S : List UInt8) (f e : Nat) : match docP S f e with
    | .bad z => (im10 S f e).flt = some z
    | .good x l => (im10 S f e).flt = none ∧ imX S = x ∧ imL S f e = l := by
  unfold docP
  by_cases c1 : S.length < 4
  · rw [if_pos c1]; exact flt_1 (rd_torn (a := 0) _ (by omega))
  rw [if_neg c1]
  have e1 : im1 S = ⟨4, false, none⟩ := rd_ok (a := 0) _ (by omega)
  have g1 : St.got S ⟨0, false, none⟩ 4 = S.take 4 := by rw [got_ok (by omega)]; rfl
  by_cases c2 : S.take 4 ≠ magicL
  · rw [if_pos c2]
    refine flt_2 ?_
    unfold im2; rw [g1, if_neg c2, e1]; exact note_flt _ (by decide) rfl
  rw [if_neg c2]
  have e2 : im2 S = ⟨4, false, none⟩ := by unfold im2; rw [g1, if_pos (by simpa using c2), e1]
  by_cases c3 : S.length < 12
  · rw [if_pos c3]
    refine flt_3 ?_
    unfold im3; rw [e2]; exact rd_torn _ (by omega)
  rw [if_neg c3]
  have e3 : im3 S = ⟨12, false, none⟩ := by unfold im3; rw [e2]; exact rd_ok _ (by omega)
  have x1 : imX S = numN ((S.drop 4).take 8) := by unfold imX; rw [e2, got_ok (by omega)]
  by_cases c4 : entN f e (numN ((S.drop 4).take 8)) ≠ 0
  · rw [if_pos c4]
    refine flt_4 ?_
    unfold im4; rw [x1, e2, e3]; exact note_flt _ c4 rfl
  rw [if_neg c4]
  have e4 : im4 S f e = ⟨12, false, none⟩ := by unfold im4; rw [x1, e3, show entN f e (numN ((S.drop 4).take 8)) = 0 by simpa using c4]; exact note_zero _ _ _
  by_cases c5 : S.length < 13
  · rw [if_pos c5]
    refine flt_5 ?_
    unfold im5; rw [e4]; exact rd_torn _ (by omega)
  rw [if_neg c5]
  have e5 : im5 S f e = ⟨13, false, none⟩ := by unfold im5; rw [e4]; exact rd_ok _ (by omega)
  have n1 : imN S f e = numN ((S.drop 12).take 1) := by unfold imN; rw [e4, got_ok (by omega)]
  by_cases c6 : 8 < numN ((S.drop 12).take 1)
  · rw [if_pos c6]
    refine flt_6 ?_
    unfold im6; rw [n1, if_pos c6, e4, e5]; exact note_flt _ (by decide) rfl
  rw [if_neg c6]
  have e6 : im6 S f e = ⟨13, false, none⟩ := by unfold im6; rw [n1, if_neg c6, e5]
  have hl := list_doc S f e (numN ((S.drop 12).take 1)) 13 0
  cases hd : docL S f e (numN ((S.drop 12).take 1)) 13 0 with
  | inl z =>
    rw [hd] at hl
    refine flt_7 ?_
    unfold im7; rw [n1, e6]; exact hl
  | inr p =>
    obtain ⟨l, a⟩ := p
    rw [hd] at hl
    dsimp only at hl ⊢
    have e7 : im7 S f e = ⟨a, false, none⟩ := by unfold im7; rw [n1, e6, hl]
    have l7 : imL S f e = l := by unfold imL; rw [n1, e6, hl]
    by_cases c7 : S.length < a + 4
    · rw [if_pos c7]
      refine flt_8 ?_
      unfold im8; rw [e7]; exact rd_torn _ (by omega)
    rw [if_neg c7]
    have e8 : im8 S f e = ⟨a + 4, false, none⟩ := by unfold im8; rw [e7]; exact rd_ok _ (by omega)
    by_cases c8 : numL ((S.drop a).take 4) ≠ sumL (S.take a)
    · rw [if_pos c8]
      refine flt_10 ?_
      unfold im9; rw [e7, got_ok (by omega), if_neg c8, e8]; exact note_flt _ (by decide) rfl
    rw [if_neg c8]
    have e9 : im9 S f e = ⟨a + 4, false, none⟩ := by unfold im9; rw [e7, got_ok (by omega), if_pos (by simpa using c8), e8]
    by_cases c9 : a + 4 < S.length
    · rw [if_pos c9]
      show (im10 S f e).flt = some (sEnd, (a : Int) + 4, 5)
      rw [show (a : Int) + 4 = ((a + 4 : Nat) : Int) by omega]
      unfold im10; rw [e9, if_pos c9]; exact note_flt _ (by decide) rfl
    rw [if_neg c9]
    refine ⟨?_, x1, l7⟩
    unfold im10; rw [e9, if_neg c9]
end Go.Proofs.YtcbagjhbmdmjfaaDoor
namespace Go.Proofs.YtcbagjhbmdmjfaaDoor
set_option maxRecDepth 100000
open Go Go.Mini Go.Proofs.Tryd

theorem digAt_nat (N i : Nat) : ((digAt N i).toNat : Int) = ((N / 256 ^ i % 256 : Nat) : Int) := by
  unfold digAt
  have h := Int.natCast_pow 256 i
  rw [show ((256 : Nat) : Int) = 256 from rfl] at h
  rw [← h, ← Int.natCast_ediv, show (256 : Int) = ((256 : Nat) : Int) from rfl, ← Int.natCast_emod]
  exact ofNat_toNat _ ⟨by omega, by have := Nat.mod_lt (N / 256 ^ i) (show 256 > 0 by decide); omega⟩
theorem numL_digs (N : Nat) : ∀ w, numL (digs N w) = ((N % 256 ^ w : Nat) : Int)
  | 0 => by rw [digs_zero, Nat.pow_zero, Nat.mod_one]; rfl
  | w + 1 => by
    rw [digs_succ, numL_append, numL_digs N w, digs_length, digAt_nat, Nat.pow_succ, Nat.mod_mul]
    have h := Int.natCast_pow 256 w
    rw [show ((256 : Nat) : Int) = 256 from rfl] at h
    rw [← h, ← Int.natCast_mul, ← Int.natCast_add, Nat.mul_comm]
theorem numN_digs {N w : Nat} (h : N < 256 ^ w) : numN (digs N w) = N := by
  unfold numN
  rw [numL_digs, Nat.mod_eq_of_lt h]
  rfl
theorem numL_inj : ∀ {l m : List UInt8}, l.length = m.length → numL l = numL m → l = m
  | [], [], _, _ => rfl
  | b :: l, c :: m, h, e => by
    simp only [numL] at e
    have hb := UInt8.toNat_lt b
    have hc := UInt8.toNat_lt c
    have e1 : b.toNat = c.toNat := by omega
    have e2 : numL l = numL m := by omega
    rw [UInt8.toNat_inj.1 e1, numL_inj (by simpa using h) e2]
theorem digs_numN (l : List UInt8) (w : Nat) (h : l.length = w) : digs (numN l) w = l := by
  refine numL_inj (by rw [digs_length, h]) ?_
  have h1 := numL_range l
  have h2 := numL_nat l
  rw [numL_digs, Nat.mod_eq_of_lt, ← h2]
  have h3 := Int.natCast_pow 256 l.length
  rw [show ((256 : Nat) : Int) = 256 from rfl] at h3
  rw [← h]
  omega
theorem mid {α : Type} (P A Q : List α) (n m : Nat) (hn : n = P.length) (hm : m = A.length) : ((P ++ (A ++ Q)).drop n).take m = A := by
  subst hn hm; simp
theorem pow8 : (256 : Nat) ^ 8 = 18446744073709551616 := by decide
theorem pow2 : (256 : Nat) ^ 2 = 65536 := by decide
theorem pow4 : (256 : Nat) ^ 4 = 4294967296 := by decide
theorem pow1 : (256 : Nat) ^ 1 = 256 := by decide
theorem segN_zero {f e a n en : Nat} (h : segN f e a n en = 0) : n ≠ 0 ∧ n ≤ 65535 ∧ hasN f e a n = true ∧ ¬ a < en := by
  unfold segN at h
  split at h; omega
  split at h; omega
  split at h; omega
  rename_i h3
  split at h; omega
  refine ⟨by omega, by omega, by simpa using h3, by omega⟩
theorem segN_of {f e a n en : Nat} (h1 : n ≠ 0) (h2 : n ≤ 65535) (h3 : hasN f e a n = true) (h4 : ¬ a < en) : segN f e a n en = 0 := by
  unfold segN; rw [if_neg h1, if_neg (by omega), if_neg (by simp [h3]), if_neg h4]
theorem docS_app {f e en : Nat} {g : Sg} (P R : List UInt8) (hg : g.a < 18446744073709551616) (h : segN f e g.a g.b.length en = 0) : docS (P ++ (recS g ++ R)) f e P.length en = .inr g := by
  obtain ⟨h1, h2, h3, h4⟩ := segN_zero h
  have hl : (P ++ (recS g ++ R)).length = P.length + (10 + g.b.length + R.length) := by simp [recS, digs_length]; omega
  have e1 : ((P ++ (recS g ++ R)).drop P.length).take 8 = digs g.a 8 := by
    have := mid P (digs g.a 8) (digs g.b.length 2 ++ (g.b ++ R)) P.length 8 rfl (digs_length _ _).symm
    simpa [recS] using this
  have e2 : ((P ++ (recS g ++ R)).drop (P.length + 8)).take 2 = digs g.b.length 2 := by
    have := mid (P ++ digs g.a 8) (digs g.b.length 2) (g.b ++ R) (P.length + 8) 2 (by simp [digs_length]) (digs_length _ _).symm
    simpa [recS] using this
  have e3 : ((P ++ (recS g ++ R)).drop (P.length + 10)).take g.b.length = g.b := by
    have := mid (P ++ (digs g.a 8 ++ digs g.b.length 2)) g.b R (P.length + 10) g.b.length (by simp [digs_length]) rfl
    simpa [recS] using this
  have n1 := numN_digs (N := g.a) (w := 8) (by rw [pow8]; exact hg)
  have n2 := numN_digs (N := g.b.length) (w := 2) (by rw [pow2]; omega)
  unfold docS
  rw [e1, e2, n1, n2, e3, if_neg (by omega), if_neg (by omega), if_neg h1, if_neg (by simp [h3]), if_neg h4, if_neg (by omega)]
theorem docL_app {f e : Nat} : ∀ (l : List Sg) (P R : List UInt8) (en : Nat), (∀ g ∈ l, g.a < 18446744073709551616) → chkL f e l en = 0 → docL (P ++ (l.flatMap recS ++ R)) f e l.length P.length en = .inr (l, P.length + (l.flatMap recS).length)
  | [], P, R, en, _, _ => rfl
  | g :: l, P, R, en, hl, h => by
    simp only [chkL] at h
    split at h
    · rename_i h0
      have h1 := docS_app (f := f) (e := e) (en := en) P (l.flatMap recS ++ R) (hl g (by simp)) h0
      have h2 := docL_app (f := f) (e := e) l (P ++ recS g) R (g.a + g.b.length) (fun g' hg' => hl g' (by simp [hg'])) h
      have e0 : (P ++ recS g).length = P.length + 10 + g.b.length := by simp [recS, digs_length]; omega
      have e1 : P ++ ((g :: l).flatMap recS ++ R) = P ++ (recS g ++ (l.flatMap recS ++ R)) := by simp
      have e2 : P ++ recS g ++ (l.flatMap recS ++ R) = P ++ (recS g ++ (l.flatMap recS ++ R)) := by simp
      rw [e0, e2] at h2
      rw [e1, List.length_cons]
      unfold docL
      rw [h1]
      dsimp only
      rw [h2]
      dsimp only
      rw [List.flatMap_cons, List.length_append, ← e0, List.length_append]
      congr 2
      omega
    · rename_i h0; exact absurd h h0
theorem endP_mod (n : Int) : ∀ m, n.toNat = m → endP n.toNat = endP m := fun m h => by rw [h]
theorem chkI_zero {x : Nat} {l : List Sg} {n : Int} (h : chkI x l n = 0) : 1 ≤ n ∧ n ≤ 16 ∧ entN 2147483648 (endP n.toNat) x = 0 ∧ l.length ≤ 8 ∧ chkL 2147483648 (endP n.toNat) l 0 = 0 := by
  unfold chkI at h
  split at h; omega
  split at h
  · rename_i h0; exact absurd h h0
  · rename_i h0
    split at h; omega
    exact ⟨by omega, by omega, by simpa using h0, by omega, h⟩
theorem chkI_of {x : Nat} {l : List Sg} {n : Int} (h1 : 1 ≤ n) (h2 : n ≤ 16) (h3 : entN 2147483648 (endP n.toNat) x = 0) (h4 : l.length ≤ 8) (h5 : chkL 2147483648 (endP n.toNat) l 0 = 0) : chkI x l n = 0 := by
  unfold chkI; rw [if_neg (by omega), if_neg (by simp [h3]), if_neg (by omega), h5]
theorem bldS_sum (x : Nat) (l : List Sg) : bldS x l = bodyS x l ++ digs ((sumL (bodyS x l)).toNat : Nat) 4 := by
  unfold bldS
  rw [sumTo_all]
  show bodyS x l ++ digs (sumL (bodyS x l)) 4 = _
  have := (sumL_range (bodyS x l) 1 (by omega)).1
  rw [show ((List.foldl sumStep 1 (bodyS x l))) = sumL (bodyS x l) from rfl] at this
  rw [show (((sumL (bodyS x l)).toNat : Nat) : Int) = sumL (bodyS x l) from Int.toNat_of_nonneg this]
theorem sumL_lt (l : List UInt8) : 0 ≤ sumL l ∧ sumL l < 4294967296 := sumL_range l 1 (by omega)
/-- An image, with anything behind it. -/
theorem docP_app {x : Nat} {l : List Sg} {f e : Nat} (R : List UInt8) (hx : x < 18446744073709551616) (hl : ∀ g ∈ l, g.a < 18446744073709551616) (h3 : entN f e x = 0) (h4 : l.length ≤ 8) (h5 : chkL f e l 0 = 0) :
    docP (bldS x l ++ R) f e = if R = [] then .good x l else .bad (sEnd, ((bldS x l).length : Nat), 5) := by
  have hb : (bodyS x l).length = 13 + (l.flatMap recS).length := by unfold bodyS; rw [List.length_append, headS_length]
  have hbl : (bldS x l).length = (bodyS x l).length + 4 := by unfold bldS; rw [List.length_append, digs_length]
  have hL : (bldS x l ++ R).length = 17 + (l.flatMap recS).length + R.length := by rw [List.length_append]; omega
  have e1 : (bldS x l ++ R).take 4 = magicL := by unfold bldS bodyS headS; simp [magicL]
  have e2 : ((bldS x l ++ R).drop 4).take 8 = digs x 8 := by
    have := mid [65, 76, 77, 49] (digs x 8) (digs l.length 1 ++ (l.flatMap recS ++ (digs (sumTo (txt (bodyS x l)) (txt (bodyS x l)).size) 4 ++ R))) 4 8 rfl (digs_length _ _).symm
    simpa [bldS, bodyS, headS] using this
  have e3 : ((bldS x l ++ R).drop 12).take 1 = digs l.length 1 := by
    have := mid ([65, 76, 77, 49] ++ digs x 8) (digs l.length 1) (l.flatMap recS ++ (digs (sumTo (txt (bodyS x l)) (txt (bodyS x l)).size) 4 ++ R)) 12 1 (by simp [digs_length]) (digs_length _ _).symm
    simpa [bldS, bodyS, headS] using this
  have n1 := numN_digs (N := x) (w := 8) (by rw [pow8]; exact hx)
  have n2 := numN_digs (N := l.length) (w := 1) (by rw [pow1]; omega)
  have d := docL_app (f := f) (e := e) l (headS x l.length) (digs (sumTo (txt (bodyS x l)) (txt (bodyS x l)).size) 4 ++ R) 0 hl h5
  rw [headS_length] at d
  have e4 : headS x l.length ++ (l.flatMap recS ++ (digs (sumTo (txt (bodyS x l)) (txt (bodyS x l)).size) 4 ++ R)) = bldS x l ++ R := by simp [bldS, bodyS]
  rw [e4] at d
  have hs := sumL_lt (bodyS x l)
  have e5 : ((bldS x l ++ R).drop (13 + (l.flatMap recS).length)).take 4 = digs ((sumL (bodyS x l)).toNat : Nat) 4 := by
    rw [bldS_sum, List.append_assoc]
    exact mid _ _ _ _ _ hb.symm (digs_length _ _).symm
  have e6 : (bldS x l ++ R).take (13 + (l.flatMap recS).length) = bodyS x l := by
    rw [bldS_sum, List.append_assoc, ← hb]
    exact List.take_left
  have n3 : numL (digs ((sumL (bodyS x l)).toNat : Nat) 4) = sumL (bodyS x l) := by
    rw [numL_digs, Nat.mod_eq_of_lt (by rw [pow4]; omega)]
    omega
  unfold docP
  rw [if_neg (by omega), e1, if_neg (by simp), if_neg (by omega), e2, n1, h3, if_neg (by simp), if_neg (by omega), e3, n2, if_neg (by omega), d]
  dsimp only
  rw [if_neg (by omega), e5, e6, n3, if_neg (by simp)]
  cases R with
  | nil => rw [if_neg (by simp at hL ⊢; omega), if_pos rfl]
  | cons b R =>
    rw [if_pos (by simp at hL ⊢; omega), if_neg (by simp)]
    congr 3
    omega
theorem docS_inv {S : List UInt8} {f e a en : Nat} {g : Sg} (h : docS S f e a en = .inr g) : a + 10 + g.b.length ≤ S.length ∧ (S.drop a).take (10 + g.b.length) = recS g ∧ segN f e g.a g.b.length en = 0 ∧ g.a < 18446744073709551616 := by
  unfold docS at h
  split at h; cases h
  split at h; cases h
  split at h; cases h
  rename_i c1 c2 c3
  split at h; cases h
  split at h; cases h
  split at h; cases h
  rename_i c4 c5 c6
  have hle := numN_lt2 ((S.drop (a + 8)).take 2) (List.length_take_le _ _)
  obtain ⟨n, hn⟩ : ∃ n, n = numN ((S.drop (a + 8)).take 2) := ⟨_, rfl⟩
  rw [← hn] at h c3 c4 c6 hle
  cases h
  have hlen : ((S.drop (a + 10)).take n).length = n := by rw [List.length_take, List.length_drop]; omega
  have hx : numN ((S.drop a).take 8) < 18446744073709551616 := by
    have h1 := numL_range8 ((S.drop a).take 8) (List.length_take_le _ _)
    have := numL_nat ((S.drop a).take 8)
    omega
  dsimp only
  refine ⟨by rw [hlen]; omega, ?_, by rw [hlen]; exact segN_of c3 hle (by simpa using c4) c5, hx⟩
  unfold recS
  dsimp only
  rw [hlen, digs_numN _ 8 (by rw [List.length_take, List.length_drop]; omega), hn, digs_numN _ 2 (by rw [List.length_take, List.length_drop]; omega), ← hn]
  rw [List.take_add, List.drop_drop, show (10 : Nat) = 8 + 2 from rfl, List.take_add, List.drop_drop]
theorem docL_inv {S : List UInt8} {f e : Nat} : ∀ {k a en : Nat} {l : List Sg} {a' : Nat}, a ≤ S.length → docL S f e k a en = .inr (l, a') → l.length = k ∧ a ≤ a' ∧ a' ≤ S.length ∧ S.take a' = S.take a ++ l.flatMap recS ∧ chkL f e l en = 0 ∧ ∀ g ∈ l, g.a < 18446744073709551616
  | 0, a, en, l, a', ha, h => by
    cases h
    exact ⟨rfl, Nat.le_refl _, ha, by simp, rfl, by simp⟩
  | k + 1, a, en, l, a', ha, h => by
    unfold docL at h
    cases hd : docS S f e a en with
    | inl z => rw [hd] at h; cases h
    | inr g =>
      rw [hd] at h
      dsimp only at h
      obtain ⟨i1, i2, i3, i4⟩ := docS_inv hd
      cases hr : docL S f e k (a + 10 + g.b.length) (g.a + g.b.length) with
      | inl z => rw [hr] at h; cases h
      | inr p =>
        obtain ⟨m, b⟩ := p
        rw [hr] at h
        cases h
        obtain ⟨j1, j2, j3, j4, j5, j6⟩ := docL_inv i1 hr
        refine ⟨by rw [List.length_cons, j1], by omega, j3, ?_, ?_, ?_⟩
        · rw [j4, List.flatMap_cons, ← List.append_assoc, ← i2, Nat.add_assoc, List.take_add]
        · simp only [chkL]; rw [if_pos i3]; exact j5
        · intro g' hg'
          rcases List.mem_cons.1 hg' with rfl | hg'
          · exact i4
          · exact j6 g' hg'
theorem docP_inv {S : List UInt8} {f e x : Nat} {l : List Sg} (h : docP S f e = .good x l) : S = bldS x l ∧ x < 18446744073709551616 ∧ entN f e x = 0 ∧ l.length ≤ 8 ∧ chkL f e l 0 = 0 ∧ ∀ g ∈ l, g.a < 18446744073709551616 := by
  unfold docP at h
  split at h; cases h
  split at h; cases h
  split at h; cases h
  rename_i c1 c2 c3
  split at h; cases h
  split at h; cases h
  split at h; cases h
  rename_i c4 c5 c6
  split at h; cases h
  rename_i m a hd
  split at h; cases h
  split at h; cases h
  split at h; cases h
  rename_i c7 c8 c9
  cases h
  obtain ⟨j1, j2, j3, j4, j5, j6⟩ := docL_inv (by omega) hd
  have hx : numN ((S.drop 4).take 8) < 18446744073709551616 := by
    have h1 := numL_range8 ((S.drop 4).take 8) (List.length_take_le _ _)
    have := numL_nat ((S.drop 4).take 8)
    omega
  have hh : S.take 13 = headS (numN ((S.drop 4).take 8)) l.length := by
    unfold headS
    rw [j1, digs_numN _ 8 (by rw [List.length_take, List.length_drop]; omega), digs_numN _ 1 (by rw [List.length_take, List.length_drop]; omega)]
    rw [show (13 : Nat) = 4 + (8 + 1) from rfl, List.take_add, List.take_add, List.drop_drop]
    rw [show S.take 4 = [65, 76, 77, 49] by simpa [magicL] using c2]
  rw [hh] at j4
  have hb : S.take a = bodyS (numN ((S.drop 4).take 8)) l := j4
  refine ⟨?_, hx, by simpa using c4, by omega, j5, j6⟩
  have hl : S.length = a + 4 := by omega
  have e1 : S = S.take a ++ (S.drop a).take 4 := by rw [← List.take_add, ← hl, List.take_length]
  have hs := sumL_lt (bodyS (numN ((S.drop 4).take 8)) l)
  rw [bldS_sum, ← hb]
  have c8' : numL ((S.drop a).take 4) = sumL (S.take a) := by simpa using c8
  have e2 : numN ((S.drop a).take 4) = (sumL (S.take a)).toNat := by unfold numN; rw [c8']
  rw [← e2, digs_numN _ 4 (by rw [List.length_take, List.length_drop]; omega)]
  exact e1
end Go.Proofs.YtcbagjhbmdmjfaaDoor
namespace Go.Proofs.YtcbagjhbmdmjfaaDoor
set_option maxRecDepth 100000
open Go Go.Mini Go.Proofs.Tryd

theorem fld {S : List UInt8} {k a w : Nat} (h : a + w ≤ k) : ((S.take k).drop a).take w = (S.drop a).take w := by
  rw [List.drop_take, List.take_take, Nat.min_eq_left (by omega)]
theorem docS_cut {S : List UInt8} {f e a en k : Nat} {g : Sg} (h : docS S f e a en = .inr g) (hk : k ≤ S.length) :
    (a + 10 + g.b.length ≤ k → docS (S.take k) f e a en = .inr g) ∧ (k < a + 10 + g.b.length → ∃ F p, docS (S.take k) f e a en = .inl (F, p, 4)) := by
  have hi := docS_inv h
  have hT : (S.take k).length = k := by rw [List.length_take]; omega
  unfold docS at h
  split at h; cases h
  split at h; cases h
  split at h; cases h
  rename_i c1 c2 c3
  split at h; cases h
  split at h; cases h
  split at h; cases h
  rename_i c4 c5 c6
  have hlen : ((S.drop (a + 10)).take (numN ((S.drop (a + 8)).take 2))).length = numN ((S.drop (a + 8)).take 2) := by rw [List.length_take, List.length_drop]; omega
  cases h
  dsimp only
  rw [hlen]
  unfold docS
  rw [hT]
  constructor
  · intro hle
    rw [if_neg (by omega), if_neg (by omega), fld (by omega), fld (by omega), if_neg c3, if_neg c4, if_neg c5, if_neg (by omega), fld (by omega)]
  · intro hlt
    by_cases d1 : k < a + 8
    · rw [if_pos d1]; exact ⟨_, _, rfl⟩
    rw [if_neg d1]
    by_cases d2 : k < a + 10
    · rw [if_pos d2]; exact ⟨_, _, rfl⟩
    rw [if_neg d2, fld (by omega), fld (by omega), if_neg c3, if_neg c4, if_neg c5, if_pos hlt]
    exact ⟨_, _, rfl⟩
theorem docL_cut {S : List UInt8} {f e k : Nat} (hk : k ≤ S.length) : ∀ {n a en : Nat} {l : List Sg} {a' : Nat}, a ≤ k → docL S f e n a en = .inr (l, a') →
    (a' ≤ k → docL (S.take k) f e n a en = .inr (l, a')) ∧ (k < a' → ∃ F p, docL (S.take k) f e n a en = .inl (F, p, 4))
  | 0, a, en, l, a', ha, h => by
    cases h
    exact ⟨fun _ => rfl, fun h => by omega⟩
  | n + 1, a, en, l, a', ha, h => by
    unfold docL at h ⊢
    cases hd : docS S f e a en with
    | inl z => rw [hd] at h; cases h
    | inr g =>
      rw [hd] at h
      dsimp only at h
      have c := docS_cut hd hk
      obtain ⟨i1, i2, i3, i4⟩ := docS_inv hd
      cases hr : docL S f e n (a + 10 + g.b.length) (g.a + g.b.length) with
      | inl z => rw [hr] at h; cases h
      | inr p =>
        obtain ⟨m, b⟩ := p
        rw [hr] at h
        cases h
        have j2 := (docL_inv i1 hr).2.1
        by_cases d : a + 10 + g.b.length ≤ k
        · have ih := docL_cut hk d hr
          rw [c.1 d]
          dsimp only
          exact ⟨fun h => by rw [ih.1 h], fun h => by obtain ⟨F, p, hp⟩ := ih.2 h; rw [hp]; exact ⟨F, p, rfl⟩⟩
        · obtain ⟨F, p, hp⟩ := c.2 (by omega)
          rw [hp]
          exact ⟨fun h => by omega, fun _ => ⟨F, p, rfl⟩⟩
theorem docP_cut {S : List UInt8} {f e x k : Nat} {l : List Sg} (h : docP S f e = .good x l) (hk : k < S.length) : ∃ F p, docP (S.take k) f e = .bad (F, p, 4) := by
  have hT : (S.take k).length = k := by rw [List.length_take]; omega
  unfold docP at h
  split at h; cases h
  split at h; cases h
  split at h; cases h
  rename_i c1 c2 c3
  split at h; cases h
  split at h; cases h
  split at h; cases h
  rename_i c4 c5 c6
  split at h; cases h
  rename_i m a hd
  split at h; cases h
  split at h; cases h
  split at h; cases h
  rename_i c7 c8 c9
  unfold docP
  rw [hT]
  by_cases d1 : k < 4
  · rw [if_pos d1]; exact ⟨_, _, rfl⟩
  have e1 : (S.take k).take 4 = S.take 4 := by rw [List.take_take, Nat.min_eq_left (by omega)]
  rw [if_neg d1, e1, if_neg c2]
  by_cases d2 : k < 12
  · rw [if_pos d2]; exact ⟨_, _, rfl⟩
  rw [if_neg d2, fld (by omega), if_neg c4]
  by_cases d3 : k < 13
  · rw [if_pos d3]; exact ⟨_, _, rfl⟩
  rw [if_neg d3, fld (by omega), if_neg c6]
  have c := docL_cut (k := k) (by omega) (by omega) hd
  by_cases d4 : a ≤ k
  · rw [c.1 d4]
    dsimp only
    rw [if_pos (by omega)]
    exact ⟨_, _, rfl⟩
  · obtain ⟨F, p, hp⟩ := c.2 (by omega)
    rw [hp]
    exact ⟨_, _, rfl⟩
/-- One byte changed. -/
theorem spoilt {x x' : Nat} {l l' : List Sg} {A B : List UInt8} {c c' : UInt8} (h : bldS x l = A ++ c :: B) (h' : bldS x' l' = A ++ c' :: B) : c = c' := by
  have n1 := congrArg List.length h
  have n2 := congrArg List.length h'
  rw [bldS_sum] at h h'
  simp only [bldS, List.length_append, digs_length, List.length_cons] at n1 n2
  by_cases d : A.length < (bodyS x l).length
  · have e : A ++ c :: B = (A ++ [c] ++ B.take (B.length - 4)) ++ B.drop (B.length - 4) := by simp
    have e' : A ++ c' :: B = (A ++ [c'] ++ B.take (B.length - 4)) ++ B.drop (B.length - 4) := by simp
    rw [e] at h
    rw [e'] at h'
    have l1 : (B.take (B.length - 4)).length = B.length - 4 := by rw [List.length_take]; omega
    obtain ⟨p1, p2⟩ := List.append_inj h (by simp only [List.length_append, List.length_cons, List.length_nil, l1]; omega)
    obtain ⟨q1, q2⟩ := List.append_inj h' (by simp only [List.length_append, List.length_cons, List.length_nil, l1]; omega)
    have hs := sumL_lt (bodyS x l)
    have hs' := sumL_lt (bodyS x' l')
    have e4 := congrArg numL (p2.trans q2.symm)
    rw [numL_digs, numL_digs, Nat.mod_eq_of_lt (by rw [pow4]; omega), Nat.mod_eq_of_lt (by rw [pow4]; omega)] at e4
    have e5 : sumL (bodyS x l) = sumL (bodyS x' l') := by omega
    rw [p1, q1] at e5
    refine Classical.byContradiction fun hc => sum_apart A (B.take (B.length - 4)) c c' hc e5
  · have e : A = bodyS x l ++ A.drop (bodyS x l).length := by
      have := congrArg (List.take (bodyS x l).length) h
      rw [List.take_left, List.take_append_of_le_length (by omega)] at this
      exact (List.take_append_drop _ A).symm.trans (congrArg (· ++ A.drop _) this.symm)
    have e' : A = bodyS x' l' ++ A.drop (bodyS x' l').length := by
      have := congrArg (List.take (bodyS x' l').length) h'
      rw [List.take_left, List.take_append_of_le_length (by omega)] at this
      exact (List.take_append_drop _ A).symm.trans (congrArg (· ++ A.drop _) this.symm)
    have eb := List.append_inj_left (e.symm.trans e') (by omega)
    rw [← eb] at h'
    have := h.symm.trans h'
    have := List.append_cancel_left this
    exact (List.cons.inj this).1
/-- What a fault tells. -/
def FltOk (S : List UInt8) (z : Flt) : Prop := z.1 ≠ txt [] ∧ 0 ≤ z.2.1 ∧ z.2.1 ≤ S.length ∧ z.2.2 ≠ 0
theorem txt_ne {l : List UInt8} (h : l ≠ []) : txt l ≠ txt [] := fun e => h (by have := congrArg (fun b : ByteArray => b.data.toList) e; simpa [txt_data] using this)
theorem docS_bad {S : List UInt8} {f e a en : Nat} {z : Flt} (ha : a ≤ S.length) (h : docS S f e a en = .inl z) : FltOk S z := by
  have hA : sAddr ≠ txt [] := txt_ne (by decide)
  have hL : sLength ≠ txt [] := txt_ne (by decide)
  have hB : sBytes ≠ txt [] := txt_ne (by decide)
  unfold docS at h
  split at h
  · cases h; exact ⟨hA, by dsimp only; omega, by dsimp only; omega, by dsimp only; decide⟩
  split at h
  · cases h; exact ⟨hL, by dsimp only; omega, by dsimp only; omega, by dsimp only; decide⟩
  split at h
  · cases h; exact ⟨hL, by dsimp only; omega, by dsimp only; omega, by dsimp only; decide⟩
  split at h
  · cases h; exact ⟨hA, by dsimp only; omega, by dsimp only; omega, by dsimp only; decide⟩
  split at h
  · cases h; exact ⟨hA, by dsimp only; omega, by dsimp only; omega, by dsimp only; decide⟩
  split at h
  · cases h; exact ⟨hB, by dsimp only; omega, by dsimp only; omega, by dsimp only; decide⟩
  cases h
theorem docL_bad {S : List UInt8} {f e : Nat} {z : Flt} : ∀ {n a en : Nat}, a ≤ S.length → docL S f e n a en = .inl z → FltOk S z
  | 0, a, en, _, h => by cases h
  | n + 1, a, en, ha, h => by
    unfold docL at h
    cases hd : docS S f e a en with
    | inl y =>
      rw [hd] at h
      cases h
      exact docS_bad ha hd
    | inr g =>
      rw [hd] at h
      dsimp only at h
      cases hr : docL S f e n (a + 10 + g.b.length) (g.a + g.b.length) with
      | inl y =>
        rw [hr] at h
        cases h
        exact docL_bad (docS_inv hd).1 hr
      | inr p => rw [hr] at h; cases h
theorem docP_bad {S : List UInt8} {f e : Nat} {z : Flt} (h : docP S f e = .bad z) : FltOk S z := by
  have h1 : sMagic ≠ txt [] := txt_ne (by decide)
  have h2 : sEntry ≠ txt [] := txt_ne (by decide)
  have h3 : sCount ≠ txt [] := txt_ne (by decide)
  have h4 : sSum ≠ txt [] := txt_ne (by decide)
  have h5 : sEnd ≠ txt [] := txt_ne (by decide)
  unfold docP at h
  split at h
  · cases h; exact ⟨h1, by dsimp only; omega, by dsimp only; omega, by dsimp only; decide⟩
  split at h
  · cases h; exact ⟨h1, by dsimp only; omega, by dsimp only; omega, by dsimp only; decide⟩
  split at h
  · cases h; exact ⟨h2, by dsimp only; omega, by dsimp only; omega, by dsimp only; decide⟩
  split at h
  · rename_i c; cases h; exact ⟨h2, by dsimp only; omega, by dsimp only; omega, by dsimp only; exact c⟩
  split at h
  · cases h; exact ⟨h3, by dsimp only; omega, by dsimp only; omega, by dsimp only; decide⟩
  split at h
  · cases h; exact ⟨h3, by dsimp only; omega, by dsimp only; omega, by dsimp only; decide⟩
  split at h
  · rename_i hd; cases h; exact docL_bad (by omega) hd
  rename_i m a hd
  have ha := (docL_inv (by omega) hd).2.2.1
  split at h
  · cases h; exact ⟨h4, by dsimp only; omega, by dsimp only; omega, by dsimp only; decide⟩
  split at h
  · cases h; exact ⟨h4, by dsimp only; omega, by dsimp only; omega, by dsimp only; decide⟩
  split at h
  · cases h; exact ⟨h5, by dsimp only; omega, by dsimp only; omega, by dsimp only; decide⟩
  cases h
end Go.Proofs.YtcbagjhbmdmjfaaDoor
