/-
  The image's space: of, has, entry, segment. Whether an image may be: Check. An image as bytes: Build. An image as bytes: Build.
-/
import Derived.Test.YtcbagjhbmdmjfaaDoorCA
set_option linter.unusedSimpArgs false
set_option linter.unusedVariables false
set_option linter.unusedSectionVars false

namespace Go.Proofs.YtcbagjhbmdmjfaaDoor
set_option maxRecDepth 100000
open Go Go.Mini Go.Proofs.Tryd

/-- A space, as a value. -/
def spV (f e : Nat) : Value := .agg #[.int .u64 f, .int .u64 e]
def endP (n : Nat) : Nat := 2147483648 + n * 4096
theorem of_none {n : Int} {h : Hp} {K : Value → Hp → Prop} (hn : n < 1 ∨ 16 < n) (hK : K (.tuple #[spV 0 0, .bool false]) h) : ACall prog 38 [.int .i64 n] h K := by
  refine acallF_of tb0 func38 rfl rfl mixed (by kernel_rfl) fun hwf => ?_
  unfold spV at hK
  by_cases c : n < 1
  · simp -dsimp (disch := omega) [c]
    exact RetF.same hwf (by simp) (by simp [vtop, vtopL]) (fun i hi => by simp [Hp.blks_alloc, Nat.ne_of_lt hi]) hK
  · have c2 : 16 < n := by omega
    simp -dsimp (disch := omega) [c, c2]
    exact RetF.same hwf (by simp) (by simp [vtop, vtopL]) (fun i hi => by simp [Hp.blks_alloc, Nat.ne_of_lt hi]) hK
theorem of_some {n : Nat} {h : Hp} {K : Value → Hp → Prop} (h1 : 1 ≤ n) (h2 : n ≤ 16) (hK : K (.tuple #[spV 2147483648 (endP n), .bool true]) h) : ACall prog 38 [.int .i64 n] h K := by
  refine acallF_of tb0 func38 rfl rfl mixed (by kernel_rfl) fun hwf => ?_
  have c1 : ¬ (n : Int) < 1 := by omega
  have c2 : ¬ 16 < (n : Int) := by omega
  obtain ⟨N, hN⟩ : ∃ N : Nat, N = n * 4096 := ⟨_, rfl⟩
  have hN' : (n : Int) * 4096 = N := by omega
  unfold spV endP at hK
  rw [← hN] at hK
  have e : (2147483648 : Int) + N = ((2147483648 + N : Nat) : Int) := by omega
  simp -dsimp (disch := omega) [c1, c2, hN']
  rw [e]
  exact RetF.same hwf (by simp) (by simp [vtop, vtopL]) (fun i hi => by simp [Hp.blks_alloc, Nat.ne_of_lt hi]) hK
def hasN (f e at_ n : Nat) : Bool := decide (f ≤ at_) && (decide (at_ ≤ e) && decide (n ≤ e - at_))
theorem has_call {f e a n : Nat} {h : Hp} {K : Value → Hp → Prop} (he : e < 18446744073709551616) (ha : a < 18446744073709551616) (hK : K (.bool (hasN f e a n)) h) : ACall prog 53 [spV f e, .int .u64 a, .int .u64 n] h K := by
  refine acallF_of tb0 func53 rfl rfl mixed (by kernel_rfl) fun hwf => ?_
  unfold spV
  by_cases c1 : f ≤ a
  · have c1' : (f : Int) ≤ a := by omega
    by_cases c2 : a ≤ e
    · have c2' : (a : Int) ≤ e := by omega
      have c3 : (e : Int) - a = ((e - a : Nat) : Int) := by omega
      have c4 : decide ((n : Int) ≤ ((e - a : Nat) : Int)) = hasN f e a n := by
        show _ = (decide (f ≤ a) && (decide (a ≤ e) && decide (n ≤ e - a)))
        rw [decide_eq_true c1, decide_eq_true c2, Bool.true_and, Bool.true_and]
        exact decide_eq_decide.2 Int.ofNat_le
      rw [← c4] at hK
      simp -dsimp (disch := omega) [c1', c2', c3]
      exact RetF.same hwf (by simp) (Nat.zero_le _) (fun i hi => by simp [Hp.blks_alloc, Nat.ne_of_lt hi]) hK
    · have c2' : ¬ (a : Int) ≤ e := by omega
      have c4 : hasN f e a n = false := by unfold hasN; simp [c1, c2]
      rw [c4] at hK
      simp -dsimp (disch := omega) [c1', c2']
      exact RetF.same hwf (by simp) (Nat.zero_le _) (fun i hi => by simp [Hp.blks_alloc, Nat.ne_of_lt hi]) hK
  · have c1' : ¬ (f : Int) ≤ a := by omega
    have c4 : hasN f e a n = false := by unfold hasN; simp [c1]
    rw [c4] at hK
    simp -dsimp (disch := omega) [c1']
    exact RetF.same hwf (by simp) (Nat.zero_le _) (fun i hi => by simp [Hp.blks_alloc, Nat.ne_of_lt hi]) hK
/-- Why an image may not begin there. -/
def entN (f e a : Nat) : Int := if a % 2 ≠ 0 then 8 else if hasN f e a 1 = false then 6 else 0
theorem entry_call {f e a : Nat} {h : Hp} {K : Value → Hp → Prop} (he : e < 18446744073709551616) (ha : a < 18446744073709551616) (hK : K (.int .i64 (entN f e a)) h) : ACall prog 39 [spV f e, .int .u64 a] h K := by
  refine acallF_of tb0 func39 rfl rfl mixed (by kernel_rfl) fun hwf => ?_
  have hm : ((a : Int) % 2) = ((a % 2 : Nat) : Int) := by omega
  obtain ⟨r, hr⟩ : ∃ r, r = a % 2 := ⟨_, rfl⟩
  unfold entN at hK
  rw [← hr] at hm hK
  by_cases c : r = 0
  · subst c
    rw [if_neg (by simp)] at hK
    simp -dsimp (disch := omega) [hm, spV]
    refine has_call he ha ?_
    cases hb : hasN f e a 1 with
    | true =>
      rw [hb, if_neg (by simp)] at hK
      simp -dsimp (disch := omega)
      exact RetF.same hwf (by simp) (Nat.zero_le _) (fun i hi => by simp [Hp.blks_alloc, Nat.ne_of_lt hi]) hK
    | false =>
      rw [hb, if_pos rfl] at hK
      simp -dsimp (disch := omega)
      exact RetF.same hwf (by simp) (Nat.zero_le _) (fun i hi => by simp [Hp.blks_alloc, Nat.ne_of_lt hi]) hK
  · rw [if_pos c] at hK
    have c' : ¬ (r : Int) = 0 := by omega
    simp -dsimp (disch := omega) [hm, spV, c, c']
    exact RetF.same hwf (by simp) (Nat.zero_le _) (fun i hi => by simp [Hp.blks_alloc, Nat.ne_of_lt hi]) hK
/-- Why bytes may not stand there. -/
def segN (f e a n end_ : Nat) : Int := if n = 0 then 3 else if 65535 < n then 5 else if hasN f e a n = false then 6 else if a < end_ then 12 else 0
theorem segmentP_call {f e a n en : Nat} {h : Hp} {K : Value → Hp → Prop} (he : e < 18446744073709551616) (ha : a < 18446744073709551616) (hK : K (.int .i64 (segN f e a n en)) h) : ACall prog 40 [spV f e, .int .u64 a, .int .u64 n, .int .u64 en] h K := by
  refine acallF_of tb0 func40 rfl rfl mixed (by kernel_rfl) fun hwf => ?_
  unfold segN at hK
  by_cases c1 : n = 0
  · subst c1
    rw [if_pos rfl] at hK
    simp -dsimp (disch := omega) [spV]
    exact RetF.same hwf (by simp) (Nat.zero_le _) (fun i hi => by simp [Hp.blks_alloc, Nat.ne_of_lt hi]) hK
  rw [if_neg c1] at hK
  have c1' : ¬ (n : Int) = 0 := by omega
  by_cases c2 : 65535 < n
  · rw [if_pos c2] at hK
    have c2' : 65535 < (n : Int) := by omega
    simp -dsimp (disch := omega) [spV, c1, c1', c2']
    exact RetF.same hwf (by simp) (Nat.zero_le _) (fun i hi => by simp [Hp.blks_alloc, Nat.ne_of_lt hi]) hK
  rw [if_neg c2] at hK
  have c2' : ¬ 65535 < (n : Int) := by omega
  simp -dsimp (disch := omega) [spV, c1, c1', c2']
  refine has_call he ha ?_
  cases hb : hasN f e a n with
  | false =>
    rw [hb, if_pos rfl] at hK
    simp -dsimp (disch := omega)
    exact RetF.same hwf (by simp) (Nat.zero_le _) (fun i hi => by simp [Hp.blks_alloc, Nat.ne_of_lt hi]) hK
  | true =>
    rw [hb, if_neg (by simp)] at hK
    by_cases c3 : a < en
    · rw [if_pos c3] at hK
      have c3' : (a : Int) < en := by omega
      simp -dsimp (disch := omega) [c3']
      exact RetF.same hwf (by simp) (Nat.zero_le _) (fun i hi => by simp [Hp.blks_alloc, Nat.ne_of_lt hi]) hK
    · rw [if_neg c3] at hK
      have c3' : ¬ (a : Int) < en := by omega
      simp -dsimp (disch := omega) [c3']
      exact RetF.same hwf (by simp) (Nat.zero_le _) (fun i hi => by simp [Hp.blks_alloc, Nat.ne_of_lt hi]) hK
end Go.Proofs.YtcbagjhbmdmjfaaDoor
namespace Go.Proofs.YtcbagjhbmdmjfaaDoor
set_option maxRecDepth 100000
open Go Go.Mini Go.Proofs.Tryd

theorem drop_at {α : Type} {l : List α} {k : Nat} {g : α} (h : l[k]? = some g) : l.drop k = g :: l.drop (k + 1) := by
  obtain ⟨hk, rfl⟩ := List.getElem?_eq_some_iff.1 h
  exact List.drop_eq_getElem_cons hk
structure Sg where
  a : Nat
  b : List UInt8
def Sg.ok (g : Sg) : Prop := g.a < 18446744073709551616 ∧ g.b.length < 9223372036854775808
def sgC (l : List Sg) : List Value := l.flatMap fun g => [.int .u64 g.a, .string (txt g.b)]
theorem sgC_length (l : List Sg) : (sgC l).length = 2 * l.length := by
  induction l with
  | nil => rfl
  | cons g l ih => simp [sgC] at ih ⊢; omega
theorem sgC_at (l : List Sg) : ∀ (k : Nat) (g : Sg), l[k]? = some g → (sgC l)[2 * k]? = some (.int .u64 g.a) ∧ (sgC l)[2 * k + 1]? = some (.string (txt g.b)) := by
  induction l with
  | nil => intro k g h; simp at h
  | cons f l ih =>
    intro k g h
    cases k with
    | zero => simp at h; subst h; simp [sgC]
    | succ k =>
      simp only [List.getElem?_cons_succ] at h
      have := ih k g h
      have e : sgC (f :: l) = .int .u64 f.a :: .string (txt f.b) :: sgC l := rfl
      rw [e, show 2 * (k + 1) = 2 * k + 1 + 1 by omega]
      exact this
/-- Segments one behind the other, behind an end. -/
def chkL (f e : Nat) : List Sg → Nat → Int
  | [], _ => 0
  | g :: l, en => if segN f e g.a g.b.length en = 0 then chkL f e l (g.a + g.b.length) else segN f e g.a g.b.length en
def chkI (x : Nat) (l : List Sg) (n : Int) : Int := if n < 1 ∨ 16 < n then 2 else if entN 2147483648 (endP n.toNat) x ≠ 0 then entN 2147483648 (endP n.toNat) x else if 8 < l.length then 5 else chkL 2147483648 (endP n.toNat) l 0
theorem seg_lt {f e a n en : Nat} (h : segN f e a n en = 0) : a + n ≤ e := by
  unfold segN hasN at h
  split at h; omega
  split at h; omega
  split at h; omega
  rename_i h1
  simp at h1
  omega
/-- An image, as a value. -/
def imV (x : Nat) (v : Value) : Value := .agg #[.int .u64 x, v]
theorem check_call {x : Nat} {l : List Sg} {v : Value} {n : Int} {h : Hp} {K : Value → Hp → Prop} (hx : x < 18446744073709551616) (hv : Sl h 2 l.length (sgC l) v) (hl : ∀ g ∈ l, g.ok) (hL : l.length < 9223372036854775808)
    (hK : K (.int .i64 (chkI x l n)) h) : ACall prog 14 [imV x v, .int .i64 n] h K := by
  refine acallF_of tb0 func14 rfl rfl mixed (by kernel_rfl) fun hwf => ?_
  have hvb := sblk_lt (n := h.next) (v := v) (by have := hwf.args (imV x v) (by simp); simp [imV, vtop, vtopL] at this; omega)
  obtain ⟨va, vc, rfl⟩ := hv.slice
  unfold chkI at hK
  by_cases c : n < 1 ∨ 16 < n
  · rw [if_pos c] at hK
    simp -dsimp (disch := omega) [imV]
    refine of_none c ?_
    simp -dsimp (disch := omega) [spV]
    exact RetF.same hwf (by simp) (Nat.zero_le _) (fun i hi => by simp [Hp.blks_alloc, Nat.ne_of_lt hi, Nat.ne_of_lt (Nat.lt_succ_of_lt hi)]) hK
  · rw [if_neg c] at hK
    obtain ⟨m, rfl⟩ := Int.eq_ofNat_of_zero_le (show 0 ≤ n by omega)
    have hm : 1 ≤ m ∧ m ≤ 16 := by omega
    have hE : endP m < 18446744073709551616 := by unfold endP; omega
    rw [Int.toNat_natCast] at hK
    simp -dsimp (disch := omega) [imV]
    refine of_some hm.1 hm.2 ?_
    obtain ⟨e, he⟩ : ∃ e, e = endP m := ⟨_, rfl⟩
    rw [← he] at hK hE ⊢
    simp -dsimp (disch := omega) [spV]
    refine entry_call hE hx ?_
    obtain ⟨r, hr⟩ : ∃ r, r = entN 2147483648 e x := ⟨_, rfl⟩
    rw [← hr] at hK ⊢
    by_cases c1 : r = 0
    · rw [if_neg (by simp [c1])] at hK
      simp -dsimp (disch := omega) [c1]
      by_cases c2 : 8 < l.length
      · rw [if_pos c2] at hK
        have c2' : 8 < (l.length : Int) := by omega
        simp -dsimp (disch := omega) [c2']
        exact RetF.same hwf (by simp) (Nat.zero_le _) (fun i hi => by simp [Hp.blks_alloc, Nat.ne_of_lt hi, Nat.ne_of_lt (Nat.lt_succ_of_lt hi)]) hK
      · rw [if_neg c2] at hK
        have c2' : ¬ 8 < (l.length : Int) := by omega
        simp -dsimp (disch := omega) [c2']
        refine awp_loop (fun t h' => h.next + 1 < h'.next ∧ (∀ i, i < h.next → h'.blks i = h.blks i) ∧ h'.blks (h.next + 1) = some ⟨#[.int .u64 (2147483648 : Nat), .int .u64 e], 1, true⟩ ∧ ∃ k en : Nat, t 32 = .slice va l.length vc ∧ t 33 = .int .i64 l.length ∧ t 34 = .int .i64 k ∧ k ≤ l.length ∧ t 8 = .int .u64 en ∧ t 5 = .pointer (some ⟨h.next + 1, 0, none⟩) ∧ chkL 2147483648 e l 0 = chkL 2147483648 e (l.drop k) en) (fun t _ => l.length - ivN (t 34)) ?_ ?_
        · simp -dsimp
          exact ⟨fun i hi => by simp [Hp.blks_alloc, Nat.ne_of_lt hi, Nat.ne_of_lt (Nat.lt_succ_of_lt hi)], 0, rfl, Nat.zero_le _, 0, rfl, rfl⟩
        · rintro t h' ⟨hn, hs, hsp, k, en, h32, h33, h34, hk, h8, h5, hck⟩
          refine vcF_sound mixed (tb := tb0) _ (by kernel_rfl) ?_
          simp -dsimp (disch := omega) [h32, h33, h34]
          refine CondF_dec (fun hc => ?_) (fun hc => ?_)
          · have hkl : k < l.length := by omega
            obtain ⟨g, hg⟩ : ∃ g, l[k]? = some g := ⟨l[k], by simp [hkl]⟩
            obtain ⟨g1, g2⟩ := hl g (List.mem_of_getElem? hg)
            have hdrop : l.drop k = g :: l.drop (k + 1) := drop_at hg
            rw [hdrop] at hck
            obtain ⟨_, ⟨_, c, e, h0⟩ | ⟨a, c, b, e0, hb, hbs, hbc⟩⟩ := hv
            · omega
            cases e0
            have hab := hvb _ rfl
            obtain ⟨d1, d2⟩ := sgC_at l k g hg
            have hx' : b.cells.extract (a.off + k * 2) (a.off + k * 2 + 2) = #[.int .u64 g.a, .string (txt g.b)] := by
              have e1 := hbc (k * 2) (by omega)
              have e2 := hbc (k * 2 + 1) (by omega)
              rw [Nat.mul_comm k 2] at e1 e2
              rw [Nat.mul_comm k 2]
              exact extract2 (e1.trans d1) (e2.trans d2)
            have hb' : h'.blks a.block = some b := by rw [hs _ hab]; exact hb
            have hsz : a.off + k * 2 + 2 ≤ b.cells.size := by omega
            have hlen : (txt g.b).size = g.b.length := rfl
            simp -dsimp (disch := omega) [h32, h33, h34, h5, h8, hb', hx', hsz, hsp, hlen]
            refine segmentP_call (f := 2147483648) (e := e) (en := en) hE g1 ?_
            obtain ⟨r2, hr2⟩ : ∃ r2, r2 = segN 2147483648 e g.a g.b.length en := ⟨_, rfl⟩
            rw [← hr2]
            simp only [chkL, ← hr2] at hck
            simp -dsimp (disch := omega) [h32, h33, h34, h5, h8]
            by_cases d : r2 = 0
            · rw [if_pos d] at hck
              have hle := seg_lt (hr2.symm.trans d)
              have e1 : ((g.a : Int) + g.b.length) = ((g.a + g.b.length : Nat) : Int) := by omega
              simp -dsimp (disch := omega) [h32, h33, h34, h5, h8, d]
              exact ⟨⟨by omega, fun i hi => by rw [if_neg (by omega)]; exact hs i hi, hsp, k + 1, by simp, by omega, g.a + g.b.length, e1, hck⟩, by simp [ivN]; omega⟩
            · rw [if_neg d] at hck
              rw [hck] at hK
              simp -dsimp (disch := omega) [d]
              exact RetF.same hwf (by simp) (Nat.zero_le _) (fun i hi => by rw [blks_alloc_ne _ _ _ (by omega)]; exact hs i hi) hK
          · have : k = l.length := by omega
            subst this
            simp -dsimp (disch := omega) [h32, h33, h34]
            rw [hck, List.drop_length, show chkL 2147483648 e [] en = 0 from rfl] at hK
            exact RetF.same hwf (by simp) (Nat.zero_le _) hs hK
    · rw [if_pos c1] at hK
      simp -dsimp (disch := omega) [c1]
      exact RetF.same hwf (by simp) (Nat.zero_le _) (fun i hi => by simp [Hp.blks_alloc, Nat.ne_of_lt hi, Nat.ne_of_lt (Nat.lt_succ_of_lt hi)]) hK
end Go.Proofs.YtcbagjhbmdmjfaaDoor
namespace Go.Proofs.YtcbagjhbmdmjfaaDoor
set_option maxRecDepth 100000
open Go Go.Mini Go.Proofs.Tryd

theorem wide8 : (wideF 8).toNat = 8 := by decide
theorem wide4 : (wideF 4).toNat = 4 := by decide
theorem wide2 : (wideF 2).toNat = 2 := by decide
theorem wide1 : (wideF 1).toNat = 1 := by decide
theorem put2_call {i es : Nat} {a b wa wb c : Nat} {na nb : Nat} {h : Hp} {K : Value → Hp → Prop} (hb : h.blks i = some ⟨#[.int .u64 a, .int .i64 wa, .int .u64 b, .int .i64 wb], es, true⟩) (ha : a < 18446744073709551616) (hb2 : b < 18446744073709551616) (hna : (wideF wa).toNat = na) (hnb : (wideF wb).toNat = nb)
    (hK : K (.string (txt (digs a na ++ digs b nb))) h) : ACall prog 34 [.slice (some ⟨i, 0, none⟩) 2 c] h K := by
  refine put_call (l := [((a : Int), (wa : Int)), ((b : Int), (wb : Int))]) ⟨by simp [fldCells], .inr ⟨_, _, _, rfl, hb, by simp, fun j _ => by simp [fldCells]⟩⟩ (by simp) (by simp; omega) ?_
  have e : Go.Proofs.YtcbagjhbmdmjfaaDoor.putL [((a : Int), (wa : Int)), ((b : Int), (wb : Int))] = digs a na ++ digs b nb := by simp [Go.Proofs.YtcbagjhbmdmjfaaDoor.putL, hna, hnb]
  rw [e]
  exact hK
theorem put1_call {i es : Nat} {a wa c : Nat} {na : Nat} {h : Hp} {K : Value → Hp → Prop} (hb : h.blks i = some ⟨#[.int .u64 a, .int .i64 wa], es, true⟩) (ha : a < 18446744073709551616) (hna : (wideF wa).toNat = na)
    (hK : K (.string (txt (digs a na))) h) : ACall prog 34 [.slice (some ⟨i, 0, none⟩) 1 c] h K := by
  refine put_call (l := [((a : Int), (wa : Int))]) ⟨by simp [fldCells], .inr ⟨_, _, _, rfl, hb, by simp, fun j _ => by simp [fldCells]⟩⟩ (by simp) (by simp; omega) ?_
  have e : Go.Proofs.YtcbagjhbmdmjfaaDoor.putL [((a : Int), (wa : Int))] = digs a na := by simp [Go.Proofs.YtcbagjhbmdmjfaaDoor.putL, hna]
  rw [e]
  exact hK
/-- A segment's bytes; an image's, its sum apart; an image's. -/
def recS (g : Sg) : List UInt8 := digs g.a 8 ++ digs g.b.length 2 ++ g.b
def headS (x n : Nat) : List UInt8 := [65, 76, 77, 49] ++ (digs x 8 ++ digs n 1)
def bodyS (x : Nat) (l : List Sg) : List UInt8 := headS x l.length ++ l.flatMap recS
def bldS (x : Nat) (l : List Sg) : List UInt8 := bodyS x l ++ digs (sumTo (txt (bodyS x l)) (txt (bodyS x l)).size) 4
theorem chkL_small {f e : Nat} : ∀ {l : List Sg} {en : Nat}, chkL f e l en = 0 → ∀ g ∈ l, 1 ≤ g.b.length ∧ g.b.length ≤ 65535
  | [], _, _, g, hg => by cases hg
  | g0 :: l, en, h, g, hg => by
    simp only [chkL] at h
    split at h
    · rename_i h0
      rcases List.mem_cons.1 hg with rfl | hg
      · unfold segN at h0
        split at h0; omega
        split at h0; omega
        omega
      · exact chkL_small h g hg
    · rename_i h0; exact absurd h h0
theorem chkI_small {x : Nat} {l : List Sg} {n : Int} (h : chkI x l n = 0) : l.length ≤ 8 ∧ ∀ g ∈ l, 1 ≤ g.b.length ∧ g.b.length ≤ 65535 := by
  unfold chkI at h
  split at h; omega
  split at h
  · rename_i h0; exact absurd h h0
  · split at h; omega
    exact ⟨by omega, chkL_small h⟩
theorem flat_le {l : List Sg} (h : ∀ g ∈ l, g.b.length ≤ 65535) : (l.flatMap recS).length ≤ 65545 * l.length := by
  induction l with
  | nil => simp
  | cons g l ih =>
    have h1 := ih fun g' hg' => h g' (by simp [hg'])
    have h2 := h g (by simp)
    simp only [List.flatMap_cons, List.length_append, List.length_cons, recS, digs_length]
    omega
theorem headS_length (x n : Nat) : (headS x n).length = 13 := by simp [headS, digs_length]
end Go.Proofs.YtcbagjhbmdmjfaaDoor
namespace Go.Proofs.YtcbagjhbmdmjfaaDoor
set_option maxRecDepth 100000
open Go Go.Mini Go.Proofs.Tryd

def tb11 : Nat → Marks := fun k => if k = 8 then ⟨[10, 12], fun _ => True⟩ else ⟨[], fun _ => True⟩
theorem build_call {x : Nat} {l : List Sg} {v : Value} {n : Int} {h : Hp} {K : Value → Hp → Prop} (hx : x < 18446744073709551616) (hv : Sl h 2 l.length (sgC l) v) (hl : ∀ g ∈ l, g.ok) (hL : l.length < 9223372036854775808)
    (hK1 : chkI x l n ≠ 0 → K (.tuple #[.string (txt []), .int .i64 (chkI x l n)]) h) (hK2 : chkI x l n = 0 → K (.tuple #[.string (txt (bldS x l)), .int .i64 0]) h) : ACall prog 11 [imV x v, .int .i64 n] h K := by
  refine acallF_of tb11 func11 rfl rfl mixed (by kernel_rfl) fun hwf => ?_
  have hvb := sblk_lt (n := h.next) (v := v) (by have := hwf.args (imV x v) (by simp); simp [imV, vtop, vtopL] at this; omega)
  obtain ⟨va, vc, rfl⟩ := hv.slice
  simp -dsimp (disch := omega) [imV]
  refine check_call (x := x) (l := l) hx (hv.mono fun b hb => by rw [blks_alloc_ne _ _ _ (by have := hvb b hb; omega)]) hl hL ?_
  obtain ⟨r, hr⟩ : ∃ r, r = chkI x l n := ⟨_, rfl⟩
  rw [← hr] at hK1 hK2 ⊢
  by_cases c : r = 0
  · have hK := hK2 c
    simp -dsimp (disch := omega) [c]
    refine put2_call (a := x) (b := l.length) (wa := 8) (wb := 1) (na := 8) (nb := 1) (blks_alloc_eq _ _) hx (by omega) wide8 wide1 ?_
    simp -dsimp (disch := first | omega | (simp [digs_length]; done) | (simp [digs_length]; omega))
    refine awp_loop (fun t h' => h.next < h'.next ∧ (∀ i, i < h.next → h'.blks i = h.blks i) ∧ ∃ k : Nat, t 28 = .slice va l.length vc ∧ t 29 = .int .i64 l.length ∧ t 30 = .int .i64 k ∧ k ≤ l.length ∧ t 7 = .string (txt (headS x l.length ++ (l.take k).flatMap recS))) (fun t _ => l.length - ivN (t 30)) ?_ ?_
    · simp -dsimp
      exact ⟨by omega, fun i hi => by rw [if_neg (by omega), if_neg (by omega)], 0, by simp, Nat.zero_le _, by simp [headS]⟩
    · rintro t h' ⟨hn, hs, k, h28, h29, h30, hk, h7⟩
      refine vcF_sound mixed (tb := tb11) _ (by kernel_rfl) ?_
      simp -dsimp (disch := omega) [h28, h29, h30]
      refine CondF_dec (fun hc => ?_) (fun hc => ?_)
      · have hkl : k < l.length := by omega
        obtain ⟨g, hg⟩ : ∃ g, l[k]? = some g := ⟨l[k], by simp [hkl]⟩
        obtain ⟨g1, g2⟩ := hl g (List.mem_of_getElem? hg)
        obtain ⟨_, ⟨_, c, e, h0⟩ | ⟨a, c, b, e0, hb, hbs, hbc⟩⟩ := hv
        · omega
        cases e0
        have hab := hvb _ rfl
        obtain ⟨d1, d2⟩ := sgC_at l k g hg
        have hx' : b.cells.extract (a.off + k * 2) (a.off + k * 2 + 2) = #[.int .u64 g.a, .string (txt g.b)] := by
          have e1 := hbc (k * 2) (by omega)
          have e2 := hbc (k * 2 + 1) (by omega)
          rw [Nat.mul_comm k 2] at e1 e2
          rw [Nat.mul_comm k 2]
          exact extract2 (e1.trans d1) (e2.trans d2)
        have hb' : h'.blks a.block = some b := by rw [hs _ hab]; exact hb
        have hsz : a.off + k * 2 + 2 ≤ b.cells.size := by omega
        have hlen : (txt g.b).size = g.b.length := rfl
        simp -dsimp (disch := omega) [h28, h29, h30, h7, hb', hx', hsz, hlen, tb11]
        refine put2_call (a := g.a) (b := g.b.length) (wa := 8) (wb := 2) (na := 8) (nb := 2) (blks_alloc_eq _ _) g1 (by omega) wide8 wide2 ?_
        have b1 := (chkI_small (hr.symm.trans c)).2
        have b3 := (chkI_small (hr.symm.trans c)).1
        have b2 : ((l.take k).flatMap recS).length ≤ 65545 * 8 := by
          have := flat_le (l := l.take k) fun g' hg' => (b1 g' (List.mem_of_mem_take hg')).2
          have := List.length_take_le k l
          omega
        have b4 := (b1 g (List.mem_of_getElem? hg)).2
        have b5 := headS_length x l.length
        simp -dsimp (disch := first | omega | (simp only [txt_size, List.length_append, digs_length]; omega)) [h28, h29, h30, h7, tb11]
        refine ⟨⟨by omega, fun i hi => by rw [if_neg (by omega), if_neg (by omega)]; exact hs i hi, k + 1, by simp, by omega, ?_⟩, by simp [ivN]; omega⟩
        rw [take_snoc hg, List.flatMap_append]
        simp [recS]
      · have : k = l.length := by omega
        subst this
        rw [List.take_length] at h7
        simp -dsimp (disch := omega) [h28, h29, h30, h7]
        have b1 := (chkI_small (hr.symm.trans c)).2
        have b3 := (chkI_small (hr.symm.trans c)).1
        have b2 : (l.flatMap recS).length ≤ 65545 * 8 := by
          have := flat_le (l := l) fun g' hg' => (b1 g' hg').2
          omega
        have b5 := headS_length x l.length
        have b6 : ((txt (bodyS x l)).size : Int) ≤ 1000000 := by rw [bodyS, txt_size, List.length_append]; omega
        have b7 := sumTo_range (txt (bodyS x l)) (txt (bodyS x l)).size
        rw [show headS x l.length ++ List.flatMap recS l = bodyS x l from rfl] at h7 ⊢
        refine sum_call (by omega) ?_
        unfold bldS at hK
        obtain ⟨q, hq⟩ := Int.eq_ofNat_of_zero_le b7.1
        rw [hq] at hK b7 ⊢
        simp -dsimp (disch := omega) [h28, h29, h30, h7]
        refine put1_call (a := q) (wa := 4) (na := 4) (blks_alloc_eq _ _) (by omega) wide4 ?_
        simp -dsimp (disch := first | omega | (simp only [txt_size, List.length_append, digs_length] at *; omega)) [h28, h29, h30, h7]
        exact RetF.same hwf (by simp) (by simp [vtop, vtopL]) (fun i hi => by rw [blks_alloc_ne _ _ _ (by omega)]; exact hs i hi) hK
  · have hK := hK1 c
    simp -dsimp (disch := omega) [c]
    exact RetF.same hwf (by simp) (Nat.zero_le _) (fun i hi => by simp [Hp.blks_alloc, Nat.ne_of_lt hi]) hK
end Go.Proofs.YtcbagjhbmdmjfaaDoor
