/-
  The plain law: a memory as a list of bytes that were written. No program. The document's memory: New, width, There, Byte, Held, Clear, Reserve. The document's memory: a byte is written. The document's memory: Write, Read, Put, Bytes.
-/
import Derived.Test.YtkbiadobkheafaaDoorGA
import Derived.Test.YtkbiadobkheafaaDoorVA
import Derived.Test.YtkbiadobkheafaaDoorM22
set_option linter.unusedSimpArgs false
set_option linter.unusedVariables false
set_option linter.unusedSectionVars false

namespace Go.Proofs.YtkbiadobkheafaaDoor.Rm
set_option maxRecDepth 100000
open Go Go.Mini

abbrev By := List (Nat × Nat)
def look : By → Nat → Nat
  | [], _ => 0
  | (k, v) :: l, x => if k = x then v else look l x
def setL : By → Nat → Nat → By
  | [], x, v => [(x, v)]
  | (k, u) :: l, x, v => if k = x then (k, v) :: l else (k, u) :: setL l x v
theorem look_setL (l : By) (x v y : Nat) : look (setL l x v) y = if y = x then v else look l y := by
  induction l with
  | nil => simp only [setL, look]; by_cases h : y = x
           · rw [if_pos h, if_pos h.symm]
           · rw [if_neg h, if_neg (Ne.symm h)]
  | cons e l ih =>
    obtain ⟨k, u⟩ := e
    simp only [setL, look]
    by_cases h : k = x
    · rw [if_pos h]
      simp only [look]
      by_cases hy : y = x
      · rw [if_pos hy, if_pos (by omega)]
      · rw [if_neg hy, if_neg (by omega), if_neg (by omega)]
    · rw [if_neg h]
      simp only [look]
      rw [ih]
      by_cases hk : k = y
      · rw [if_pos hk, if_pos hk, if_neg (by omega)]
      · rw [if_neg hk, if_neg hk]
theorem mem_setL {l : By} {x v : Nat} {e : Nat × Nat} (h : e ∈ setL l x v) : e = (x, v) ∨ e ∈ l := by
  induction l with
  | nil => simp only [setL, List.mem_singleton] at h; exact .inl h
  | cons d l ih =>
    obtain ⟨k, u⟩ := d
    simp only [setL] at h
    by_cases hk : k = x
    · rw [if_pos hk] at h
      rcases List.mem_cons.1 h with h | h
      · exact .inl (by rw [h, hk])
      · exact .inr (by simp [h])
    · rw [if_neg hk] at h
      rcases List.mem_cons.1 h with h | h
      · exact .inr (by simp [h])
      · rcases ih h with h | h
        · exact .inl h
        · exact .inr (by simp [h])
theorem setL_length (l : By) (x v : Nat) : (setL l x v).length ≤ l.length + 1 := by
  induction l with
  | nil => simp [setL]
  | cons d l ih =>
    obtain ⟨k, u⟩ := d
    simp only [setL]
    split <;> simp <;> omega
/-- Each place stands in it once. -/
def Uniq : By → Prop
  | [] => True
  | (k, _) :: l => (∀ e ∈ l, e.1 ≠ k) ∧ Uniq l
theorem Uniq.set {l : By} (h : Uniq l) (x v : Nat) : Uniq (setL l x v) := by
  induction l with
  | nil => simp [setL, Uniq]
  | cons d l ih =>
    obtain ⟨k, u⟩ := d
    simp only [setL]
    by_cases hk : k = x
    · rw [if_pos hk]; exact ⟨h.1, h.2⟩
    · rw [if_neg hk]
      refine ⟨fun e he => ?_, ih h.2⟩
      rcases mem_setL he with rfl | he
      · exact fun e => hk e.symm
      · exact h.1 e he
theorem Uniq.look {l : By} (h : Uniq l) {e : Nat × Nat} (he : e ∈ l) : look l e.1 = e.2 := by
  induction l with
  | nil => cases he
  | cons d l ih =>
    obtain ⟨k, u⟩ := d
    simp only [YtkbiadobkheafaaDoor.Rm.look]
    rcases List.mem_cons.1 he with rfl | he
    · rw [if_pos rfl]
    · rw [if_neg (Ne.symm (h.1 e he))]; exact ih h.2 he
theorem look_lt {l : By} (h : ∀ e ∈ l, e.2 < 256) (x : Nat) : look l x < 256 := by
  induction l with
  | nil => simp [look]
  | cons d l ih =>
    obtain ⟨k, u⟩ := d
    simp only [look]
    split
    · exact h (k, u) (by simp)
    · exact ih fun e he => h e (by simp [he])
theorem look_none {l : By} {x : Nat} (h : ∀ e ∈ l, e.1 ≠ x) : look l x = 0 := by
  induction l with
  | nil => rfl
  | cons d l ih =>
    obtain ⟨k, u⟩ := d
    simp only [look]
    rw [if_neg (h (k, u) (by simp))]
    exact ih fun e he => h e (by simp [he])
/-- The first place of it. -/
theorem look_first {l : By} {i : Nat} {e : Nat × Nat} (hi : l[i]? = some e) (h : ∀ d ∈ l.take i, d.1 ≠ e.1) : look l e.1 = e.2 := by
  induction l generalizing i with
  | nil => simp at hi
  | cons d l ih =>
    obtain ⟨k, u⟩ := d
    simp only [look]
    cases i with
    | zero => simp only [List.getElem?_cons_zero, Option.some.injEq] at hi; subst hi; rw [if_pos rfl]
    | succ i =>
      rw [if_neg (h (k, u) (by simp))]
      exact ih (by simpa using hi) fun d hd => h d (by simp [hd])
theorem setL_first {l : By} {i : Nat} {x u v : Nat} (hi : l[i]? = some (x, u)) (h : ∀ d ∈ l.take i, d.1 ≠ x) : setL l x v = l.set i (x, v) := by
  induction l generalizing i with
  | nil => simp at hi
  | cons d l ih =>
    obtain ⟨k, w⟩ := d
    simp only [setL]
    cases i with
    | zero =>
      simp only [List.getElem?_cons_zero, Option.some.injEq, Prod.mk.injEq] at hi
      rw [if_pos hi.1, List.set_cons_zero, hi.1]
    | succ i =>
      rw [if_neg (h (k, w) (by simp)), List.set_cons_succ, ih (by simpa using hi) fun d hd => h d (by simp [hd])]
theorem setL_new {l : By} {x v : Nat} (h : ∀ e ∈ l, e.1 ≠ x) : setL l x v = l ++ [(x, v)] := by
  induction l with
  | nil => rfl
  | cons d l ih =>
    obtain ⟨k, u⟩ := d
    simp only [setL]
    rw [if_neg (h (k, u) (by simp)), ih fun e he => h e (by simp [he])]
    rfl
/-- Bytes one behind the other. -/
def setN (l : By) (x : Nat) (f : Nat → Nat) : Nat → By
  | 0 => l
  | k + 1 => setL (setN l x f k) (x + k) (f k)
theorem look_setN (l : By) (x : Nat) (f : Nat → Nat) (k y : Nat) : look (setN l x f k) y = if x ≤ y ∧ y < x + k then f (y - x) else look l y := by
  induction k with
  | zero => rw [if_neg (by omega)]; rfl
  | succ k ih =>
    rw [setN, look_setL, ih]
    by_cases h : y = x + k
    · subst h; rw [if_pos rfl, if_pos (by omega), Nat.add_sub_cancel_left]
    · rw [if_neg h]
      by_cases h' : x ≤ y ∧ y < x + k
      · rw [if_pos h', if_pos (by omega)]
      · rw [if_neg h', if_neg (by omega)]
theorem setN_length (l : By) (x : Nat) (f : Nat → Nat) (k : Nat) : (setN l x f k).length ≤ l.length + k := by
  induction k with
  | zero => exact Nat.le_refl _
  | succ k ih => have := setL_length (setN l x f k) (x + k) (f k); rw [setN]; omega
theorem Uniq.setN {l : By} (h : Uniq l) (x : Nat) (f : Nat → Nat) (k : Nat) : Uniq (YtkbiadobkheafaaDoor.Rm.setN l x f k) := by
  induction k with
  | zero => exact h
  | succ k ih => exact ih.set _ _
theorem mem_setN {l : By} {x : Nat} {f : Nat → Nat} {k : Nat} {e : Nat × Nat} (h : e ∈ setN l x f k) : e ∈ l ∨ ∃ j, j < k ∧ e = (x + j, f j) := by
  induction k with
  | zero => exact .inl h
  | succ k ih =>
    rcases mem_setL h with h | h
    · exact .inr ⟨k, by omega, h⟩
    · rcases ih h with h | ⟨j, hj, h⟩
      · exact .inl h
      · exact .inr ⟨j, by omega, h⟩

theorem leN_succ (M : Nat → Nat) (n : Nat) : ∀ x, leN M x (n + 1) = leN M x n + M (x + n) * 256 ^ n := by
  induction n with
  | zero => intro x; simp [leN]
  | succ n ih =>
    intro x
    rw [show leN M x (n + 1 + 1) = leN M (x + 1) (n + 1) * 256 + M x from rfl, ih, show leN M x (n + 1) = leN M (x + 1) n * 256 + M x from rfl, Nat.add_mul, Nat.pow_succ, Nat.mul_assoc, show x + 1 + n = x + (n + 1) from by omega]
    omega
theorem leN_congr {M M' : Nat → Nat} (n : Nat) : ∀ x, (∀ i, x ≤ i → i < x + n → M i = M' i) → leN M x n = leN M' x n := by
  induction n with
  | zero => intro x _; rfl
  | succ n ih =>
    intro x h
    rw [leN, leN, ih (x + 1) fun i h1 h2 => h i (by omega) (by omega), h x (by omega) (by omega)]
theorem toW_zero (a : Nat) (w : Int) (x : Nat) : toW a w x 0 = w := by unfold toW; rw [if_neg (by omega)]
theorem toW_succ (a : Nat) (w : Int) (x k : Nat) : toW a (toW a w x k) (x + k) 1 = toW a w x (k + 1) := by
  unfold toW
  by_cases h1 : 0 < k ∧ x < a / 8 * 8 + 8 ∧ a / 8 * 8 < x + k
  · rw [if_pos h1, if_pos (by omega : 0 < k + 1 ∧ x < a / 8 * 8 + 8 ∧ a / 8 * 8 < x + (k + 1))]; split <;> rfl
  · rw [if_neg h1]
    by_cases h2 : 0 < k + 1 ∧ x < a / 8 * 8 + 8 ∧ a / 8 * 8 < x + (k + 1)
    · rw [if_pos h2, if_pos (by omega)]
    · rw [if_neg h2, if_neg (by omega)]
theorem toW_one (a : Nat) (w : Int) (x : Nat) (hw : 0 ≤ w) : toW a w x 1 = if 0 < w ∧ x / 8 = a / 8 then 0 else w := by
  unfold toW
  by_cases h : x / 8 = a / 8
  · rw [if_pos (by omega)]
    split
    · rfl
    · omega
  · rw [if_neg (by omega), if_neg (fun hh => h hh.2)]

/-- Two memories that are alike, by what was written. -/
theorem look_all {l l' : By} (hl : Uniq l) (hl' : Uniq l') : (∀ x, look l x = look l' x) ↔ (∀ e ∈ l, look l' e.1 = e.2) ∧ (∀ e ∈ l', look l e.1 = e.2) := by
  constructor
  · exact fun h => ⟨fun e he => by rw [← h]; exact hl.look he, fun e he => by rw [h]; exact hl'.look he⟩
  · rintro ⟨h1, h2⟩ x
    by_cases hx : ∃ e ∈ l, e.1 = x
    · obtain ⟨e, he, rfl⟩ := hx
      rw [hl.look he, h1 e he]
    · by_cases hx' : ∃ e ∈ l', e.1 = x
      · obtain ⟨e, he, rfl⟩ := hx'
        rw [hl'.look he, h2 e he]
      · rw [look_none fun e he h => hx ⟨e, he, h⟩, look_none fun e he h => hx' ⟨e, he, h⟩]

end Go.Proofs.YtkbiadobkheafaaDoor.Rm
namespace Go.Proofs.YtkbiadobkheafaaDoor.Rm
set_option maxRecDepth 100000
open Go Go.Mini Go.Proofs.Tryd

def byC (e : Nat × Nat) : List Value := [.int .u64 e.1, .int .u8 e.2]
theorem byC_len (e : Nat × Nat) : (byC e).length = 2 := rfl
def bysC (l : By) : List Value := l.flatMap byC
theorem bysC_length (l : By) : (bysC l).length = l.length * 2 := by
  induction l with
  | nil => rfl
  | cons e l ih =>
    have : bysC (e :: l) = byC e ++ bysC l := rfl
    rw [this, List.length_append, ih, byC_len, List.length_cons]; omega
theorem bysC_snoc (l : By) (e : Nat × Nat) : bysC (l ++ [e]) = bysC l ++ byC e := by simp [bysC]
theorem bysC_set (l : By) : ∀ (i : Nat) (x u v : Nat), l[i]? = some (x, u) → (bysC l).toArray.setIfInBounds (i * 2 + 1) (.int .u8 v) = (bysC (l.set i (x, v))).toArray := by
  intro i x u v hi
  apply Array.ext_getElem?
  intro j
  have hil : i < l.length := (List.getElem?_eq_some_iff.1 hi).1
  by_cases hj : j < l.length * 2
  · obtain ⟨q, d, rfl, hd⟩ : ∃ q d, j = q * 2 + d ∧ d < 2 := ⟨j / 2, j % 2, by omega, by omega⟩
    have hq : q < l.length := by omega
    by_cases hqi : q = i
    · subst hqi
      have hr : (bysC (l.set q (x, v))).toArray[q * 2 + d]? = (byC (x, v))[d]? := by
        rw [List.getElem?_toArray]
        exact flat_at byC_len _ _ _ (by rw [List.getElem?_set_self hil]) d hd
      rw [hr]
      by_cases h0 : d = 1
      · subst h0
        rw [Array.getElem?_setIfInBounds_self_of_lt (by simp [bysC_length]; omega)]
        rfl
      · obtain rfl : d = 0 := by omega
        rw [Array.getElem?_setIfInBounds_ne (by omega), List.getElem?_toArray]
        have := flat_at byC_len l q _ hi 0 (by omega)
        exact this
    · have hr : (bysC (l.set i (x, v))).toArray[q * 2 + d]? = (byC (l[q]'hq))[d]? := by
        rw [List.getElem?_toArray]
        exact flat_at byC_len _ _ _ (by rw [List.getElem?_set_ne (Ne.symm hqi)]; exact List.getElem?_eq_getElem hq) d hd
      rw [hr, Array.getElem?_setIfInBounds_ne (by omega), List.getElem?_toArray]
      exact flat_at byC_len l q _ (List.getElem?_eq_getElem hq) d hd
  · rw [Array.getElem?_eq_none (by simp [bysC_length]; omega), Array.getElem?_eq_none (by simp [bysC_length]; omega)]

def rfC (N : Nat) (v : Value) (a : Nat) (w : Int) : Array Value := #[.int .u64 N, v, .int .u64 a, .int .i64 w]
/-- The document's memory. -/
structure Rf (m : Nat) (h : Hp) (r N : Nat) (v : Value) (L : By) (a : Nat) (w : Int) : Prop where
  blk : h.blks r = some ⟨#[.int .u64 N, v, .int .u64 a, .int .i64 w], 1, true⟩
  row : Row m h 2 L.length (bysC L) v
  rlt : r < h.next
  mr : m ≤ r
  mh : m ≤ h.next
  vr : sblk v ≠ some r
  N1 : N ≤ 65536
  a1 : a < 65536
  w0 : w = 0 ∨ w = 4 ∨ w = 8
  ok : ∀ e ∈ L, e.1 < N ∧ e.2 < 256
  uq : Uniq L
/-- What else stands is as it was. -/
structure RCh (h h' : Hp) (r : Nat) (v : Value) : Prop where
  le : h.next ≤ h'.next
  same : ∀ i, i < h.next → i ≠ r → sblk v ≠ some i → h'.blks i = h.blks i
theorem RCh.refl (h : Hp) (r : Nat) (v : Value) : RCh h h r v := ⟨Nat.le_refl _, fun _ _ _ _ => rfl⟩
theorem RCh.trans {h h' h'' : Hp} {r : Nat} {v v' : Value} (x : RCh h h' r v) (y : RCh h' h'' r v') (hv : ∀ b, sblk v' = some b → sblk v = some b ∨ h.next ≤ b) : RCh h h'' r v :=
  ⟨Nat.le_trans x.le y.le, fun i h1 h2 h3 => by
    rw [y.same i (by have := x.le; omega) h2 fun e => (hv i e).elim (fun e => h3 e) fun e => by omega, x.same i h1 h2 h3]⟩
/-- Where the list may lie. -/
def VCh (h : Hp) (v v' : Value) : Prop := ∀ b, sblk v' = some b → sblk v = some b ∨ h.next ≤ b
theorem VCh.refl (h : Hp) (v : Value) : VCh h v v := fun _ hb => .inl hb

section
variable {h : Hp} {m r N : Nat} {v : Value} {L : By} {a : Nat} {w : Int} {K : Value → Hp → Prop}

theorem rfNew_call {n : Nat} (h2 : n ≤ 16) (hK : ∀ h' r, Ext h h' → h.next ≤ r → Rf h.next h' r (n * 4096) (.slice none 0 0) [] 0 0 → K (ptr r) h') : ACall prog 22 [.int .i64 n] h K := by
  refine acallF_of tb0 func22 rfl rfl mixed (by kernel_rfl) fun hwf => ?_
  obtain ⟨N, hN⟩ : ∃ N : Nat, N = n * 4096 := ⟨_, rfl⟩
  have hN' : (n : Int) * 4096 = N := by omega
  simp -dsimp (disch := omega) [hN']
  refine RetF.all (r := ptr h.next) (by simp) (hK _ _ (Ext.alloc h _) (Nat.le_refl _) ?_)
  rw [← hN]
  exact ⟨blks_alloc_eq _ _, Row.nil _ _ _, by simp, Nat.le_refl _, by simp, by simp [sblk], by omega, by omega, .inl rfl, by simp, trivial⟩

theorem width_call {n : Int} (hK : K (.bool (decide (wok n))) h) : ACall prog 59 [.int .i64 n] h K := by
  refine acallF_of tb0 func59 rfl rfl mixed (by kernel_rfl) fun hwf => ?_
  by_cases hw : wok n
  · rw [decide_eq_true hw] at hK
    obtain rfl | rfl | rfl | rfl := hw
    all_goals
      simp -dsimp (disch := omega)
      exact RetF.same hwf (by simp) (Nat.zero_le _) (fun _ _ => rfl) hK
  · rw [decide_eq_false hw] at hK
    unfold wok at hw
    have h1 : ¬ n = 1 := by omega
    have h2 : ¬ n = 2 := by omega
    have h4 : ¬ n = 4 := by omega
    have h8 : ¬ n = 8 := by omega
    simp -dsimp (disch := omega) [h1, h2, h4, h8]
    exact RetF.same hwf (by simp) (Nat.zero_le _) (fun _ _ => rfl) hK

set_option maxRecDepth 100000 in
theorem rfThere_call {x n : Nat} (q : Rf m h r N v L a w) (hK : K (.bool (decide (x + n ≤ N))) h) : ACall prog 60 [ptr r, .int .u64 x, .int .u64 n] h K := by
  refine acallF_of tb0 func60 rfl rfl mixed (by kernel_rfl) fun hwf => ?_
  have hb := q.blk
  have h1 := q.N1
  by_cases hx : x ≤ N
  · have hx' : (x : Int) ≤ N := by omega
    by_cases hn : x + n ≤ N
    · have hn' : (n : Int) ≤ N - x := by omega
      rw [decide_eq_true hn] at hK
      simp -dsimp (disch := omega) [hb, hx, hx', hn, hn']
      exact RetF.same hwf (by simp) (Nat.zero_le _) (fun _ _ => rfl) hK
    · have hn' : ¬ (n : Int) ≤ N - x := by omega
      rw [decide_eq_false hn] at hK
      simp -dsimp (disch := omega) [hb, hx, hx', hn, hn']
      exact RetF.same hwf (by simp) (Nat.zero_le _) (fun _ _ => rfl) hK
  · have hx' : ¬ (x : Int) ≤ N := by omega
    rw [decide_eq_false (by omega)] at hK
    simp -dsimp (disch := omega) [hb, hx, hx']
    exact RetF.same hwf (by simp) (Nat.zero_le _) (fun _ _ => rfl) hK

theorem row_el {i : Nat} {e : Nat × Nat} (hr : Row m h 2 L.length (bysC L) v) (hi : L[i]? = some e) :
    ∃ b, v = .slice (some ⟨b, 0, none⟩) L.length (2 * L.length + 1) ∧ h.blks b = some ⟨(bysC L).toArray, 2, true⟩ ∧ (bysC L).toArray[i * 2]? = some (.int .u64 e.1) ∧ (bysC L).toArray[i * 2 + 1]? = some (.int .u8 e.2) := by
  have hlt : i < L.length := (List.getElem?_eq_some_iff.1 hi).1
  obtain ⟨h0, ⟨rfl, hz⟩ | ⟨b, h1, h2, rfl, h3⟩⟩ := hr
  · omega
  · refine ⟨b, rfl, h3, ?_, ?_⟩
    · rw [List.getElem?_toArray]; exact flat_at byC_len L i e hi 0 (by omega)
    · rw [List.getElem?_toArray]; exact flat_at byC_len L i e hi 1 (by omega)

theorem byte_call {x : Nat} (q : Rf m h r N v L a w) (hl : L.length ≤ 1000000) (hK : K (.int .u8 (look L x)) h) : ACall prog 86 [ptr r, .int .u64 x] h K := by
  refine acallF_of tb0 func86 rfl rfl mixed (by kernel_rfl) fun hwf => ?_
  have hb := q.blk
  obtain ⟨n, hn⟩ : ∃ n, n = L.length := ⟨_, rfl⟩
  obtain ⟨va, vc, hv⟩ := q.row.slice
  rw [← hn] at hl hv
  subst hv
  simp -dsimp (disch := omega)
  refine awp_loop (fun t h' => h' = h ∧ ∃ k : Nat, k ≤ n ∧ t 0 = ptr r ∧ t 1 = .int .u64 x ∧ t 5 = .int .i64 k ∧ ∀ e ∈ L.take k, e.1 ≠ x) (fun t _ => n - ivN (t 5)) ?_ ?_
  · simp -dsimp (disch := omega)
    exact ⟨0, by omega, rfl, by simp⟩
  · rintro t h' ⟨rfl, k, hk, g0, g1, g5, hall⟩
    refine vcF_sound mixed (tb := tb0) _ (by kernel_rfl) ?_
    by_cases hc : k < n
    · obtain ⟨e, hx⟩ : ∃ e, L[k]? = some e := ⟨_, List.getElem?_eq_getElem (hn ▸ hc)⟩
      obtain ⟨b, e1, e2, e3, e4⟩ := row_el q.row hx
      cases e1
      obtain ⟨y, z⟩ := e
      simp only at e3 e4
      by_cases hxy : y = x
      · have hlk : look L x = z := by
          have := look_first hx (by simpa [hxy] using hall)
          simpa [hxy] using this
        rw [hlk] at hK
        subst hxy
        simp -dsimp (disch := omega) [g0, g1, g5, hb, hc, e2, e3, e4, -getElem?_pos]
        exact RetF.same hwf (by simp) (Nat.zero_le _) (fun _ _ => rfl) hK
      · have hxy' : ¬ (y : Int) = x := by omega
        simp -dsimp (disch := omega) [g0, g1, g5, hb, hc, e2, e3, e4, hxy, hxy', -getElem?_pos]
        refine ⟨⟨k + 1, by omega, by simp, fun y' z' hd => ?_⟩, by simp [ivN]; omega⟩
        rw [List.take_add_one, hx] at hd
        rcases List.mem_append.1 hd with hd | hd
        · exact hall (y', z') hd
        · obtain ⟨rfl, rfl⟩ : y' = y ∧ z' = z := by simpa using hd
          exact hxy
    · have hlk : look L x = 0 := look_none fun e he => hall e (by rw [show k = L.length from by omega, List.take_length]; exact he)
      rw [hlk] at hK
      simp -dsimp (disch := omega) [g0, g1, g5, hb, hc]
      exact RetF.same hwf (by simp) (Nat.zero_le _) (fun _ _ => rfl) hK

theorem Rf.upd {a' : Nat} {w' : Int} (q : Rf m h r N v L a w) (ha : a' < 65536) (hw : w' = 0 ∨ w' = 4 ∨ w' = 8) : Rf m (h.set r ⟨rfC N v a' w', 1, true⟩) r N v L a' w' :=
  ⟨blks_set_eq _ _ _, q.row.set _ _ q.vr, q.rlt, q.mr, q.mh, q.vr, q.N1, ha, hw, q.ok, q.uq⟩
theorem RCh.set (h : Hp) (r : Nat) (v : Value) (c : Blk) : RCh h (h.set r c) r v := ⟨Nat.le_refl _, fun i _ h2 _ => blks_set_ne _ _ _ _ h2⟩

end
end Go.Proofs.YtkbiadobkheafaaDoor.Rm
namespace Go.Proofs.YtkbiadobkheafaaDoor.Rm
set_option maxRecDepth 100000
open Go Go.Mini Go.Proofs.Tryd

section
variable {h : Hp} {m r N : Nat} {v : Value} {L : By} {a : Nat} {w : Int} {K : Value → Hp → Prop}

theorem set_loop {Q : APost} {x u : Nat} {t : Tm} (q : Rf m h r N v L a w) (hl : L.length ≤ 1000000) (hx : x < N) (hu : u < 256) (g0 : t 0 = ptr r) (g1 : t 1 = .int .u64 x) (g2 : t 2 = .int .u8 u) (g6 : t 6 = .int .i64 0)
    (hret : ∀ t h', Rf m h' r N v (setL L x u) a w → RCh h h' r v → apQ Q .ret t h' (.mk _)) (hex : ∀ t, t 0 = ptr r → t 1 = .int .u64 x → t 2 = .int .u8 u → (∀ e ∈ L, e.1 ≠ x) → apQ Q (.exit 0) t h (.mk _)) : Awp prog f61.ntmps (.loop (loopC (blkC (sndC (fstC (sndC (bodyC f61))))))) Q t h := by
  have hb := q.blk
  obtain ⟨n, hn⟩ : ∃ n, n = L.length := ⟨_, rfl⟩
  obtain ⟨va, vc, hv⟩ := q.row.slice
  rw [← hn] at hl hv
  subst hv
  refine awp_loop (fun t h' => h' = h ∧ ∃ k : Nat, k ≤ n ∧ t 0 = ptr r ∧ t 1 = .int .u64 x ∧ t 2 = .int .u8 u ∧ t 6 = .int .i64 k ∧ ∀ e ∈ L.take k, e.1 ≠ x) (fun t _ => n - ivN (t 6)) ?_ ?_
  · exact ⟨rfl, 0, by omega, g0, g1, g2, g6, by simp⟩
  · clear g0 g1 g2 g6
    rintro t h' ⟨rfl, k, hk, g0, g1, g2, g6, hall⟩
    have e : loopC (blkC (sndC (fstC (sndC (bodyC f61))))) = loopC (blkC (sndC (fstC (sndC (bodyC f61))))) := rfl
    conv at e => rhs; whnf
    rw [e]
    clear e
    refine vcF_sound mixed (tb := tb0) _ (by kernel_rfl) ?_
    by_cases hc : k < n
    · obtain ⟨e, hxe⟩ : ∃ e, L[k]? = some e := ⟨_, List.getElem?_eq_getElem (hn ▸ hc)⟩
      obtain ⟨b, e1, e2, e3, e4⟩ := row_el q.row hxe
      cases e1
      obtain ⟨y, z⟩ := e
      simp only at e3 e4
      have hsz : k * 2 + 1 < (bysC L).toArray.size := by simp [bysC_length]; omega
      by_cases hxy : y = x
      · subst hxy
        have hset : setL L y u = L.set k (y, u) := setL_first hxe hall
        have hcs := bysC_set L k y z u hxe
        have hbr : b ≠ r := fun e => q.vr (by rw [e]; rfl)
        have hbl := (q.row.blk b rfl)
        have hcs' : (bysC L).set (k * 2 + 1) (.int .u8 u) = bysC (setL L y u) := by rw [hset]; simpa using hcs
        have hle : k * 2 + 1 + 1 ≤ (bysC L).length := by rw [bysC_length]; omega
        have hsl : (setL L y u).length = L.length := by rw [hset]; simp
        simp -dsimp (disch := omega) [g0, g1, g2, g6, hb, hc, e2, e3, e4, hcs', hle, -getElem?_pos]
        refine hret _ _ ⟨by rw [blks_set_ne _ _ _ _ (Ne.symm hbr)]; exact q.blk, ⟨by rw [bysC_length], .inr ⟨b, hbl.1, hbl.2, by rw [hsl], blks_set_eq _ _ _⟩⟩, q.rlt, q.mr, q.mh, q.vr, q.N1, q.a1, q.w0, fun e he => ?_, q.uq.set _ _⟩ ⟨Nat.le_refl _, fun i _ _ h3 => blks_set_ne _ _ _ _ fun e => h3 (by rw [e]; rfl)⟩
        rcases mem_setL he with rfl | he
        · exact ⟨hx, hu⟩
        · exact q.ok e he
      · have hxy' : ¬ (y : Int) = x := by omega
        simp -dsimp (disch := omega) [g0, g1, g2, g6, hb, hc, e2, e3, e4, hxy, hxy', -getElem?_pos]
        refine ⟨⟨k + 1, by omega, by simp, fun y' z' hd => ?_⟩, by simp [ivN]; omega⟩
        rw [List.take_add_one, hxe] at hd
        rcases List.mem_append.1 hd with hd | hd
        · exact hall (y', z') hd
        · obtain ⟨rfl, rfl⟩ : y' = y ∧ z' = z := by simpa using hd
          exact hxy
    · simp -dsimp (disch := omega) [g0, g1, g2, g6, hb, hc]
      exact hex _ (by simp [g0]) (by simp [g1]) (by simp [g2]) fun e he => hall e (by rw [show k = L.length from by omega, List.take_length]; exact he)

set_option maxRecDepth 100000 in
theorem rfSet_call {x u : Nat} (q : Rf m h r N v L a w) (hl : L.length ≤ 1000000) (hx : x < N) (hu : u < 256)
    (hK : ∀ h' v', Rf m h' r N v' (setL L x u) a (toW a w x 1) → RCh h h' r v → VCh h v v' → K (.tuple #[]) h') : ACall prog 61 [ptr r, .int .u64 x, .int .u8 u] h K := by
  refine acallF_of tb0 func61 rfl rfl mixed (by kernel_rfl) fun hwf => ?_
  have hb := q.blk
  have hN := q.N1
  have ha := q.a1
  have hw : 0 ≤ w := by have := q.w0; omega
  rw [toW_one a w x hw] at hK
  by_cases h0 : 0 < w
  · by_cases h1 : x / 8 = a / 8
    · have h1' : (x : Int) / 8 = a / 8 := by omega
      rw [if_pos ⟨h0, h1⟩] at hK
      have q1 := q.upd (a' := a) (w' := 0) ha (.inl rfl)
      have c1 := RCh.set h r v ⟨rfC N v a 0, 1, true⟩
      obtain ⟨H, hH⟩ : ∃ H, H = h.set r ⟨#[.int .u64 N, v, .int .u64 a, .int .i64 0], 1, true⟩ := ⟨_, rfl⟩
      rw [show h.set r ⟨rfC N v a 0, 1, true⟩ = H from hH.symm] at q1 c1
      simp -dsimp (disch := omega) [hb, h0, h1', ← hH]
      refine awpF_of (set_loop q1 hl hx hu (by simp) (by simp) (by simp) (by simp) (fun t h' q2 c2 => ?_) (fun t g0 g1 g2 hnew => ?_))
      · simp -dsimp (disch := omega)
        exact RetF.all (by simp) (hK _ _ q2 (c1.trans c2 (VCh.refl _ _)) (VCh.refl _ _))
      · have hset := setL_new hnew (v := u)
        have hb2 := q1.blk
        have hrl := q1.rlt
        have hmh := q1.mh
        simp -dsimp (disch := omega) [g0, g1, g2, hb2]
        refine app_row ((q1.row).alloc _) (by simp; omega) (src_slice _ _ _ _ _ #[.int .u64 x, .int .u8 u] (by simp)) (by omega) (by simp) (by unfold ROOM; omega) ?_
        intro v' h3 r3 n3 b3 s3
        obtain ⟨va, vc, rfl⟩ := r3.slice
        simp only [Hp.next_alloc] at n3 b3
        have hb3 : h3.blks r = some ⟨#[.int .u64 N, v, .int .u64 a, .int .i64 0], 1, true⟩ := by rw [s3 r (by simp; omega) q1.vr, blks_alloc_ne _ _ _ (by omega)]; exact hb2
        simp -dsimp (disch := omega) [g0, g1, g2, hb3]
        have hne : sblk (.slice va (L.length + 1) vc) ≠ some r := by rw [b3]; simp; omega
        have hle := c1.le
        refine RetF.all (r := .tuple #[]) ?_ (hK _ _ ⟨blks_set_eq _ _ _, Row.set (by rw [hset, List.length_append, bysC_snoc]; simpa [byC] using r3) _ _ hne, by simp; omega, q1.mr, by simp; omega, hne, q1.N1, q1.a1, q1.w0, fun e he => ?_, q1.uq.set _ _⟩ ⟨by simp; omega, fun i h1 h2 h3' => ?_⟩ fun b hb => .inr ?_)
        · simp
        · rcases mem_setL he with rfl | he
          · exact ⟨hx, hu⟩
          · exact q1.ok e he
        · rw [blks_set_ne _ _ _ _ h2, s3 i (by simp; omega) h3', blks_alloc_ne _ _ _ (by omega)]
          exact c1.same i h1 h2 h3'
        · rw [b3] at hb; cases hb; omega
    · have h1' : ¬ (x : Int) / 8 = a / 8 := by omega
      rw [if_neg (fun h => h1 h.2)] at hK
      have c1 := RCh.refl h r v
      simp -dsimp (disch := omega) [hb, h0, h1']
      refine awpF_of (set_loop q hl hx hu (by simp) (by simp) (by simp) (by simp) (fun t h' q2 c2 => ?_) (fun t g0 g1 g2 hnew => ?_))
      · simp -dsimp (disch := omega)
        exact RetF.all (by simp) (hK _ _ q2 (c1.trans c2 (VCh.refl _ _)) (VCh.refl _ _))
      · have hset := setL_new hnew (v := u)
        have hb2 := q.blk
        have hrl := q.rlt
        have hmh := q.mh
        simp -dsimp (disch := omega) [g0, g1, g2, hb2]
        refine app_row ((q.row).alloc _) (by simp; omega) (src_slice _ _ _ _ _ #[.int .u64 x, .int .u8 u] (by simp)) (by omega) (by simp) (by unfold ROOM; omega) ?_
        intro v' h3 r3 n3 b3 s3
        obtain ⟨va, vc, rfl⟩ := r3.slice
        simp only [Hp.next_alloc] at n3 b3
        have hb3 : h3.blks r = some ⟨#[.int .u64 N, v, .int .u64 a, .int .i64 w], 1, true⟩ := by rw [s3 r (by simp; omega) q.vr, blks_alloc_ne _ _ _ (by omega)]; exact hb2
        simp -dsimp (disch := omega) [g0, g1, g2, hb3]
        have hne : sblk (.slice va (L.length + 1) vc) ≠ some r := by rw [b3]; simp; omega
        have hle := c1.le
        refine RetF.all (r := .tuple #[]) ?_ (hK _ _ ⟨blks_set_eq _ _ _, Row.set (by rw [hset, List.length_append, bysC_snoc]; simpa [byC] using r3) _ _ hne, by simp; omega, q.mr, by simp; omega, hne, q.N1, q.a1, q.w0, fun e he => ?_, q.uq.set _ _⟩ ⟨by simp; omega, fun i h1 h2 h3' => ?_⟩ fun b hb => .inr ?_)
        · simp
        · rcases mem_setL he with rfl | he
          · exact ⟨hx, hu⟩
          · exact q.ok e he
        · rw [blks_set_ne _ _ _ _ h2, s3 i (by simp; omega) h3', blks_alloc_ne _ _ _ (by omega)]
        · rw [b3] at hb; cases hb; omega
  · rw [if_neg (fun h => h0 h.1)] at hK
    have c1 := RCh.refl h r v
    simp -dsimp (disch := omega) [hb, h0]
    refine awpF_of (set_loop q hl hx hu (by simp) (by simp) (by simp) (by simp) (fun t h' q2 c2 => ?_) (fun t g0 g1 g2 hnew => ?_))
    · simp -dsimp (disch := omega)
      exact RetF.all (by simp) (hK _ _ q2 (c1.trans c2 (VCh.refl _ _)) (VCh.refl _ _))
    · have hset := setL_new hnew (v := u)
      have hb2 := q.blk
      have hrl := q.rlt
      have hmh := q.mh
      simp -dsimp (disch := omega) [g0, g1, g2, hb2]
      refine app_row ((q.row).alloc _) (by simp; omega) (src_slice _ _ _ _ _ #[.int .u64 x, .int .u8 u] (by simp)) (by omega) (by simp) (by unfold ROOM; omega) ?_
      intro v' h3 r3 n3 b3 s3
      obtain ⟨va, vc, rfl⟩ := r3.slice
      simp only [Hp.next_alloc] at n3 b3
      have hb3 : h3.blks r = some ⟨#[.int .u64 N, v, .int .u64 a, .int .i64 w], 1, true⟩ := by rw [s3 r (by simp; omega) q.vr, blks_alloc_ne _ _ _ (by omega)]; exact hb2
      simp -dsimp (disch := omega) [g0, g1, g2, hb3]
      have hne : sblk (.slice va (L.length + 1) vc) ≠ some r := by rw [b3]; simp; omega
      have hle := c1.le
      refine RetF.all (r := .tuple #[]) ?_ (hK _ _ ⟨blks_set_eq _ _ _, Row.set (by rw [hset, List.length_append, bysC_snoc]; simpa [byC] using r3) _ _ hne, by simp; omega, q.mr, by simp; omega, hne, q.N1, q.a1, q.w0, fun e he => ?_, q.uq.set _ _⟩ ⟨by simp; omega, fun i h1 h2 h3' => ?_⟩ fun b hb => .inr ?_)
      · simp
      · rcases mem_setL he with rfl | he
        · exact ⟨hx, hu⟩
        · exact q.ok e he
      · rw [blks_set_ne _ _ _ _ h2, s3 i (by simp; omega) h3', blks_alloc_ne _ _ _ (by omega)]
      · rw [b3] at hb; cases hb; omega
end
end Go.Proofs.YtkbiadobkheafaaDoor.Rm
namespace Go.Proofs.YtkbiadobkheafaaDoor.Rm
set_option maxRecDepth 100000
open Go Go.Mini Go.Proofs.Tryd

theorem VCh.trans {h h' : Hp} {v v' v'' : Value} (x : VCh h v v') (y : VCh h' v' v'') (hn : h.next ≤ h'.next) : VCh h v v'' := fun b hb =>
  (y b hb).elim (fun e => x b e) fun e => .inr (by omega)
theorem shr8' (v k : Nat) (hk : k < 8) : ((v : Int).fdiv (2 ^ (min (8 * (k : Int)).toNat IntKind.u64.bits))) = ((v / 256 ^ k : Nat) : Int) := by
  rw [show IntKind.u64.bits = 64 from rfl, show min (8 * (k : Int)).toNat 64 = 8 * k from by omega, Int.fdiv_eq_ediv_of_nonneg _ (Int.le_of_lt (Int.pow_pos (by omega))), Int.pow_mul, show (2 : Int) ^ 8 = 256 from rfl]
  rw [Int.natCast_ediv, Int.natCast_pow]
  rfl
theorem shl8 (v k : Nat) (hv : v < 256) (hk : k < 8) : IntKind.u64.wrap ((v : Int) * 2 ^ (min (8 * (k : Int)).toNat IntKind.u64.bits)) = ((v * 256 ^ k : Nat) : Int) := by
  rw [show IntKind.u64.bits = 64 from rfl, show min (8 * (k : Int)).toNat 64 = 8 * k from by omega, Int.pow_mul, show (2 : Int) ^ 8 = 256 from rfl]
  have hp : 256 ^ k ≤ 256 ^ 7 := Nat.pow_le_pow_right (by omega) (by omega)
  have hm : v * 256 ^ k ≤ 255 * 256 ^ 7 := Nat.mul_le_mul (by omega) hp
  have e : (v : Int) * 256 ^ k = ((v * 256 ^ k : Nat) : Int) := by rw [Int.natCast_mul, Int.natCast_pow]; rfl
  rw [e, IntWalk.u64_in _ (by omega)]

section
variable {h : Hp} {m r N : Nat} {v : Value} {L : By} {a : Nat} {w : Int} {K : Value → Hp → Prop}

set_option maxRecDepth 100000 in
theorem rfWrite_call {x y : Nat} {n : Int} (q : Rf m h r N v L a w) (hl : L.length ≤ 900000) (hx : x < 18446744073709551616) (hy : y < 18446744073709551616)
    (hK1 : wok n ∧ x + n.toNat ≤ N → ∀ h' v', Rf m h' r N v' (setN L x (fun j => y / 256 ^ j % 256) n.toNat) a (toW a w x n.toNat) → RCh h h' r v → VCh h v v' → K (.bool true) h') (hK2 : ¬ (wok n ∧ x + n.toNat ≤ N) → K (.bool false) h) : ACall prog 43 [ptr r, .int .u64 x, .int .u64 y, .int .i64 n] h K := by
  refine acallF_of tb0 func43 rfl rfl mixed (by kernel_rfl) fun hwf => ?_
  have hN := q.N1
  by_cases hw : wok n
  · obtain ⟨s, rfl, hs0, hs8⟩ : ∃ s : Nat, n = s ∧ 0 < s ∧ s ≤ 8 := ⟨n.toNat, by unfold wok at hw; omega, by unfold wok at hw; omega, by unfold wok at hw; omega⟩
    rw [Int.toNat_natCast] at hK1 hK2
    simp -dsimp (disch := omega)
    refine width_call ?_
    rw [decide_eq_true hw]
    simp -dsimp (disch := omega)
    refine rfThere_call q ?_
    by_cases hxs : x + s ≤ N
    · have hK := hK1 ⟨hw, hxs⟩
      simp -dsimp (disch := omega) [hxs]
      refine awp_loop (fun t h' => ∃ (k : Nat) (v' : Value), k ≤ s ∧ Rf m h' r N v' (setN L x (fun j => y / 256 ^ j % 256) k) a (toW a w x k) ∧ RCh h h' r v ∧ VCh h v v' ∧ t 0 = ptr r ∧ t 1 = .int .u64 x ∧ t 2 = .int .u64 y ∧ t 3 = .int .i64 s ∧ t 9 = .int .i64 k) (fun t _ => s - ivN (t 9)) ?_ ?_
      · simp -dsimp (disch := omega)
        exact ⟨0, by omega, v, by rw [toW_zero]; exact q, RCh.refl _ _ _, VCh.refl _ _, rfl⟩
      · rintro t h' ⟨k, v', hk, q1, c1, vc1, g0, g1, g2, g3, g9⟩
        refine vcF_sound mixed (tb := tb0) _ (by kernel_rfl) ?_
        simp -dsimp (disch := omega) [g0, g1, g2, g3, g9]
        refine CondF_dec (fun hc2 => ?_) (fun hc2 => ?_)
        · have hk2 : k < s := by omega
          have e1 := shr8' y k (by omega)
          have hd2 : y / 256 ^ k % 256 = (y / 256 ^ k) % 256 := rfl
          obtain ⟨d, hd⟩ : ∃ d, d = y / 256 ^ k := ⟨_, rfl⟩
          rw [← hd] at e1
          have hdl : d < 18446744073709551616 := by rw [hd]; exact Nat.lt_of_le_of_lt (Nat.div_le_self _ _) hy
          simp -dsimp (disch := omega) [g0, g1, g2, g3, g9, e1]
          rw [show (x : Int) + k = ((x + k : Nat) : Int) from by omega, show (d : Int) % 256 = ((d % 256 : Nat) : Int) from by omega]
          have hsn := setN_length L x (fun j => y / 256 ^ j % 256) k
          refine rfSet_call q1 (by omega) (by omega) (by omega) fun h2 v2 q2 c2 vc2 => ?_
          simp -dsimp (disch := omega) [g0, g1, g2, g3, g9]
          refine ⟨⟨k + 1, by omega, v2, ?_, c1.trans c2 vc1, vc1.trans vc2 c1.le, by simp⟩, by simp [ivN]; omega⟩
          rw [toW_succ] at q2
          rw [hd] at q2
          exact q2
        · have : k = s := by omega
          subst this
          simp -dsimp (disch := omega) [g0, g1, g2, g3, g9]
          exact RetF.all (by simp) (hK _ _ q1 c1 vc1)
    · have hK := hK2 fun h => hxs h.2
      simp -dsimp (disch := omega) [hxs]
      exact RetF.same hwf (by simp) (Nat.zero_le _) (fun _ _ => rfl) hK
  · have hK := hK2 fun h => hw h.1
    simp -dsimp (disch := omega)
    refine width_call ?_
    rw [decide_eq_false hw]
    simp -dsimp (disch := omega)
    exact RetF.same hwf (by simp) (Nat.zero_le _) (fun _ _ => rfl) hK

set_option maxRecDepth 100000 in
theorem rfPut_call {x : Nat} {l : List UInt8} (q : Rf m h r N v L a w) (hL : L.length ≤ 900000) (hl : l.length < 9223372036854775808) (hx : x < 18446744073709551616)
    (hK1 : x + l.length ≤ N → ∀ h' v', Rf m h' r N v' (setN L x (fun j => ((l[j]?).getD 0).toNat) l.length) a (toW a w x l.length) → RCh h h' r v → VCh h v v' → K (.int .i64 0) h') (hK2 : ¬ x + l.length ≤ N → K (.int .i64 6) h) : ACall prog 82 [ptr r, .int .u64 x, .string (txt l)] h K := by
  refine acallF_of tb0 func82 rfl rfl mixed (by kernel_rfl) fun hwf => ?_
  have hN := q.N1
  obtain ⟨s, hs⟩ : ∃ s, s = l.length := ⟨_, rfl⟩
  have hz : (txt l).size = s := hs.symm
  rw [← hs] at hl hK1 hK2
  simp -dsimp (disch := omega) [hz]
  refine rfThere_call q ?_
  by_cases hxs : x + s ≤ N
  · have hK := hK1 hxs
    simp -dsimp (disch := omega) [hxs]
    refine awp_loop (fun t h' => ∃ (k : Nat) (v' : Value), k ≤ s ∧ Rf m h' r N v' (setN L x (fun j => ((l[j]?).getD 0).toNat) k) a (toW a w x k) ∧ RCh h h' r v ∧ VCh h v v' ∧ t 0 = ptr r ∧ t 1 = .int .u64 x ∧ t 2 = .string (txt l) ∧ t 7 = .int .i64 k) (fun t _ => s - ivN (t 7)) ?_ ?_
    · simp -dsimp (disch := omega)
      exact ⟨0, by omega, v, by rw [toW_zero]; exact q, RCh.refl _ _ _, VCh.refl _ _, rfl⟩
    · rintro t h' ⟨k, v', hk, q1, c1, vc1, g0, g1, g2, g7⟩
      refine vcF_sound mixed (tb := tb0) _ (by kernel_rfl) ?_
      simp -dsimp (disch := omega) [g0, g1, g2, g7, hz]
      refine CondF_dec (fun hc2 => ?_) (fun hc2 => ?_)
      · have hk2 : k < s := by omega
        have e1 : bAt (txt l) k = (((l[k]?).getD 0).toNat : Nat) := bAt_txt l k
        have e2 := UInt8.toNat_lt ((l[k]?).getD 0)
        obtain ⟨d, hd⟩ : ∃ d, d = ((l[k]?).getD 0).toNat := ⟨_, rfl⟩
        rw [← hd] at e1 e2
        simp -dsimp (disch := omega) [g0, g1, g2, g7, hz, e1]
        rw [show (x : Int) + k = ((x + k : Nat) : Int) from by omega]
        have hsn := setN_length L x (fun j => ((l[j]?).getD 0).toNat) k
        refine rfSet_call q1 (by omega) (by omega) (by omega) fun h2 v2 q2 c2 vc2 => ?_
        simp -dsimp (disch := omega) [g0, g1, g2, g7]
        refine ⟨⟨k + 1, by omega, v2, ?_, c1.trans c2 vc1, vc1.trans vc2 c1.le, by simp⟩, by simp [ivN]; omega⟩
        rw [toW_succ, hd] at q2
        exact q2
      · have : k = s := by omega
        subst this
        simp -dsimp (disch := omega) [g0, g1, g2, g7]
        exact RetF.all (by simp) (hK _ _ q1 c1 vc1)
  · have hK := hK2 hxs
    simp -dsimp (disch := omega) [hxs]
    exact RetF.same hwf (by simp) (Nat.zero_le _) (fun _ _ => rfl) hK

theorem bytesM_succ (M : Nat → Nat) (x n : Nat) : bytesM M x (n + 1) = bytesM M x n ++ [UInt8.ofNat (M (x + n))] := by
  unfold bytesM
  rw [List.range_succ, List.map_append]; rfl
set_option maxRecDepth 100000 in
theorem rfBytes_call {x n : Nat} (q : Rf m h r N v L a w) (hL : L.length ≤ 1000000) (hx : x < 18446744073709551616) (hn : n < 18446744073709551616)
    (hK1 : x + n ≤ N → ∀ h', Ext h h' → K (.tuple #[.string (txt (bytesM (look L) x n)), .int .i64 0]) h') (hK2 : ¬ x + n ≤ N → K (.tuple #[.string (txt []), .int .i64 6]) h) : ACall prog 83 [ptr r, .int .u64 x, .int .u64 n] h K := by
  refine acallF_of tb0 func83 rfl rfl mixed (by kernel_rfl) fun hwf => ?_
  have hN := q.N1
  have hM : ∀ i, look L i < 256 := look_lt fun e he => (q.ok e he).2
  simp -dsimp (disch := omega)
  refine rfThere_call q ?_
  by_cases hxs : x + n ≤ N
  · have hK := hK1 hxs
    simp -dsimp (disch := omega) [hxs]
    refine awp_loop (fun t h' => Ext h h' ∧ ∃ (k : Nat), k ≤ n ∧ t 0 = ptr r ∧ t 1 = .int .u64 x ∧ t 2 = .int .u64 n ∧ t 9 = .int .u64 k ∧ Row h.next h' 1 (bytesM (look L) x k).length ((bytesM (look L) x k).map byteV) (t 8)) (fun t _ => n - ivN (t 9)) ?_ ?_
    · simp -dsimp (disch := omega)
      exact ⟨Ext.refl _, 0, by omega, rfl, Row.nil _ _ _⟩
    · rintro t h' ⟨he, k, hk, g0, g1, g2, g9, hr⟩
      have he0 := he.le
      have qe : Rf m h' r N v L a w := ⟨by rw [he.same _ q.rlt]; exact q.blk, q.row.mono he.le fun b hb => he.same _ (q.row.blk b hb).2, Nat.lt_of_lt_of_le q.rlt he.le, q.mr, Nat.le_trans q.mh he.le, q.vr, q.N1, q.a1, q.w0, q.ok, q.uq⟩
      refine vcF_sound mixed (tb := tb0) _ (by kernel_rfl) ?_
      simp -dsimp (disch := omega) [g0, g1, g2, g9]
      refine CondF_dec (fun hc2 => ?_) (fun hc2 => ?_)
      · have hk2 : k < n := by omega
        simp -dsimp (disch := omega) [g0, g1, g2, g9]
        rw [show (x : Int) + k = ((x + k : Nat) : Int) from by omega]
        refine byte_call qe hL ?_
        have hm8 := hM (x + k)
        have hbs := bytesM_succ (look L) x k
        obtain ⟨c, hc⟩ : ∃ c, c = look L (x + k) := ⟨_, rfl⟩
        rw [← hc] at hm8 hbs
        rw [← hc]
        have hlen := bytesM_length (look L) x k
        have hcv : byteV (UInt8.ofNat c) = .int .u8 (c : Nat) := by unfold byteV; simp; omega
        simp -dsimp (disch := omega) [g0, g1, g2, g9]
        refine app_row (hr.alloc _) (by simp; omega) (src_slice _ _ _ _ _ #[.int .u8 c] (by simp)) (by omega) (by simp) (by unfold ROOM; omega) ?_
        intro v' h3 r3 n3 b3 s3
        simp only [Hp.next_alloc] at n3 b3
        simp -dsimp (disch := omega) [g0, g1, g2, g9]
        refine ⟨⟨⟨by omega, fun i hi => ?_⟩, k + 1, by omega, by simp, ?_⟩, by simp [ivN]; omega⟩
        · rw [s3 i (by simp; omega) fun e => by have := (hr.blk i e).1; omega, blks_alloc_ne _ _ _ (by omega)]
          exact he.same i hi
        · rw [hbs, List.length_append, List.map_append]
          simpa [hcv] using r3
      · have : k = n := by omega
        subst this
        obtain ⟨ra, rc, hre⟩ := hr.slice
        simp -dsimp (disch := omega) [g0, g1, g2, g9]
        refine conv_row hr ?_
        simp -dsimp (disch := omega) [g0, g1, g2, g9]
        exact RetF.all (by simp) (hK _ he)
  · have hK := hK2 hxs
    simp -dsimp (disch := omega) [hxs]
    exact RetF.same hwf (by simp) (by simp [vtop, vtopL]) (fun _ _ => rfl) hK
end
end Go.Proofs.YtkbiadobkheafaaDoor.Rm
