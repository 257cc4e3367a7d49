/-
  Words: a memory of some; Read, Write, of.
-/
import Derived.Test.YtkddajmfljlhiaaW2
set_option linter.unusedSimpArgs false
set_option linter.unusedVariables false
namespace Go.Proofs.Ytkddajmfljlhiaa
open Go Go.Mini Go.Proofs.Try

theorem flat_at {α : Type} {f : α → List Value} {n : Nat} (hf : ∀ x, (f x).length = n) (l : List α) : ∀ (k : Nat) (e : α), l[k]? = some e → ∀ j, j < n → (l.flatMap f)[k * n + j]? = (f e)[j]? := by
  induction l with
  | nil => intro k e h; simp at h
  | cons x l ih =>
    intro k e h j hj
    have hx := hf x
    cases k with
    | zero =>
      simp only [List.getElem?_cons_zero, Option.some.injEq] at h
      subst h
      rw [List.flatMap_cons, Nat.zero_mul, Nat.zero_add, List.getElem?_append_left (by omega)]
    | succ k =>
      have := ih k e (by simpa using h) j hj
      rw [List.flatMap_cons, List.getElem?_append_right (by rw [hx, Nat.succ_mul]; omega), hx, Nat.succ_mul, show k * n + n + j - n = k * n + j from by omega, this]

structure Wd where
  a : Nat
  v : Nat
  r : Bool
  w : Bool
def Wd.ok (e : Wd) : Prop := e.a < 18446744073709551616 ∧ e.v < 18446744073709551616
def wdC (e : Wd) : List Value := [.int .u64 e.a, .int .u64 e.v, .bool e.r, .bool e.w]
theorem wdC_len (e : Wd) : (wdC e).length = 4 := rfl
def wdsC (l : List Wd) : List Value := l.flatMap wdC
theorem wdsC_length (l : List Wd) : (wdsC l).length = l.length * 4 := by
  induction l with
  | nil => rfl
  | cons e l ih =>
    have : wdsC (e :: l) = wdC e ++ wdsC l := rfl
    rw [this, List.length_append, ih, wdC_len, List.length_cons]; omega
theorem wdsC_set (l : List Wd) : ∀ (i : Nat) (e : Wd) (v : Nat), l[i]? = some e → (wdsC l).toArray.setIfInBounds (i * 4 + 1) (.int .u64 v) = (wdsC (l.set i { e with v := v })).toArray := by
  intro i e v hi
  apply Array.ext_getElem?
  intro j
  have hil : i < l.length := (List.getElem?_eq_some_iff.1 hi).1
  by_cases hj : j < l.length * 4
  · obtain ⟨q, d, rfl, hd⟩ : ∃ q d, j = q * 4 + d ∧ d < 4 := ⟨j / 4, j % 4, by omega, by omega⟩
    have hq : q < l.length := by omega
    by_cases hqi : q = i
    · subst hqi
      have hr : (wdsC (l.set q { e with v := v })).toArray[q * 4 + d]? = (wdC { e with v := v })[d]? := by
        rw [List.getElem?_toArray]
        exact flat_at wdC_len _ _ _ (by rw [List.getElem?_set_self hil]) d hd
      rw [hr]
      by_cases h1 : d = 1
      · subst h1
        rw [Array.getElem?_setIfInBounds_self_of_lt (by simp [wdsC_length]; omega)]
        rfl
      · rw [Array.getElem?_setIfInBounds_ne (by omega), List.getElem?_toArray]
        have := flat_at wdC_len l q _ hi d hd
        rw [show (wdsC l)[q * 4 + d]? = (wdC e)[d]? from this]
        rcases (by omega : d = 0 ∨ d = 2 ∨ d = 3) with rfl | rfl | rfl <;> rfl
    · have hr : (wdsC (l.set i { e with v := v })).toArray[q * 4 + d]? = (wdC (l[q]'hq))[d]? := by
        rw [List.getElem?_toArray]
        exact flat_at wdC_len _ _ _ (by rw [List.getElem?_set_ne (Ne.symm hqi)]; exact List.getElem?_eq_getElem hq) d hd
      rw [hr, Array.getElem?_setIfInBounds_ne (by omega), List.getElem?_toArray]
      exact flat_at wdC_len l q _ (List.getElem?_eq_getElem hq) d hd
  · rw [Array.getElem?_eq_none (by simp [wdsC_length]; omega), Array.getElem?_eq_none (by simp [wdsC_length]; omega)]

/-- The first word of an address. -/
def at1 : List Wd → Nat → Option Wd
  | [], _ => none
  | e :: l, x => if e.a = x then some e else at1 l x
def rdV (l : List Wd) (x : Nat) : Nat := match at1 l x with | some e => e.v | none => 0
def rdB (l : List Wd) (x : Nat) : Bool := match at1 l x with | some e => e.r | none => false
def wrB (l : List Wd) (x : Nat) : Bool := match at1 l x with | some e => e.w | none => false
/-- A word is written. -/
def put1 : List Wd → Nat → Nat → List Wd
  | [], _, _ => []
  | e :: l, x, v => if e.a = x then { e with v := v } :: l else e :: put1 l x v
theorem at1_first {l : List Wd} {i : Nat} {e : Wd} (hi : l[i]? = some e) (h : ∀ d ∈ l.take i, d.a ≠ e.a) : at1 l e.a = some e := by
  induction l generalizing i with
  | nil => simp at hi
  | cons d l ih =>
    simp only [at1]
    cases i with
    | zero => simp only [List.getElem?_cons_zero, Option.some.injEq] at hi; subst hi; rw [if_pos rfl]
    | succ i =>
      rw [if_neg (h d (by simp))]
      exact ih (by simpa using hi) fun d hd => h d (by simp [hd])
theorem at1_none {l : List Wd} {x : Nat} (h : ∀ e ∈ l, e.a ≠ x) : at1 l x = none := by
  induction l with
  | nil => rfl
  | cons d l ih =>
    simp only [at1]
    rw [if_neg (h d (by simp))]
    exact ih fun e he => h e (by simp [he])
theorem put1_first {l : List Wd} {i v : Nat} {e : Wd} (hi : l[i]? = some e) (h : ∀ d ∈ l.take i, d.a ≠ e.a) : put1 l e.a v = l.set i { e with v := v } := by
  induction l generalizing i with
  | nil => simp at hi
  | cons d l ih =>
    simp only [put1]
    cases i with
    | zero => simp only [List.getElem?_cons_zero, Option.some.injEq] at hi; subst hi; rw [if_pos rfl]; rfl
    | succ i =>
      rw [if_neg (h d (by simp)), ih (by simpa using hi) fun d hd => h d (by simp [hd])]
      rfl
theorem put1_length (l : List Wd) (x v : Nat) : (put1 l x v).length = l.length := by
  induction l with
  | nil => rfl
  | cons d l ih => simp only [put1]; split <;> simp [ih]

theorem put1_ok {l : List Wd} {x v : Nat} (h : ∀ e ∈ l, e.ok) (hv : v < 18446744073709551616) : ∀ e ∈ put1 l x v, e.ok := by
  induction l with
  | nil => exact h
  | cons d l ih =>
    simp only [put1]
    have hd := h d (by simp)
    split
    · intro e he
      rcases List.mem_cons.1 he with rfl | he
      · exact ⟨hd.1, hv⟩
      · exact h e (by simp [he])
    · intro e he
      rcases List.mem_cons.1 he with rfl | he
      · exact hd
      · exact ih (fun e he => h e (by simp [he])) e he
theorem at1_mem {l : List Wd} {x : Nat} {e : Wd} (h : at1 l x = some e) : e ∈ l ∧ e.a = x := by
  induction l with
  | nil => simp [at1] at h
  | cons d l ih =>
    simp only [at1] at h
    split at h
    · cases h; rename_i hx; exact ⟨by simp, hx⟩
    · obtain ⟨h1, h2⟩ := ih h; exact ⟨by simp [h1], h2⟩
theorem at1_ok {l : List Wd} (h : ∀ e ∈ l, e.ok) (x : Nat) : rdV l x < 18446744073709551616 := by
  unfold rdV
  cases hx : at1 l x with
  | none => simp
  | some e => exact (h e (at1_mem hx).1).2
/-- A memory of words. -/
structure Mem (m : Nat) (h : Hp) (mp : Nat) (v : Value) (L : List Wd) (n : Nat) : Prop where
  blk : h.blks mp = some ⟨#[v, .int .i64 n], 1, true⟩
  row : Row m h 4 L.length (wdsC L) v
  lt : mp < h.next
  mm : m ≤ mp
  mh : m ≤ h.next
  vr : sblk v ≠ some mp
  ok : ∀ e ∈ L, e.ok

section
variable {h : Hp} {m mp : Nat} {v : Value} {L : List Wd} {n : Nat} {K : Value → Hp → Prop}
theorem row_el {i : Nat} {e : Wd} (hr : Row m h 4 L.length (wdsC L) v) (hi : L[i]? = some e) :
    ∃ b, v = .slice (some ⟨b, 0, none⟩) L.length (2 * L.length + 1) ∧ h.blks b = some ⟨(wdsC L).toArray, 4, true⟩ ∧ (wdsC L).toArray[i * 4]? = some (.int .u64 e.a) ∧ (wdsC L).toArray[i * 4 + 1]? = some (.int .u64 e.v) ∧ (wdsC L).toArray[i * 4 + 2]? = some (.bool e.r) ∧ (wdsC L).toArray[i * 4 + 3]? = some (.bool e.w) := by
  have hlt : i < L.length := (List.getElem?_eq_some_iff.1 hi).1
  obtain ⟨h0, ⟨rfl, hz⟩ | ⟨b, h1, h2, rfl, h3⟩⟩ := hr
  · omega
  · refine ⟨b, rfl, h3, ?_, ?_, ?_, ?_⟩
    · rw [List.getElem?_toArray]; exact flat_at wdC_len L i e hi 0 (by omega)
    · rw [List.getElem?_toArray]; exact flat_at wdC_len L i e hi 1 (by omega)
    · rw [List.getElem?_toArray]; exact flat_at wdC_len L i e hi 2 (by omega)
    · rw [List.getElem?_toArray]; exact flat_at wdC_len L i e hi 3 (by omega)

theorem wRead_call {x : Nat} (q : Mem m h mp v L n) (hl : L.length ≤ 1000) (hK : K (.tuple #[.int .u64 (rdV L x), .bool (rdB L x)]) h) : ACall prog 57 [ptr mp, .int .u64 x] h K := by
  refine acallF_of tb0 func57 rfl rfl mixed (by kernel_rfl) fun hwf => ?_
  have hb := q.blk
  obtain ⟨k0, hk0⟩ : ∃ n, n = L.length := ⟨_, rfl⟩
  obtain ⟨va, vc, hv⟩ := q.row.slice
  rw [← hk0] at hl hv
  subst hv
  simp -dsimp (disch := omega)
  refine awp_loop (fun t h' => h' = h ∧ ∃ k : Nat, k ≤ k0 ∧ t 0 = ptr mp ∧ t 1 = .int .u64 x ∧ t 6 = .int .i64 k ∧ ∀ e ∈ L.take k, e.a ≠ x) (fun t _ => k0 - ivN (t 6)) ?_ ?_
  · simp -dsimp (disch := omega)
    exact ⟨0, by omega, rfl, by simp⟩
  · rintro t h' ⟨rfl, k, hk, g0, g1, g6, hall⟩
    refine vcF_sound mixed (tb := tb0) _ (by kernel_rfl) ?_
    by_cases hc : k < k0
    · obtain ⟨e, hx⟩ : ∃ e, L[k]? = some e := ⟨_, List.getElem?_eq_getElem (hk0 ▸ hc)⟩
      obtain ⟨b, e1, e2, e3, e4, e5, e6⟩ := row_el q.row hx
      cases e1
      by_cases hxy : e.a = x
      · subst hxy
        have hf := at1_first hx hall
        have r1 : rdV L e.a = e.v := by unfold rdV; rw [hf]
        have r2 : rdB L e.a = e.r := by unfold rdB; rw [hf]
        rw [r1, r2] at hK
        simp -dsimp (disch := omega) [g0, g1, g6, hb, hc, e2, e3, e4, e5, -getElem?_pos]
        exact RetF.same (r := .tuple #[.int .u64 e.v, .bool e.r]) hwf (by simp) (by simp [vtop, vtopL]) (fun _ _ => rfl) hK
      · have hxy' : ¬ (e.a : Int) = x := by omega
        simp -dsimp (disch := omega) [g0, g1, g6, hb, hc, e2, e3, hxy, hxy', -getElem?_pos]
        refine ⟨⟨k + 1, by omega, by simp, fun d hd => ?_⟩, by simp [ivN]; omega⟩
        rw [List.take_add_one, hx] at hd
        rcases List.mem_append.1 hd with hd | hd
        · exact hall d hd
        · obtain rfl : d = e := by simpa using hd
          exact hxy
    · have hf := at1_none fun e he => hall e (by rw [show k = L.length from by omega, List.take_length]; exact he)
      have r1 : rdV L x = 0 := by unfold rdV; rw [hf]
      have r2 : rdB L x = false := by unfold rdB; rw [hf]
      rw [r1, r2] at hK
      simp -dsimp (disch := omega) [g0, g1, g6, hb, hc]
      exact RetF.same (r := .tuple #[.int .u64 0, .bool false]) hwf (by simp) (by simp [vtop, vtopL]) (fun _ _ => rfl) hK

theorem wWrite_call {x u : Nat} (q : Mem m h mp v L n) (hl : L.length ≤ 1000) (hn : n ≤ 1000) (hu : u < 18446744073709551616)
    (hK1 : wrB L x = true → ∀ h', Mem m h' mp v (put1 L x u) (n + 1) → h'.next = h.next → (∀ i, i ≠ mp → sblk v ≠ some i → h'.blks i = h.blks i) → K (.bool true) h') (hK2 : wrB L x = false → K (.bool false) h) : ACall prog 58 [ptr mp, .int .u64 x, .int .u64 u] h K := by
  refine acallF_of tb0 func58 rfl rfl mixed (by kernel_rfl) fun hwf => ?_
  have hb := q.blk
  obtain ⟨k0, hk0⟩ : ∃ n, n = L.length := ⟨_, rfl⟩
  obtain ⟨va, vc, hv⟩ := q.row.slice
  rw [← hk0] at hl hv
  subst hv
  simp -dsimp (disch := omega)
  refine awp_loop (fun t h' => h' = h ∧ ∃ k : Nat, k ≤ k0 ∧ t 0 = ptr mp ∧ t 1 = .int .u64 x ∧ t 2 = .int .u64 u ∧ t 7 = .int .i64 k ∧ ∀ e ∈ L.take k, e.a ≠ x) (fun t _ => k0 - ivN (t 7)) ?_ ?_
  · simp -dsimp (disch := omega)
    exact ⟨0, by omega, rfl, by simp⟩
  · rintro t h' ⟨rfl, k, hk, g0, g1, g2, g7, hall⟩
    refine vcF_sound mixed (tb := tb0) _ (by kernel_rfl) ?_
    by_cases hc : k < k0
    · obtain ⟨e, hx⟩ : ∃ e, L[k]? = some e := ⟨_, List.getElem?_eq_getElem (hk0 ▸ hc)⟩
      obtain ⟨b, e1, e2, e3, e4, e5, e6⟩ := row_el q.row hx
      cases e1
      by_cases hxy : e.a = x
      · subst hxy
        have hf := at1_first hx hall
        have r1 : wrB L e.a = e.w := by unfold wrB; rw [hf]
        rw [r1] at hK1 hK2
        have hbl := q.row.blk b rfl
        have hbm : ¬ b = mp := fun e => q.vr (by rw [e]; rfl)
        have hmb : ¬ mp = b := fun e => hbm e.symm
        cases hew : e.w
        · rw [hew] at e6
          simp -dsimp (disch := omega) [g0, g1, g2, g7, hb, hc, e2, e3, e6, -getElem?_pos]
          exact RetF.same (r := .bool false) hwf (by simp) (Nat.zero_le _) (fun _ _ => rfl) (hK2 hew)
        · rw [hew] at e6
          have hput := put1_first hx hall (v := u)
          have hcs := wdsC_set L k e u hx
          have hcs' : (wdsC L).set (k * 4 + 1) (.int .u64 u) = wdsC (put1 L e.a u) := by rw [hput]; simpa using hcs
          have hle : k * 4 + 1 + 1 ≤ (wdsC L).length := by rw [wdsC_length]; omega
          have hsl := put1_length L e.a u
          have e6' : (wdsC (put1 L e.a u)).toArray[k * 4 + 3]? = some (.bool true) := by
            rw [List.getElem?_toArray, hput]
            have := flat_at wdC_len (L.set k { e with v := u }) k { e with v := u } (by rw [List.getElem?_set_self (hk0 ▸ hc)]) 3 (by omega)
            rw [show (wdsC (L.set k { e with v := u }))[k * 4 + 3]? = _ from this]
            rw [← hew]; rfl
          rw [List.getElem?_toArray] at e6'
          simp -dsimp (disch := omega) [g0, g1, g2, g7, hb, hc, e2, e3, e6, hcs', hle, hbm, hmb, e6', -getElem?_pos]
          refine RetF.all (r := .bool true) (by simp) (hK1 hew _ ⟨by rw [blks_set_eq]; rfl, ⟨by rw [wdsC_length], .inr ⟨b, hbl.1, hbl.2, by rw [hsl], ?_⟩⟩, q.lt, q.mm, q.mh, q.vr, fun d hd => ?_⟩ rfl fun i h1 h2 => ?_)
          · rw [blks_set_ne _ _ _ _ hbm]; exact blks_set_eq _ _ _
          · exact put1_ok q.ok hu d hd
          · rw [blks_set_ne _ _ _ _ h1, blks_set_ne _ _ _ _ (fun e => h2 (by rw [e]; rfl))]
      · have hxy' : ¬ (e.a : Int) = x := by omega
        simp -dsimp (disch := omega) [g0, g1, g2, g7, hb, hc, e2, e3, hxy, hxy', -getElem?_pos]
        refine ⟨⟨k + 1, by omega, by simp, fun d hd => ?_⟩, by simp [ivN]; omega⟩
        rw [List.take_add_one, hx] at hd
        rcases List.mem_append.1 hd with hd | hd
        · exact hall d hd
        · obtain rfl : d = e := by simpa using hd
          exact hxy
    · have hf := at1_none fun e he => hall e (by rw [show k = L.length from by omega, List.take_length]; exact he)
      have r1 : wrB L x = false := by unfold wrB; rw [hf]
      simp -dsimp (disch := omega) [g0, g1, g2, g7, hb, hc]
      exact RetF.same (r := .bool false) hwf (by simp) (Nat.zero_le _) (fun _ _ => rfl) (hK2 r1)

theorem row_src {m : Nat} {h : Hp} {esz n : Nat} {cs : List Value} {v : Value} (hr : Row m h esz n cs v) : srcCells h esz v = some (n, cs.toArray) := by
  obtain ⟨h0, ⟨rfl, rfl⟩ | ⟨b, h1, h2, rfl, h3⟩⟩ := hr
  · have : cs = [] := List.length_eq_zero_iff.1 (by simpa using h0)
    subst this
    rfl
  · apply src_slice
    unfold Mini.rowAt
    rw [h3]
    simp [← h0]
/-- Appending any number. -/
theorem app_any {m : Nat} {h : Hp} {esz bytes n : Nat} {cs : List Value} {v x : Value} {k : Nat} {new : Array Value} {K : Value → Hp → Prop} {u : Tag K} (hr : Row m h esz n cs v) (hm : m ≤ h.next) (hx : srcCells h esz x = some (k, new)) (hsz : new.size = k * esz) (room : (n + k) * bytes ≤ ROOM ∧ n + k ≤ ROOM)
    (hK : ∀ v' h', Row m h' esz (n + k) (cs ++ new.toList) v' → h.next ≤ h'.next → (∀ b, sblk v' = some b → sblk v = some b ∨ h.next ≤ b) → (∀ i, i < h.next → sblk v ≠ some i → h'.blks i = h.blks i) → K v' h') : OptF (aappend h esz bytes v x) K u := by
  rcases Nat.eq_zero_or_pos k with rfl | hk
  · have hnew : new = #[] := Array.size_eq_zero_iff.1 (by simpa using hsz)
    subst hnew
    have hr' : Row m h esz (n + 0) (cs ++ (#[] : Array Value).toList) v := by simpa using hr
    have hgo : K v h := hK v h hr' (Nat.le_refl _) (fun b hb => .inl hb) (fun _ _ _ => rfl)
    obtain ⟨h0, ⟨rfl, rfl⟩ | ⟨b, h1, h2, rfl, h3⟩⟩ := hr
    · unfold aappend
      simp only [hx]
      rw [if_pos ⟨trivial, trivial⟩, if_pos trivial]
      exact hgo
    · unfold aappend
      simp only [hx]
      rw [if_pos (by omega), if_pos trivial]
      exact hgo
  · exact app_row hr hm hx hk hsz room fun v' h' r1 r2 r3 r4 => hK v' h' r1 (by omega) (fun b hb => .inr (by rw [r3] at hb; cases hb; exact Nat.le_refl _)) r4

/-- What a slice that comes in gives to an append. -/
theorem sl_src {h : Hp} {esz n : Nat} {cs : List Value} {v : Value} (hv : Sl h esz n cs v) : ∃ new : Array Value, srcCells h esz v = some (n, new) ∧ new.toList = cs := by
  obtain ⟨h0, ⟨_, _, rfl, rfl⟩ | ⟨a, c, b, rfl, h2, h3, h4⟩⟩ := hv
  · have : cs = [] := List.length_eq_zero_iff.1 (by simpa using h0)
    subst this
    exact ⟨#[], src_zero _ _ _ _, rfl⟩
  · refine ⟨b.cells.extract a.off (a.off + n * esz), ?_, ?_⟩
    · apply src_slice
      unfold Mini.rowAt
      rw [h2]
      simp only
      rw [if_pos h3]
    · apply List.ext_getElem?
      intro i
      rw [Array.getElem?_toList, Array.getElem?_extract]
      by_cases hi : i < n * esz
      · rw [if_pos (by omega)]; exact h4 i hi
      · rw [if_neg (by omega)]; symm; simp; omega
theorem of_call {l : List Wd} {v : Value} (hv : Sl h 4 l.length (wdsC l) v) (hvb : ∀ b, sblk v = some b → b < h.next) (hl : l.length ≤ 1000) (hok : ∀ e ∈ l, e.ok) (hK : ∀ h' mp v', Ext h h' → Mem h.next h' mp v' l 0 → K (ptr mp) h') : ACall prog 8 [v] h K := by
  refine acallF_of tb0 func8 rfl rfl mixed (by kernel_rfl) fun hwf => ?_
  obtain ⟨va, vc, hve⟩ := hv.slice
  subst hve
  have hv2 : Sl (h.alloc ⟨#[.slice none 0 0, .int .i64 0], 1, true⟩) 4 l.length (wdsC l) (.slice va l.length vc) := hv.mono fun b hb => blks_alloc_ne _ _ _ (by have := hvb b hb; omega)
  obtain ⟨new, hs, hn⟩ := sl_src hv2
  simp -dsimp (disch := omega)
  have hsz : new.size = l.length * 4 := by rw [← Array.length_toList, hn, wdsC_length]
  refine app_any (m := h.next) (n := 0) (cs := []) (Row.nil _ _ _) (by simp) hs hsz (by unfold ROOM; omega) ?_
  intro v' h3 r3 n3 b3 s3
  obtain ⟨va3, vc3, rfl⟩ := r3.slice
  simp only [Hp.next_alloc] at n3
  have hb3 : h3.blks h.next = some ⟨#[.slice none 0 0, .int .i64 0], 1, true⟩ := by
    rw [s3 h.next (by simp) (by simp [sblk]), blks_alloc_eq]
  simp -dsimp (disch := omega) [hb3]
  have hne : sblk (.slice va3 (0 + l.length) vc3) ≠ some h.next := fun e => by
    rcases b3 _ e with e | e
    · simp [sblk] at e
    · simp only [Hp.next_alloc] at e; omega
  simp only [Nat.zero_add, List.nil_append, hn] at hne r3
  refine RetF.all (r := ptr h.next) (by simp) (hK _ _ (.slice va3 l.length vc3) ⟨by simp; omega, fun i hi => ?_⟩ ⟨blks_set_eq _ _ _, Row.set r3 _ _ hne, by simp; omega, Nat.le_refl _, by simp; omega, hne, hok⟩)
  rw [blks_set_ne _ _ _ _ (by omega), s3 i (by simp; omega) (by simp [sblk]), blks_alloc_ne _ _ _ (by omega)]
end
end Go.Proofs.Ytkddajmfljlhiaa
