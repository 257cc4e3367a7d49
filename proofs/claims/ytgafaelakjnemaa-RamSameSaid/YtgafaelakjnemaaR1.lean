/-
  The document's memory: New, width, There, Byte, Held, Clear, Reserve.
-/
import Derived.Test.YtgafaelakjnemaaB6
import Derived.Test.YtgafaelakjnemaaP1
set_option linter.unusedSimpArgs false
set_option linter.unusedVariables false
namespace Go.Proofs.Ytgafaelakjnemaa
open Go Go.Mini Go.Proofs.Try

def byC (e : Nat × Nat) : List Value := [.int .u64 e.1, .int .u8 e.2]
theorem byC_len (e : Nat × Nat) : (byC e).length = 2 := rfl
def bysC (l : By) : List Value := l.flatMap byC
theorem bysC_length (l : By) : (bysC l).length = l.length * 2 := by
  induction l with
  | nil => rfl
  | cons e l ih =>
    have : bysC (e :: l) = byC e ++ bysC l := rfl
    rw [this, List.length_append, ih, byC_len, List.length_cons]; omega
theorem bysC_snoc (l : By) (e : Nat × Nat) : bysC (l ++ [e]) = bysC l ++ byC e := by simp [bysC]
theorem bysC_set (l : By) : ∀ (i : Nat) (x u v : Nat), l[i]? = some (x, u) → (bysC l).toArray.setIfInBounds (i * 2 + 1) (.int .u8 v) = (bysC (l.set i (x, v))).toArray := by
  intro i x u v hi
  apply Array.ext_getElem?
  intro j
  have hil : i < l.length := (List.getElem?_eq_some_iff.1 hi).1
  by_cases hj : j < l.length * 2
  · obtain ⟨q, d, rfl, hd⟩ : ∃ q d, j = q * 2 + d ∧ d < 2 := ⟨j / 2, j % 2, by omega, by omega⟩
    have hq : q < l.length := by omega
    by_cases hqi : q = i
    · subst hqi
      have hr : (bysC (l.set q (x, v))).toArray[q * 2 + d]? = (byC (x, v))[d]? := by
        rw [List.getElem?_toArray]
        exact flat_at byC_len _ _ _ (by rw [List.getElem?_set_self hil]) d hd
      rw [hr]
      by_cases h0 : d = 1
      · subst h0
        rw [Array.getElem?_setIfInBounds_self_of_lt (by simp [bysC_length]; omega)]
        rfl
      · obtain rfl : d = 0 := by omega
        rw [Array.getElem?_setIfInBounds_ne (by omega), List.getElem?_toArray]
        have := flat_at byC_len l q _ hi 0 (by omega)
        exact this
    · have hr : (bysC (l.set i (x, v))).toArray[q * 2 + d]? = (byC (l[q]'hq))[d]? := by
        rw [List.getElem?_toArray]
        exact flat_at byC_len _ _ _ (by rw [List.getElem?_set_ne (Ne.symm hqi)]; exact List.getElem?_eq_getElem hq) d hd
      rw [hr, Array.getElem?_setIfInBounds_ne (by omega), List.getElem?_toArray]
      exact flat_at byC_len l q _ (List.getElem?_eq_getElem hq) d hd
  · rw [Array.getElem?_eq_none (by simp [bysC_length]; omega), Array.getElem?_eq_none (by simp [bysC_length]; omega)]

def rfC (N : Nat) (v : Value) (a : Nat) (w : Int) : Array Value := #[.int .u64 N, v, .int .u64 a, .int .i64 w]
/-- The document's memory. -/
structure Rf (m : Nat) (h : Hp) (r N : Nat) (v : Value) (L : By) (a : Nat) (w : Int) : Prop where
  blk : h.blks r = some ⟨#[.int .u64 N, v, .int .u64 a, .int .i64 w], 1, true⟩
  row : Row m h 2 L.length (bysC L) v
  rlt : r < h.next
  mr : m ≤ r
  mh : m ≤ h.next
  vr : sblk v ≠ some r
  N1 : N ≤ 65536
  a1 : a < 65536
  w0 : w = 0 ∨ w = 4 ∨ w = 8
  ok : ∀ e ∈ L, e.1 < N ∧ e.2 < 256
  uq : Uniq L
/-- What else stands is as it was. -/
structure RCh (h h' : Hp) (r : Nat) (v : Value) : Prop where
  le : h.next ≤ h'.next
  same : ∀ i, i < h.next → i ≠ r → sblk v ≠ some i → h'.blks i = h.blks i
theorem RCh.refl (h : Hp) (r : Nat) (v : Value) : RCh h h r v := ⟨Nat.le_refl _, fun _ _ _ _ => rfl⟩
theorem RCh.trans {h h' h'' : Hp} {r : Nat} {v v' : Value} (x : RCh h h' r v) (y : RCh h' h'' r v') (hv : ∀ b, sblk v' = some b → sblk v = some b ∨ h.next ≤ b) : RCh h h'' r v :=
  ⟨Nat.le_trans x.le y.le, fun i h1 h2 h3 => by
    rw [y.same i (by have := x.le; omega) h2 fun e => (hv i e).elim (fun e => h3 e) fun e => by omega, x.same i h1 h2 h3]⟩
/-- Where the list may lie. -/
def VCh (h : Hp) (v v' : Value) : Prop := ∀ b, sblk v' = some b → sblk v = some b ∨ h.next ≤ b
theorem VCh.refl (h : Hp) (v : Value) : VCh h v v := fun _ hb => .inl hb

section
variable {h : Hp} {m r N : Nat} {v : Value} {L : By} {a : Nat} {w : Int} {K : Value → Hp → Prop}

theorem rfNew_call {n : Nat} (h2 : n ≤ 16) (hK : ∀ h' r, Ext h h' → h.next ≤ r → Rf h.next h' r (n * 4096) (.slice none 0 0) [] 0 0 → K (ptr r) h') : ACall prog 19 [.int .i64 n] h K := by
  refine acallF_of tb0 func19 rfl rfl mixed (by kernel_rfl) fun hwf => ?_
  obtain ⟨N, hN⟩ : ∃ N : Nat, N = n * 4096 := ⟨_, rfl⟩
  have hN' : (n : Int) * 4096 = N := by omega
  simp -dsimp (disch := omega) [hN']
  refine RetF.all (r := ptr h.next) (by simp) (hK _ _ (Ext.alloc h _) (Nat.le_refl _) ?_)
  rw [← hN]
  exact ⟨blks_alloc_eq _ _, Row.nil _ _ _, by simp, Nat.le_refl _, by simp, by simp [sblk], by omega, by omega, .inl rfl, by simp, trivial⟩

theorem width_call {n : Int} (hK : K (.bool (decide (wok n))) h) : ACall prog 49 [.int .i64 n] h K := by
  refine acallF_of tb0 func49 rfl rfl mixed (by kernel_rfl) fun hwf => ?_
  by_cases hw : wok n
  · rw [decide_eq_true hw] at hK
    obtain rfl | rfl | rfl | rfl := hw
    all_goals
      simp -dsimp (disch := omega)
      exact RetF.same hwf (by simp) (Nat.zero_le _) (fun _ _ => rfl) hK
  · rw [decide_eq_false hw] at hK
    unfold wok at hw
    have h1 : ¬ n = 1 := by omega
    have h2 : ¬ n = 2 := by omega
    have h4 : ¬ n = 4 := by omega
    have h8 : ¬ n = 8 := by omega
    simp -dsimp (disch := omega) [h1, h2, h4, h8]
    exact RetF.same hwf (by simp) (Nat.zero_le _) (fun _ _ => rfl) hK

set_option maxRecDepth 100000 in
theorem rfThere_call {x n : Nat} (q : Rf m h r N v L a w) (hK : K (.bool (decide (x + n ≤ N))) h) : ACall prog 50 [ptr r, .int .u64 x, .int .u64 n] h K := by
  refine acallF_of tb0 func50 rfl rfl mixed (by kernel_rfl) fun hwf => ?_
  have hb := q.blk
  have h1 := q.N1
  by_cases hx : x ≤ N
  · have hx' : (x : Int) ≤ N := by omega
    by_cases hn : x + n ≤ N
    · have hn' : (n : Int) ≤ N - x := by omega
      rw [decide_eq_true hn] at hK
      simp -dsimp (disch := omega) [hb, hx, hx', hn, hn']
      exact RetF.same hwf (by simp) (Nat.zero_le _) (fun _ _ => rfl) hK
    · have hn' : ¬ (n : Int) ≤ N - x := by omega
      rw [decide_eq_false hn] at hK
      simp -dsimp (disch := omega) [hb, hx, hx', hn, hn']
      exact RetF.same hwf (by simp) (Nat.zero_le _) (fun _ _ => rfl) hK
  · have hx' : ¬ (x : Int) ≤ N := by omega
    rw [decide_eq_false (by omega)] at hK
    simp -dsimp (disch := omega) [hb, hx, hx']
    exact RetF.same hwf (by simp) (Nat.zero_le _) (fun _ _ => rfl) hK

theorem row_el {i : Nat} {e : Nat × Nat} (hr : Row m h 2 L.length (bysC L) v) (hi : L[i]? = some e) :
    ∃ b, v = .slice (some ⟨b, 0, none⟩) L.length (2 * L.length + 1) ∧ h.blks b = some ⟨(bysC L).toArray, 2, true⟩ ∧ (bysC L).toArray[i * 2]? = some (.int .u64 e.1) ∧ (bysC L).toArray[i * 2 + 1]? = some (.int .u8 e.2) := by
  have hlt : i < L.length := (List.getElem?_eq_some_iff.1 hi).1
  obtain ⟨h0, ⟨rfl, hz⟩ | ⟨b, h1, h2, rfl, h3⟩⟩ := hr
  · omega
  · refine ⟨b, rfl, h3, ?_, ?_⟩
    · rw [List.getElem?_toArray]; exact flat_at byC_len L i e hi 0 (by omega)
    · rw [List.getElem?_toArray]; exact flat_at byC_len L i e hi 1 (by omega)

theorem byte_call {x : Nat} (q : Rf m h r N v L a w) (hl : L.length ≤ 1000000) (hK : K (.int .u8 (look L x)) h) : ACall prog 51 [ptr r, .int .u64 x] h K := by
  refine acallF_of tb0 func51 rfl rfl mixed (by kernel_rfl) fun hwf => ?_
  have hb := q.blk
  obtain ⟨n, hn⟩ : ∃ n, n = L.length := ⟨_, rfl⟩
  obtain ⟨va, vc, hv⟩ := q.row.slice
  rw [← hn] at hl hv
  subst hv
  simp -dsimp (disch := omega)
  refine awp_loop (fun t h' => h' = h ∧ ∃ k : Nat, k ≤ n ∧ t 0 = ptr r ∧ t 1 = .int .u64 x ∧ t 5 = .int .i64 k ∧ ∀ e ∈ L.take k, e.1 ≠ x) (fun t _ => n - ivN (t 5)) ?_ ?_
  · simp -dsimp (disch := omega)
    exact ⟨0, by omega, rfl, by simp⟩
  · rintro t h' ⟨rfl, k, hk, g0, g1, g5, hall⟩
    refine vcF_sound mixed (tb := tb0) _ (by kernel_rfl) ?_
    by_cases hc : k < n
    · obtain ⟨e, hx⟩ : ∃ e, L[k]? = some e := ⟨_, List.getElem?_eq_getElem (hn ▸ hc)⟩
      obtain ⟨b, e1, e2, e3, e4⟩ := row_el q.row hx
      cases e1
      obtain ⟨y, z⟩ := e
      simp only at e3 e4
      by_cases hxy : y = x
      · have hlk : look L x = z := by
          have := look_first hx (by simpa [hxy] using hall)
          simpa [hxy] using this
        rw [hlk] at hK
        subst hxy
        simp -dsimp (disch := omega) [g0, g1, g5, hb, hc, e2, e3, e4, -getElem?_pos]
        exact RetF.same hwf (by simp) (Nat.zero_le _) (fun _ _ => rfl) hK
      · have hxy' : ¬ (y : Int) = x := by omega
        simp -dsimp (disch := omega) [g0, g1, g5, hb, hc, e2, e3, e4, hxy, hxy', -getElem?_pos]
        refine ⟨⟨k + 1, by omega, by simp, fun y' z' hd => ?_⟩, by simp [ivN]; omega⟩
        rw [List.take_add_one, hx] at hd
        rcases List.mem_append.1 hd with hd | hd
        · exact hall (y', z') hd
        · obtain ⟨rfl, rfl⟩ : y' = y ∧ z' = z := by simpa using hd
          exact hxy
    · have hlk : look L x = 0 := look_none fun e he => hall e (by rw [show k = L.length from by omega, List.take_length]; exact he)
      rw [hlk] at hK
      simp -dsimp (disch := omega) [g0, g1, g5, hb, hc]
      exact RetF.same hwf (by simp) (Nat.zero_le _) (fun _ _ => rfl) hK

set_option maxRecDepth 100000 in
theorem rfHeld_call {x : Nat} {n : Int} (q : Rf m h r N v L a w) (hK : K (.bool (decide (0 < w ∧ a = x ∧ w = n))) h) : ACall prog 24 [ptr r, .int .u64 x, .int .i64 n] h K := by
  refine acallF_of tb0 func24 rfl rfl mixed (by kernel_rfl) fun hwf => ?_
  have hb := q.blk
  by_cases h0 : 0 < w
  · by_cases h1 : a = x
    · have h1' : (a : Int) = x := by omega
      simp -dsimp (disch := omega) [hb, h0, h1, h1']
      refine RetF.same (r := .bool (decide (w = n))) hwf (by simp) (Nat.zero_le _) (fun _ _ => rfl) ?_
      rw [show decide (w = n) = decide (0 < w ∧ a = x ∧ w = n) from by rw [decide_eq_decide]; exact ⟨fun h => ⟨h0, h1, h⟩, fun h => h.2.2⟩]
      exact hK
    · have h1' : ¬ (a : Int) = x := by omega
      rw [decide_eq_false fun h => h1 h.2.1] at hK
      simp -dsimp (disch := omega) [hb, h0, h1, h1']
      exact RetF.same hwf (by simp) (Nat.zero_le _) (fun _ _ => rfl) hK
  · rw [decide_eq_false fun h => h0 h.1] at hK
    simp -dsimp (disch := omega) [hb, h0]
    exact RetF.same hwf (by simp) (Nat.zero_le _) (fun _ _ => rfl) hK

theorem Rf.upd {a' : Nat} {w' : Int} (q : Rf m h r N v L a w) (ha : a' < 65536) (hw : w' = 0 ∨ w' = 4 ∨ w' = 8) : Rf m (h.set r ⟨rfC N v a' w', 1, true⟩) r N v L a' w' :=
  ⟨blks_set_eq _ _ _, q.row.set _ _ q.vr, q.rlt, q.mr, q.mh, q.vr, q.N1, ha, hw, q.ok, q.uq⟩
theorem RCh.set (h : Hp) (r : Nat) (v : Value) (c : Blk) : RCh h (h.set r c) r v := ⟨Nat.le_refl _, fun i _ h2 _ => blks_set_ne _ _ _ _ h2⟩

theorem rfClear_call (q : Rf m h r N v L a w) (hK : ∀ h', Rf m h' r N (.slice none 0 0) [] a 0 → RCh h h' r v → K (.tuple #[]) h') : ACall prog 40 [ptr r] h K := by
  refine acallF_of tb0 func40 rfl rfl mixed (by kernel_rfl) fun hwf => ?_
  have hb := q.blk
  simp -dsimp (disch := omega) [hb]
  exact RetF.all (by simp) (hK _ ⟨blks_set_eq _ _ _, Row.nil _ _ _, q.rlt, q.mr, q.mh, by simp [sblk], q.N1, q.a1, .inl rfl, by simp, trivial⟩ (RCh.set _ _ _ _))

set_option maxRecDepth 100000 in
theorem rfReserve_call {x : Nat} {n : Int} (q : Rf m h r N v L a w) (hx : x < 18446744073709551616) (hK1 : cok N x n → ∀ h', Rf m h' r N v L x n → RCh h h' r v → K (.bool true) h') (hK2 : ¬ cok N x n → K (.bool false) h) : ACall prog 39 [ptr r, .int .u64 x, .int .i64 n] h K := by
  refine acallF_of tb0 func39 rfl rfl mixed (by kernel_rfl) fun hwf => ?_
  have hb := q.blk
  have hN := q.N1
  by_cases hw : n = 4 ∨ n = 8
  · obtain rfl | rfl := hw
    · by_cases hm : x % 4 = 0
      · have hm' : (x : Int) % 4 = 0 := by omega
        by_cases hx2 : x + 4 ≤ N
        · have hk := hK1 ⟨by omega, hx2, hm⟩
          simp -dsimp (disch := omega) [hb, hm, hm']
          refine rfThere_call q ?_
          simp -dsimp (disch := omega) [hb, hx2]
          exact RetF.all (by simp) (hk _ (q.upd (by omega) (by omega)) (RCh.set _ _ _ _))
        · have hk := hK2 fun h => hx2 h.2.1
          simp -dsimp (disch := omega) [hb, hm, hm']
          refine rfThere_call q ?_
          simp -dsimp (disch := omega) [hb, hx2]
          exact RetF.same hwf (by simp) (Nat.zero_le _) (fun _ _ => rfl) hk
      · have hm' : ¬ (x : Int) % 4 = 0 := by omega
        have hk := hK2 fun h => hm h.2.2
        simp -dsimp (disch := omega) [hb, hm, hm']
        exact RetF.same hwf (by simp) (Nat.zero_le _) (fun _ _ => rfl) hk
    · by_cases hm : x % 8 = 0
      · have hm' : (x : Int) % 8 = 0 := by omega
        by_cases hx2 : x + 8 ≤ N
        · have hk := hK1 ⟨by omega, hx2, hm⟩
          simp -dsimp (disch := omega) [hb, hm, hm']
          refine rfThere_call q ?_
          simp -dsimp (disch := omega) [hb, hx2]
          exact RetF.all (by simp) (hk _ (q.upd (by omega) (by omega)) (RCh.set _ _ _ _))
        · have hk := hK2 fun h => hx2 h.2.1
          simp -dsimp (disch := omega) [hb, hm, hm']
          refine rfThere_call q ?_
          simp -dsimp (disch := omega) [hb, hx2]
          exact RetF.same hwf (by simp) (Nat.zero_le _) (fun _ _ => rfl) hk
      · have hm' : ¬ (x : Int) % 8 = 0 := by omega
        have hk := hK2 fun h => hm h.2.2
        simp -dsimp (disch := omega) [hb, hm, hm']
        exact RetF.same hwf (by simp) (Nat.zero_le _) (fun _ _ => rfl) hk
  · have hc : ¬ cok N x n := fun h => hw h.1
    have h4 : ¬ n = 4 := by omega
    have h8 : ¬ n = 8 := by omega
    simp -dsimp (disch := omega) [h4, h8]
    exact RetF.same hwf (by simp) (Nat.zero_le _) (fun _ _ => rfl) (hK2 hc)
end
end Go.Proofs.Ytgafaelakjnemaa
