/-
  The document's number, guest. The document's channels of bytes. The document's Parse. The document's Parse: the channels' part. The document's Parse: the windows' part. The document's Parse, whole.
-/
import Derived.Test.YtmnemfeofhinaaaDoorRA
set_option linter.unusedSimpArgs false
set_option linter.unusedVariables false
set_option linter.unusedSectionVars false

namespace Go.Proofs.YtmnemfeofhinaaaDoor
set_option maxRecDepth 100000
open Go Go.Mini Go.Proofs.Tryd

theorem numN_one (b : UInt8) : numN [b] = b.toNat := by simp [numN, numL]
theorem numN_nil : numN [] = 0 := rfl
theorem bAt_n (S : List UInt8) (k : Nat) : bAt (txt S) k = ((nAt S k 1 : Nat) : Int) := by
  rw [bAt_txt]
  unfold nAt
  cases h : S[k]? with
  | none =>
    have := List.getElem?_eq_none_iff.1 h
    rw [List.drop_eq_nil_of_le this]
    rfl
  | some b =>
    obtain ⟨h1, h2⟩ := List.getElem?_eq_some_iff.1 h
    rw [List.drop_eq_getElem_cons h1, h2, List.take_succ_cons, List.take_zero, numN_one]
    rfl
theorem nAt1_lt (S : List UInt8) (a : Nat) : nAt S a 1 < 256 := numN_le _ (List.length_take_le _ _)
theorem nAt2_lt (S : List UInt8) (a : Nat) : nAt S a 2 < 65536 := numN_le _ (List.length_take_le _ _)
theorem nAt4_lt (S : List UInt8) (a : Nat) : nAt S a 4 < 4294967296 := numN_le _ (List.length_take_le _ _)
theorem nAt_cut {S : List UInt8} {a m k n : Nat} (h : k + n ≤ m) : nAt ((S.drop a).take m) k n = nAt S (a + k) n := by
  unfold nAt
  rw [List.drop_take, List.take_take, List.drop_drop, Nat.min_eq_left (by omega)]
theorem dG_cut (S : List UInt8) (a : Nat) : dG ((S.drop a).take 23) 0 = dG S a := by
  unfold dG
  rw [nAt_cut (by omega), nAt_cut (by omega), nAt_cut (by omega)]
  congr 1
  apply List.map_congr_left
  intro k hk
  have := List.mem_range.1 hk
  rw [nAt_cut (by omega)]
  congr 1
  omega
theorem dG_ok (S : List UInt8) (a : Nat) : (dG S a).ok := by
  refine ⟨nAt1_lt _ _, nAt4_lt _ _, nAt1_lt _ _, by simp [dG], fun x hx => ?_⟩
  obtain ⟨k, _, rfl⟩ := List.mem_map.1 hx
  exact nAt1_lt _ _
/-- A guest whose first actions are told. -/
def dgK (T : List UInt8) (k : Nat) : Gu := { dG T 0 with ac := (List.range 17).map fun i => if i < k then nAt T (0 + 6 + i) 1 else 0 }
theorem dgK_zero (T : List UInt8) : (guC (dgK T 0)).toArray = #[.int .u8 (nAt T 0 1), .int .u32 (nAt T (0 + 1) 4), .int .u8 (nAt T (0 + 5) 1), .int .u8 0, .int .u8 0, .int .u8 0, .int .u8 0, .int .u8 0, .int .u8 0, .int .u8 0, .int .u8 0, .int .u8 0, .int .u8 0, .int .u8 0, .int .u8 0, .int .u8 0, .int .u8 0, .int .u8 0, .int .u8 0, .int .u8 0] := rfl
theorem dgK_all (T : List UInt8) : dgK T 17 = dG T 0 := by
  unfold dgK dG
  congr 1
theorem dgK_len (T : List UInt8) (k : Nat) : (guC (dgK T k)).toArray.size = 20 := by simp [guC, dgK, u8L]
theorem dgK_set (T : List UInt8) (k : Nat) (hk : k < 17) : (guC (dgK T k)).toArray.setIfInBounds (3 + k) (.int .u8 (nAt T (6 + k) 1)) = (guC (dgK T (k + 1))).toArray := by
  apply Array.ext_getElem?
  intro j
  rw [Array.getElem?_setIfInBounds, dgK_len]
  simp only [guC, dgK, u8L, List.map_map, List.getElem?_toArray]
  by_cases hj : 3 + k = j
  · subst hj
    rw [if_pos rfl, if_pos (by omega), show 3 + k = k + 1 + 1 + 1 by omega, List.getElem?_cons_succ, List.getElem?_cons_succ, List.getElem?_cons_succ, List.getElem?_map, List.getElem?_range hk]
    simp
  · rw [if_neg hj]
    match j with
    | 0 => rfl
    | 1 => rfl
    | 2 => rfl
    | j + 3 =>
      simp only [List.getElem?_cons_succ, List.getElem?_map]
      by_cases h17 : j < 17
      · rw [List.getElem?_range h17]
        simp only [Option.map_some, Function.comp_apply]
        by_cases hjk : j < k
        · rw [if_pos hjk, if_pos (by omega)]
        · rw [if_neg hjk, if_neg (by omega)]
      · rw [List.getElem?_eq_none (by simp; omega)]; rfl
theorem guC_vtop (g : Gu) : vtop (.agg (guC g).toArray) = 0 := by
  refine Nat.le_zero.1 (vtop_agg.2 fun x hx => ?_)
  simp only [guC, List.mem_toArray, List.mem_cons, u8L, List.mem_map] at hx
  rcases hx with rfl | rfl | rfl | ⟨a, _, rfl⟩ <;> exact Nat.le_refl _
def tb44 : Nat → Marks := fun k => if k = 1 then ⟨[2000009], fun _ => True⟩ else ⟨[], fun _ => True⟩
theorem tb44_1 : tb44 1 = ⟨[2000009], fun _ => True⟩ := rfl

section
variable {h : Hp} {K : Value → Hp → Prop}
theorem num_call {T : List UInt8} (hT : T.length ≤ 8) (hK : K (.int .u64 (numN T)) h) : ACall prog 45 [.string (txt T)] h K := by
  refine acallF_of tb0 func45 rfl rfl mixed (by kernel_rfl) fun hwf => ?_
  simp -dsimp (disch := omega)
  refine refNumber_call (by rw [txt_size]; exact hT) ?_
  rw [numTo_txt, numL_nat]
  simp -dsimp (disch := omega)
  exact RetF.same hwf (by simp) (Nat.zero_le _) (fun _ _ => rfl) hK
set_option maxHeartbeats 2000000 in
theorem dguest_call {T : List UInt8} (hT : T.length = 23) (hK : K (.agg (guC (dG T 0)).toArray) h) : ACall prog 44 [.string (txt T)] h K := by
  refine acallF_of tb44 func44 rfl rfl mixed (by kernel_rfl) fun hwf => ?_
  have hsz : (txt T).size = 23 := by rw [txt_size, hT]
  obtain ⟨T4, hT4⟩ : ∃ T4, T4 = (T.drop 1).take 4 := ⟨_, rfl⟩
  have hsl : (txt T).extract 1 5 = txt T4 := by rw [ext_txt, hT4]
  simp -dsimp (disch := first | omega | (rw [hsz]; omega)) [tb44_1, hsl, hsz]
  refine num_call (by rw [hT4, List.length_take]; omega) ?_
  have hb0 := bAt_n T 0
  have hb5 := bAt_n T 5
  have q0 := nAt1_lt T 0
  have q1 := nAt4_lt T 1
  have q5 := nAt1_lt T 5
  rw [show numN T4 = nAt T 1 4 by rw [hT4]; rfl]
  simp -dsimp (disch := first | omega | (rw [hsz]; omega)) [tb44_1, hsz, hb0, hb5]
  obtain ⟨H, hH⟩ : ∃ H, H = h.alloc ⟨#[Value.int .u8 0, Value.int .u32 0, Value.int .u8 0, Value.int .u8 0, Value.int .u8 0, Value.int .u8 0, Value.int .u8 0, Value.int .u8 0, Value.int .u8 0, Value.int .u8 0, Value.int .u8 0, Value.int .u8 0, Value.int .u8 0, Value.int .u8 0, Value.int .u8 0, Value.int .u8 0, Value.int .u8 0, Value.int .u8 0, Value.int .u8 0, Value.int .u8 0], 1, true⟩ := ⟨_, rfl⟩
  have hx : Ext h H := by rw [hH]; exact Ext.alloc _ _
  have Hn : H.next = h.next + 1 := by rw [hH]; simp
  have bH : H.blks h.next = some ⟨#[Value.int .u8 0, Value.int .u32 0, Value.int .u8 0, Value.int .u8 0, Value.int .u8 0, Value.int .u8 0, Value.int .u8 0, Value.int .u8 0, Value.int .u8 0, Value.int .u8 0, Value.int .u8 0, Value.int .u8 0, Value.int .u8 0, Value.int .u8 0, Value.int .u8 0, Value.int .u8 0, Value.int .u8 0, Value.int .u8 0, Value.int .u8 0, Value.int .u8 0], 1, true⟩ := by rw [hH]; exact blks_alloc_eq _ _
  rw [← hH]
  have hz := dgK_zero T
  simp only [Nat.zero_add] at hz
  rw [← hz]
  refine awp_loop (fun t hh => hh.next = h.next + 2 ∧ (∀ i, i < h.next → hh.blks i = h.blks i) ∧ hh.blks h.next = some ⟨#[Value.int .u8 0, Value.int .u32 0, Value.int .u8 0, Value.int .u8 0, Value.int .u8 0, Value.int .u8 0, Value.int .u8 0, Value.int .u8 0, Value.int .u8 0, Value.int .u8 0, Value.int .u8 0, Value.int .u8 0, Value.int .u8 0, Value.int .u8 0, Value.int .u8 0, Value.int .u8 0, Value.int .u8 0, Value.int .u8 0, Value.int .u8 0, Value.int .u8 0], 1, true⟩ ∧ ∃ k : Nat, k ≤ 17 ∧ t 0 = .string (txt T) ∧ t 2 = ptr h.next ∧ t 3 = ptr (h.next + 1) ∧ t 4 = .int .i64 k ∧ hh.blks (h.next + 1) = some ⟨(guC (dgK T k)).toArray, 1, true⟩) (fun t _ => 17 - ivN (t 4)) ?_ ?_
  · simp -dsimp (disch := omega) [Hn]
    exact ⟨fun i hi => by rw [if_neg (by omega)]; exact hx.same i hi, bH, 0, by omega, rfl, rfl⟩
  · rintro t hh ⟨hn, hs, b5, k, hk, g0, g2, g3, g4, hA⟩
    refine vcF_sound (tb := tb44) mixed _ (by kernel_rfl) ?_
    simp -dsimp (disch := omega) [g4]
    refine CondF_dec (fun hc => ?_) (fun hc => ?_)
    · have hset := dgK_set T k (by omega)
      have hszA := dgK_len T k
      obtain ⟨A, hAe⟩ : ∃ A, A = (guC (dgK T k)).toArray := ⟨_, rfl⟩
      rw [← hAe] at hA hset hszA
      have hbn := nAt1_lt T (6 + k)
      have hbk := bAt_n T (6 + k)
      have hbi : ((6 : Int) + k).toNat = 6 + k := by omega
      simp -dsimp (disch := first | omega | (rw [hsz]; omega)) [g0, g2, g3, g4, hA, hszA, hset, hsz, hbi, hbk]
      exact ⟨⟨hn, fun i hi => by rw [if_neg (by omega)]; exact hs i hi, b5, k + 1, by omega, by simp, rfl⟩, by simp [ivN]; omega⟩
    · have hk17 : k = 17 := by omega
      subst hk17
      rw [dgK_all] at hA
      have hok := dG_ok T 0
      obtain ⟨A, hAe⟩ : ∃ A, A = (guC (dG T 0)).toArray := ⟨_, rfl⟩
      rw [← hAe] at hA hK
      have hone : oneAll A.toList = true := by rw [hAe]; exact guC_one _
      have hszA : A.size = 20 := by rw [hAe]; simpa using Gu.len hok
      have hex : A.extract 0 20 = A := by rw [← hszA]; exact Array.extract_size
      have hput : Mini.putL #[Value.int .u8 0, Value.int .u32 0, Value.int .u8 0, Value.int .u8 0, Value.int .u8 0, Value.int .u8 0, Value.int .u8 0, Value.int .u8 0, Value.int .u8 0, Value.int .u8 0, Value.int .u8 0, Value.int .u8 0, Value.int .u8 0, Value.int .u8 0, Value.int .u8 0, Value.int .u8 0, Value.int .u8 0, Value.int .u8 0, Value.int .u8 0, Value.int .u8 0] 0 A.toList = A := putL_full (by rw [hszA]; rfl)
      have hv : vtop (.agg A) = 0 := by rw [hAe]; exact guC_vtop _
      simp -dsimp (disch := omega) [g0, g2, g3, g4, hA, hszA, hex, b5, hput, hone]
      exact RetF.same hwf (by simp (disch := omega) [g2, hszA, hex]) (by omega) (fun i hi => by simp (disch := omega) [hs i hi]) hK
end
end Go.Proofs.YtmnemfeofhinaaaDoor
namespace Go.Proofs.YtmnemfeofhinaaaDoor
set_option maxRecDepth 100000
open Go Go.Mini Go.Proofs.Tryd

theorem dTo_len (S : List UInt8) (a k : Nat) : (dTo S a k).length = k := by simp [dTo]
theorem dTo_succ (S : List UInt8) (a k : Nat) : dTo S a (k + 1) = dTo S a k ++ [(nAt S (a + 2 * k) 1, nAt S (a + (2 * k + 1)) 1)] := by
  unfold dTo; rw [List.range_succ, List.map_append]; rfl
theorem dC_ok (S : List UInt8) (a : Nat) : (dC S a).ok := by
  refine ⟨nAt1_lt _ _, nAt1_lt _ _, nAt1_lt _ _, nAt1_lt _ _, nAt1_lt _ _, nAt4_lt _ _, fun e he => ?_, ?_⟩
  · obtain ⟨k, _, rfl⟩ := List.mem_map.1 he
    exact ⟨nAt1_lt _ _, nAt1_lt _ _⟩
  · show (dTo S (a + 10) (nAt S (a + 9) 1)).length < _
    rw [dTo_len]
    have := nAt1_lt S (a + 9)
    omega
theorem dL_succ {α : Type} (one : Nat → Option (α × Nat)) (each : ByteArray) (n i a : Nat) : dL one each (n + 1) i a = match one a with
    | none => .inl (each, (i : Nat), 4)
    | some (x, b) => match dL one each n (i + 1) b with
      | .inl z => .inl z
      | .inr (l, e) => .inr (x :: l, e) := rfl
def tb46 : Nat → Marks := fun k => if k = 7 then ⟨[2000028], fun _ => True⟩ else ⟨[], fun _ => True⟩
theorem tb46_15 : tb46 15 = ⟨[], fun _ => True⟩ := rfl
theorem tb46_7 : tb46 7 = ⟨[2000028], fun _ => True⟩ := rfl

section
variable {h : Hp} {K : Value → Hp → Prop}
set_option maxHeartbeats 4000000 in
theorem dch_tail {Q : APost} {t : Tm} {G : Hp} {S : List UInt8} {a n m n4 i : Nat} {acc : List (Ch × Value)} {v : Value} (hS : S.length < 4611686018427387904) (hn : n = nAt S (a + 9) 1) (hl : a + 10 + 2 * n ≤ S.length) (hi : i < 256) (t0 : t 0 = .string (txt S)) (t1 : t 1 = .int .i64 ((a : Int) + 10)) (t9 : t 9 = v) (t11 : t 11 = ptr n4) (t12 : t 12 = .int .i64 n) (hm : m ≤ n4) (hn4 : n4 < G.next)
    (cG : G.blks n4 = some ⟨(chC (dC S a) (.slice none 0 0)).toArray, 1, true⟩) (hrow : Row m G 7 i (chsC acc) v) (hv : ∀ b, sblk v = some b → b < n4) (hel : ∀ x ∈ acc, Row m G 2 x.1.to.length (endsC x.1.to) x.2 ∧ ∀ b, sblk x.2 = some b → sblk v ≠ some b ∧ b < n4)
    (hQ : ∀ t' h' vt v', t' 0 = t 0 → t' 1 = .int .i64 ((a + 10 + 2 * n : Nat) : Int) → t' 2 = t 2 → t' 8 = t 8 → t' 9 = v' → t' 10 = t 10 → G.next ≤ h'.next → (∀ j, j < m → h'.blks j = G.blks j) → Row m h' 7 (i + 1) (chsC (acc ++ [(dC S a, vt)])) v' → (∀ x ∈ acc ++ [(dC S a, vt)], Row m h' 2 x.1.to.length (endsC x.1.to) x.2 ∧ ∀ b, sblk x.2 = some b → sblk v' ≠ some b) → apQ Q .normal t' h' (.mk _)) :
    vcF prog f46.ntmps tb46 (sndC (sndC (sndC (sndC (sndC (blkC (fstC (sndC (loopC (blkC (sndC (fstC (sndC (sndC (bodyC f46))))))))))))))) Q t G (.mk _) := by
  have e0 : (sndC (sndC (sndC (sndC (sndC (blkC (fstC (sndC (loopC (blkC (sndC (fstC (sndC (sndC (bodyC f46))))))))))))))) = (sndC (sndC (sndC (sndC (sndC (blkC (fstC (sndC (loopC (blkC (sndC (fstC (sndC (sndC (bodyC f46))))))))))))))) := rfl
  conv at e0 => rhs; whnf
  rw [e0]
  clear e0
  have hsz : (txt S).size = S.length := txt_size S
  have hn256 : n < 256 := by rw [hn]; exact nAt1_lt _ _
  obtain ⟨C, hC⟩ : ∃ C : Value → Array Value, C = fun vt => (chC (dC S a) vt).toArray := ⟨_, rfl⟩
  have hC3 : ∀ vt, (C vt)[3]? = some vt := fun vt => by rw [hC]; rfl
  have hCs : ∀ vt, (C vt).size = 7 := fun vt => by rw [hC]; rfl
  have hCu : ∀ vt u, (C vt).setIfInBounds 3 u = C u := fun vt u => by rw [hC]; rfl
  have cG : G.blks n4 = some ⟨C (.slice none 0 0), 1, true⟩ := by rw [hC]; exact cG
  simp -dsimp (disch := omega)
  refine awp_loop (fun t' hh => G.next ≤ hh.next ∧ (∀ j, j < G.next → j ≠ n4 → hh.blks j = G.blks j) ∧ ∃ (k : Nat) (vt : Value), k ≤ n ∧ t' 0 = t 0 ∧ t' 1 = t 1 ∧ t' 2 = t 2 ∧ t' 8 = t 8 ∧ t' 9 = t 9 ∧ t' 10 = t 10 ∧ t' 11 = t 11 ∧ t' 12 = t 12 ∧ t' 13 = .int .i64 k ∧ hh.blks n4 = some ⟨C vt, 1, true⟩ ∧ Row G.next hh 2 k (endsC (dTo S (a + 10) k)) vt) (fun t' _ => n - ivN (t' 13)) ?_ ?_
  · simp -dsimp (disch := omega)
    exact ⟨0, by omega, rfl, _, cG, Row.nil _ _ _⟩
  · rintro t' hh ⟨hnx, hsame, k, vt, hk, g0, g1, g2, g8, g9, g10, g11, g12, g13, hcc, hto⟩
    rw [t0] at g0
    rw [t1] at g1
    rw [t11] at g11
    rw [t12] at g12
    have hblk := hto.blk
    refine vcF_sound (tb := tb46) mixed _ (by kernel_rfl) ?_
    simp -dsimp (disch := omega) [g12, g13]
    refine CondF_dec (fun hc => ?_) (fun hc => ?_)
    · have i1 : ((a : Int) + 10 + 2 * k).toNat = a + 10 + 2 * k := by omega
      have i2 : ((a : Int) + 10 + 2 * k + 1).toNat = a + 10 + (2 * k + 1) := by omega
      have hb1 := bAt_n S (a + 10 + 2 * k)
      have hb2 := bAt_n S (a + 10 + (2 * k + 1))
      have q1 := nAt1_lt S (a + 10 + 2 * k)
      have q2 := nAt1_lt S (a + 10 + (2 * k + 1))
      simp -dsimp (disch := first | omega | (rw [hsz]; omega)) [g0, g1, g11, g13, hcc, hC3, hCs, hsz, i1, i2, hb1, hb2, tb46_15, -getElem?_pos]
      have hrowB := hto.alloc ⟨#[.int .u8 (nAt S (a + 10 + 2 * k) 1), .int .u8 (nAt S (a + 10 + (2 * k + 1)) 1)], 2, true⟩
      refine app_row hrowB (by simp; omega) (src_slice _ 2 1 2 ⟨hh.next, 0, none⟩ #[.int .u8 (nAt S (a + 10 + 2 * k) 1), .int .u8 (nAt S (a + 10 + (2 * k + 1)) 1)] (by simp (disch := omega))) (by omega) rfl (by unfold ROOM; omega) fun v' h' r1 r2 r3 r4 => ?_
      have r2' : h'.next = hh.next + 2 := by rw [r2]; simp
      have same' : ∀ j, j < hh.next → sblk vt ≠ some j → h'.blks j = hh.blks j := fun j hj hv => by rw [r4 j (by simp; omega) hv, blks_alloc_ne _ _ _ (by omega)]
      have hvn4 : sblk vt ≠ some n4 := fun e => by have := (hblk _ e).1; omega
      have hcc' : h'.blks n4 = some ⟨C vt, 1, true⟩ := by rw [same' n4 (by omega) hvn4]; exact hcc
      have hb' : sblk v' = some (hh.next + 1) := by rw [r3]; simp
      obtain ⟨a', c', rfl⟩ := r1.slice
      simp -dsimp (disch := omega) [g11, g13, hcc', hCs, hCu, tb46_15]
      have hvn : ∀ j, j < hh.next → sblk (.slice a' (k + 1) c') ≠ some j := fun j hj e => by rw [e] at hb'; cases hb'; omega
      refine ⟨⟨by omega, fun j hj hne => ?_, k + 1, by omega, by rw [g0, t0], by rw [g1, t1], g2, g8, g9, g10, by rw [t11], by rw [g12, t12], by simp, _, rfl, ?_⟩, by simp [ivN]; omega⟩
      · rw [if_neg hne, same' j (by omega) (fun e => by have := (hblk _ e).1; omega)]
        exact hsame j hj hne
      · rw [dTo_succ, endsC_app]
        exact Row.set r1 _ _ (hvn _ (by omega))
    · have hkn : k = n := by omega
      subst hkn
      have hone : oneAll (C vt).toList = true := by obtain ⟨_, _, rfl⟩ := hto.slice; rw [hC]; rfl
      have hex : (C vt).extract 0 7 = C vt := by rw [← hCs vt]; exact Array.extract_size
      have hput : Mini.putL #[Value.int .u8 0, Value.int .u8 0, Value.int .u8 0, Value.slice none 0 0, Value.int .u8 0, Value.int .u8 0, Value.int .u32 0] 0 (C vt).toList = C vt := putL_full (by rw [hCs]; rfl)
      rw [t9] at g9
      simp -dsimp (disch := omega) [g1, g9, g11, g12, hcc, hCs, hex, hone, hput]
      have hrow2 : Row m hh 7 i (chsC acc) v := hrow.mono (by omega) fun b hb => hsame b (hrow.blk b hb).2 (by have := hv b hb; omega)
      have hrowA := hrow2.alloc ⟨C vt, 7, true⟩
      refine app_row hrowA (by simp; omega) (src_slice _ 7 1 2 ⟨hh.next, 0, none⟩ (C vt) (by simp (disch := omega) [hCs])) (by omega) (by rw [hCs]) (by unfold ROOM; omega) fun v5 h5 r1 r2 r3 r4 => ?_
      have r2' : h5.next = hh.next + 2 := by rw [r2]; simp
      have hAl : (C vt).toList = chC (dC S a) vt := by rw [hC]
      rw [hAl, ← chsC_snoc] at r1
      have keep : ∀ b, b < hh.next → sblk v ≠ some b → h5.blks b = hh.blks b := fun b h2 h3 => by rw [r4 b (by simp; omega) h3, blks_alloc_ne _ _ _ (by omega)]
      have hv5 : ∀ b, sblk v5 = some b → b = hh.next + 1 := fun b hb => by rw [r3] at hb; simp at hb; omega
      simp -dsimp (disch := omega) [g1, g9, g12]
      refine hQ _ _ vt v5 (by simp (disch := omega) [g0, t0]) (by simp (disch := omega)) (by simp (disch := omega) [g2]) (by simp (disch := omega) [g8]) (by simp (disch := omega)) (by simp (disch := omega) [g10]) (by omega) (fun j hj => ?_) r1 fun x hx => ?_
      · rw [keep j (by omega) (fun e => by have := (hrow.blk _ e).1; omega)]
        exact hsame j (by omega) (by omega)
      · rcases List.mem_append.1 hx with hx | hx
        · obtain ⟨q1, q2⟩ := hel _ hx
          have q1' : Row m hh 2 x.1.to.length (endsC x.1.to) x.2 := q1.mono (by omega) fun b hb => hsame b (q1.blk b hb).2 (by have := (q2 b hb).2; omega)
          refine ⟨q1'.mono (by omega) fun b hb => keep b (q1'.blk b hb).2 (q2 b hb).1, fun b hb e => ?_⟩
          have := hv5 b e
          have := (q1'.blk b hb).2
          omega
        · simp only [List.mem_singleton] at hx
          subst hx
          have rv2 := hto.weak (m' := m) (by omega)
          have hdl : (dC S a).to = dTo S (a + 10) k := by rw [hn]; rfl
          simp only
          rw [hdl, dTo_len]
          refine ⟨rv2.mono (by omega) fun b hb => keep b (rv2.blk b hb).2 (fun e => by have := (hblk b hb).1; have := (hrow.blk b e).2; omega), fun b hb e => ?_⟩
          have := hv5 b e
          have := (hblk b hb).2
          omega
end
section
variable {h : Hp} {K : Value → Hp → Prop}
set_option maxHeartbeats 8000000 in
theorem dchannels_call {S : List UInt8} {at0 N : Nat} (hS : S.length < 4611686018427387904) (ha : at0 ≤ S.length) (hN : N < 256)
    (k0 : ∀ z a', dL (oneC S) sChannel N 0 at0 = .inl z → K (.tuple #[.slice none 0 0, .int .i64 a', badV z]) h)
    (k1 : ∀ l e h' v L, dL (oneC S) sChannel N 0 at0 = .inr (l, e) → Ext h h' → L.map (·.1) = l → Row h.next h' 7 L.length (chsC L) v → (∀ x ∈ L, Row h.next h' 2 x.1.to.length (endsC x.1.to) x.2) → K (.tuple #[v, .int .i64 (e : Nat), badV (txt [], 0, 0)]) h') :
    ACall prog 46 [.string (txt S), .int .i64 at0, .int .i64 N] h K := by
  refine acallF_of tb46 func46 rfl rfl mixed (by kernel_rfl) fun hwf => ?_
  obtain ⟨RR, hR1⟩ : ∃ RR, RR = (sndC (sndC (sndC (sndC (sndC (blkC (fstC (sndC (loopC (blkC (sndC (fstC (sndC (sndC (bodyC f46))))))))))))))) := ⟨_, rfl⟩
  have hR2 := hR1
  conv at hR2 => rhs; whnf
  have hsz : (txt S).size = S.length := txt_size S
  simp -dsimp (disch := omega)
  obtain ⟨H, hH⟩ : ∃ H, H = h.alloc ⟨#[.string ⟨#[]⟩, .int .i64 0, .int .i64 0, .slice none 0 0, .slice none 0 0, .slice none 0 0], 1, true⟩ := ⟨_, rfl⟩
  have hx : Ext h H := by rw [hH]; exact Ext.alloc _ _
  have Hn : H.next = h.next + 1 := by rw [hH]; simp
  have bH : H.blks h.next = some ⟨#[.string ⟨#[]⟩, .int .i64 0, .int .i64 0, .slice none 0 0, .slice none 0 0, .slice none 0 0], 1, true⟩ := by rw [hH]; exact blks_alloc_eq _ _
  refine awp_loop (fun t hh => Ext H hh ∧ ∃ (i a : Nat) (acc : List (Ch × Value)) (v : Value), i ≤ N ∧ a ≤ S.length ∧ t 0 = .string (txt S) ∧ t 1 = .int .i64 a ∧ t 2 = .int .i64 N ∧ t 8 = ptr h.next ∧ t 9 = v ∧ t 10 = .int .i64 i ∧ Row H.next hh 7 i (chsC acc) v ∧ acc.length = i ∧ (∀ x ∈ acc, Row H.next hh 2 x.1.to.length (endsC x.1.to) x.2 ∧ ∀ b, sblk x.2 = some b → sblk v ≠ some b) ∧
    dL (oneC S) sChannel N 0 at0 = (match dL (oneC S) sChannel (N - i) i a with | .inl z => .inl z | .inr (l, e) => .inr (acc.map (·.1) ++ l, e))) (fun t _ => N - ivN (t 10)) ?_ ?_
  · simp -dsimp (disch := omega)
    refine ⟨by rw [hH]; exact Ext.refl _, 0, by omega, at0, ha, rfl, rfl, [], Row.nil _ _ _, rfl, (fun _ _ hx => by cases hx), ?_⟩
    rw [Nat.sub_zero]
    cases dL (oneC S) sChannel N 0 at0 <;> rfl
  · rintro t hh ⟨E, i, a, acc, v, hi, haS, g0, g1, g2, g8, g9, g10, hrow, hacc, hel, heq⟩
    refine vcF_sound (tb := tb46) mixed _ (by kernel_rfl) ?_
    rw [← hR2]
    simp -dsimp (disch := omega) [g2, g10]
    have En := E.le
    have bT := (E.same h.next (by omega)).trans bH
    refine CondF_dec (fun hc => ?_) (fun hc => ?_)
    · rw [show N - i = (N - (i + 1)) + 1 by omega, dL_succ] at heq
      by_cases c1 : S.length < a + 10
      · have c1' : (S.length : Int) < (a : Int) + 10 := by omega
        have h1 : oneC S a = none := by unfold oneC; rw [if_pos c1]
        rw [h1] at heq
        simp -dsimp (disch := omega) [g0, g1, g10, hsz, c1']
        refine bad_call ?_
        simp -dsimp (disch := omega) [g8, bT, badV]
        refine RetF.same hwf (by simp (disch := omega) [g8]; rfl) (by simp [badV, vtop, vtopL]) (fun j hj => by simp (disch := omega) [E.same j (by omega), hx.same j hj]) (k0 (sChannel, (i : Nat), 4) a heq)
      · have c1' : ¬ (S.length : Int) < (a : Int) + 10 := by omega
        obtain ⟨T4, hT4⟩ : ∃ T4, T4 = (S.drop (a + 5)).take 4 := ⟨_, rfl⟩
        have hsl : (txt S).extract (a + 5) (a + 9) = txt T4 := by rw [ext_txt, hT4, show a + 9 - (a + 5) = 4 by omega]
        have i0 : ((a : Int)).toNat = a := by omega
        have i1 : ((a : Int) + 1).toNat = a + 1 := by omega
        have i2 : ((a : Int) + 2).toNat = a + 2 := by omega
        have i3 : ((a : Int) + 3).toNat = a + 3 := by omega
        have i4 : ((a : Int) + 4).toNat = a + 4 := by omega
        have i5 : ((a : Int) + 5).toNat = a + 5 := by omega
        have i9 : ((a : Int) + 9).toNat = a + 9 := by omega
        simp -dsimp (disch := first | omega | (rw [hsz]; omega)) [g0, g1, g10, hsz, c1', i0, i1, i2, i3, i4, i5, i9, hsl, tb46_7]
        refine num_call (by rw [hT4, List.length_take]; omega) ?_
        rw [show numN T4 = nAt S (a + 5) 4 by rw [hT4]; rfl]
        have hb0 := bAt_n S a
        have hb1 := bAt_n S (a + 1)
        have hb2 := bAt_n S (a + 2)
        have hb3 := bAt_n S (a + 3)
        have hb4 := bAt_n S (a + 4)
        have hb9 := bAt_n S (a + 9)
        have q4 := nAt4_lt S (a + 5)
        have q9 := nAt1_lt S (a + 9)
        obtain ⟨n, hn⟩ : ∃ n, n = nAt S (a + 9) 1 := ⟨_, rfl⟩
        rw [← hn] at hb9 q9
        by_cases c2 : S.length < a + 10 + 2 * n
        · have c2' : (S.length : Int) < (a : Int) + 10 + 2 * n := by omega
          have h1 : oneC S a = none := by unfold oneC; rw [if_neg c1, ← hn, if_pos c2]
          rw [h1] at heq
          simp -dsimp (disch := first | omega | (rw [hsz]; omega)) [g0, g1, g10, hsz, c1', i0, i1, i2, i3, i4, i5, i9, hb0, hb1, hb2, hb3, hb4, hb9, c2', tb46_7]
          refine bad_call ?_
          simp -dsimp (disch := omega) [g8, bT, badV]
          refine RetF.same hwf (by simp (disch := omega) [g8]; rfl) (by simp [badV, vtop, vtopL]) (fun j hj => by simp (disch := omega) [E.same j (by omega), hx.same j hj]) (k0 (sChannel, (i : Nat), 4) ((a : Int) + 10) heq)
        · have c2' : ¬ (S.length : Int) < (a : Int) + 10 + 2 * n := by omega
          have h1 : oneC S a = some (dC S a, a + 10 + 2 * n) := by unfold oneC; rw [if_neg c1, ← hn, if_neg c2]
          rw [h1] at heq
          simp -dsimp (disch := first | omega | (rw [hsz]; omega)) [g0, g1, g10, hsz, c1', i0, i1, i2, i3, i4, i5, i9, hb0, hb1, hb2, hb3, hb4, hb9, c2', tb46_7]
          rw [hR1]
          have F : ∀ j, j < hh.next → (hh.alloc ⟨(chC (dC S a) (.slice none 0 0)).toArray, 1, true⟩).blks j = hh.blks j := fun j hj => blks_alloc_ne _ _ _ (by omega)
          refine dch_tail (S := S) (a := a) (n := n) (m := H.next) (n4 := hh.next) (i := i) (acc := acc) (v := v) hS hn (by omega) (by omega) (by simp (disch := omega) [g0]) (by simp (disch := omega)) (by simp (disch := omega) [g9]) (by simp (disch := omega)) (by simp (disch := omega)) (by omega) (by simp) (blks_alloc_eq hh ⟨(chC (dC S a) (.slice none 0 0)).toArray, 1, true⟩) (hrow.alloc _) (fun b hb => (hrow.blk b hb).2) (fun x hx => ⟨((hel x hx).1).alloc _, fun b hb => ⟨(hel x hx).2 b hb, ((hel x hx).1.blk b hb).2⟩⟩) ?_
          intro t' h' vt v' e0 e1 e2 e8 e9 e10 hn' hs' r1 hel'
          have e0 : t' 0 = .string (txt S) := e0.trans (by simp -dsimp (disch := omega) [g0])
          have e2 : t' 2 = .int .i64 N := e2.trans (by simp -dsimp (disch := omega) [g2])
          have e8 : t' 8 = ptr h.next := e8.trans (by simp -dsimp (disch := omega) [g8])
          have e10 : t' 10 = .int .i64 i := e10.trans (by simp -dsimp (disch := omega) [g10])
          simp -dsimp (disch := omega) [e0, e1, e2, e8, e9, e10]
          have hn'' : H.next ≤ h'.next := by simp at hn'; omega
          refine ⟨⟨⟨hn'', fun j hj => (hs' j hj).trans ((F j (by omega)).trans (E.same j hj))⟩, i + 1, by omega, a + 10 + 2 * n, by omega, by omega, by simp, acc ++ [(dC S a, vt)], r1, by simp [hacc], fun c b hx => hel' (c, b) hx, ?_⟩, by simp [ivN, g10]; omega⟩
          rw [heq]
          dsimp only
          cases dL (oneC S) sChannel (N - (i + 1)) (i + 1) (a + 10 + 2 * n) with
          | inl z => rfl
          | inr p => obtain ⟨l, e⟩ := p; simp
    · have hiN : i = N := by omega
      rw [hiN, Nat.sub_self] at heq
      have heq : dL (oneC S) sChannel N 0 at0 = .inr (acc.map (·.1) ++ [], a) := heq
      rw [List.append_nil] at heq
      simp -dsimp (disch := omega) [g1, g8, g9, bT]
      have xs : ∀ (b : Blk) {e n : Nat} {cs : List Value} {v : Value}, Row H.next hh e n cs v → Row h.next (hh.set h.next b) e n cs v := fun b _ _ _ _ R => (Row.set R _ _ fun e => by have := (R.blk _ e).1; omega).weak (by omega)
      refine RetF.all (by simp (disch := omega) [g8, g9]; rfl) (k1 _ a _ v acc heq ((hx.trans E).then_set _ (Nat.le_refl _)) rfl ?_ fun x hx => xs _ (hel x hx).1)
      rw [hacc]
      exact xs _ hrow
end
end Go.Proofs.YtmnemfeofhinaaaDoor
namespace Go.Proofs.YtmnemfeofhinaaaDoor
set_option maxRecDepth 100000
open Go Go.Mini Go.Proofs.Tryd

theorem oneG_good {S : List UInt8} {a b : Nat} {g : Gu} (h : oneG S a = some (g, b)) : g.ok := by
  unfold oneG at h
  split at h
  · cases h
  · cases h; exact dG_ok S a
theorem oneW_good {S : List UInt8} {a b : Nat} {w : Win} (h : oneW S a = some (w, b)) : w.ok := by
  unfold oneW at h
  split at h
  · cases h
  · cases h; exact ⟨nAt1_lt _ _, nAt2_lt _ _⟩
theorem oneC_good {S : List UInt8} {a b : Nat} {c : Ch} (h : oneC S a = some (c, b)) : c.ok := by
  unfold oneC at h
  split at h
  · cases h
  · split at h
    · cases h
    · cases h; exact dC_ok S a
theorem dL_all {α : Type} {P : α → Prop} {one : Nat → Option (α × Nat)} (hp : ∀ a x b, one a = some (x, b) → P x) {each : ByteArray} : ∀ {n i a : Nat} {l : List α} {e : Nat}, dL one each n i a = .inr (l, e) → (∀ x ∈ l, P x) ∧ l.length = n
  | 0, i, a, l, e, h => by cases h; exact ⟨(fun x hx => by cases hx), rfl⟩
  | n + 1, i, a, l, e, h => by
    rw [dL_succ] at h
    cases h1 : one a with
    | none => rw [h1] at h; cases h
    | some p =>
      obtain ⟨x, b⟩ := p
      rw [h1] at h
      dsimp only at h
      cases h2 : dL one each n (i + 1) b with
      | inl z => rw [h2] at h; cases h
      | inr q =>
        obtain ⟨l', e'⟩ := q
        rw [h2] at h
        cases h
        obtain ⟨i1, i2⟩ := dL_all hp h2
        refine ⟨fun y hy => ?_, by rw [List.length_cons, i2]⟩
        rcases List.mem_cons.1 hy with rfl | hy
        · exact hp _ _ _ h1
        · exact i1 y hy
def tb10 : Nat → Marks := fun k => if k = 26 then ⟨[1, 11], fun _ => True⟩ else ⟨[], fun _ => True⟩
theorem tb10_26 : tb10 26 = ⟨[1, 11], fun _ => True⟩ := rfl
theorem tb10_36 : tb10 36 = ⟨[], fun _ => True⟩ := rfl
theorem dL_inl {α : Type} {one : Nat → Option (α × Nat)} {each : ByteArray} : ∀ {n i a : Nat} {z : Flt}, dL one each n i a = .inl z → z.2.2 = 4
  | 0, i, a, z, h => by cases h
  | n + 1, i, a, z, h => by
    rw [dL_succ] at h
    cases h1 : one a with
    | none => rw [h1] at h; cases h; rfl
    | some p =>
      obtain ⟨x, b⟩ := p
      rw [h1] at h
      dsimp only at h
      cases h2 : dL one each n (i + 1) b with
      | inl z' => rw [h2] at h; cases h; exact dL_inl h2
      | inr q => rw [h2] at h; cases h
theorem dL_end {α : Type} {S : List UInt8} {rd : St → α} {nx : St → St} {one : Nat → Option (α × Nat)} (ho : OneOk S rd nx one) {each : ByteArray} {n i a : Nat} {l : List α} {e : Nat} (ha : a ≤ S.length) (h : dL one each n i a = .inr (l, e)) : e ≤ S.length := by
  have := lsX_law ho each n i a ha
  rw [h] at this
  exact this.1

section
variable {h0 hh : Hp} {K : Value → Hp → Prop} {S : List UInt8} {t : Tm} {m : Nat} {vg vw vc : Value} {L : List (Ch × Value)} {gs : List Gu} {ws : List Win}
set_option maxHeartbeats 4000000 in
theorem dtail34 (E : Ext h0 hh) (bT : hh.blks h0.next = some ⟨#[.string ⟨#[]⟩, .int .i64 0, .int .i64 0, .slice none 0 0, .slice none 0 0, .slice none 0 0], 1, true⟩) (hm : h0.next + 2 ≤ m) (hmn : m ≤ hh.next) (hS : S.length < 4611686018427387904) (t0 : t 0 = .string (txt S)) (t2 : t 2 = ptr h0.next) (t3 : t 3 = ptr (h0.next + 1)) {e : Nat} (t10 : t 10 = .int .i64 e) (he : e ≤ S.length) (bc : hh.blks (h0.next + 1) = some ⟨#[vg, vw, vc], 1, true⟩) (hdoc : docP S = docE S gs ws (L.map (·.1)) e)
    (rg : Row m hh 20 gs.length (guesC gs) vg) (rw' : Row m hh 2 ws.length (winsC ws) vw) (rc : Row m hh 7 L.length (chsC L) vc) (hLr : ∀ x ∈ L, Row m hh 2 x.1.to.length (endsC x.1.to) x.2) (o1 : ∀ g ∈ gs, g.ok) (o2 : ∀ w ∈ ws, w.ok) (o3 : ∀ x ∈ L, x.1.ok) (l1 : gs.length < 256) (l2 : ws.length < 256) (l3 : L.length < 256)
    (hK : ∀ h' L vg vw vc, Ext h0 h' → CfT h' (orN (prF S) (prG S).1) (orN (prF S) (prW S).1) L vg vw vc → L.map (·.1) = orN (prF S) (prC S).1 → K (toldV (prF S) vg vw vc) h') : vcF prog f10.ntmps tb10 (sndC (sndC (sndC (sndC (sndC (sndC (sndC (sndC (sndC (sndC (sndC (sndC (sndC (sndC (sndC (bodyC f10)))))))))))))))) (FnQ prog f10.results.toList h0 K) t hh (.mk _) := by
  have e0 : (sndC (sndC (sndC (sndC (sndC (sndC (sndC (sndC (sndC (sndC (sndC (sndC (sndC (sndC (sndC (bodyC f10)))))))))))))))) = (sndC (sndC (sndC (sndC (sndC (sndC (sndC (sndC (sndC (sndC (sndC (sndC (sndC (sndC (sndC (bodyC f10)))))))))))))))) := rfl
  conv at e0 => rhs; whnf
  rw [e0]
  clear e0
  have hsz : (txt S).size = S.length := txt_size S
  have hn := E.le
  have law := pr_doc S
  have bad : ∀ z, docP S = .inl z → K (badV z) (hh.set h0.next ⟨(match badV z with | .agg c => c | _ => #[]), 1, true⟩) := fun z hz => by
    rw [hz] at law
    have := hK (hh.set h0.next ⟨(match badV z with | .agg c => c | _ => #[]), 1, true⟩) [] (.slice none 0 0) (.slice none 0 0) (.slice none 0 0) (E.then_set _ (Nat.le_refl _)) (by rw [law]; exact CfT.nil _) (by rw [law]; rfl)
    rw [law] at this
    exact this
  unfold docE at hdoc
  by_cases c1 : S.length < e + 4
  · have c1' : (S.length : Int) < (e : Int) + 4 := by omega
    rw [if_pos c1] at hdoc
    simp -dsimp (disch := omega) [t0, t10, hsz, c1']
    refine bad_call ?_
    simp -dsimp (disch := omega) [t2, bT, badV]
    exact RetF.all (by simp (disch := omega) [t2]; rfl) (bad _ hdoc)
  have c1' : ¬ (S.length : Int) < (e : Int) + 4 := by omega
  rw [if_neg c1] at hdoc
  obtain ⟨T4, hT4⟩ : ∃ T4, T4 = (S.drop e).take 4 := ⟨_, rfl⟩
  have hsl : (txt S).extract e (e + 4) = txt T4 := by rw [ext_txt, hT4, show e + 4 - e = 4 by omega]
  have hsl2 : (txt S).extract 0 e = txt (S.take e) := by rw [ext_txt]; rfl
  have i0 : ((e : Int)).toNat = e := by omega
  have i4 : ((e : Int) + 4).toNat = e + 4 := by omega
  simp -dsimp (disch := first | omega | (rw [hsz]; omega)) [t0, t10, hsz, c1', i0, i4, hsl, tb10_36]
  refine num_call (by rw [hT4, List.length_take]; omega) ?_
  rw [show numN T4 = nAt S e 4 by rw [hT4]; rfl]
  have q4 := nAt4_lt S e
  simp -dsimp (disch := first | omega | (rw [hsz]; omega)) [t0, t10, hsz, i0, hsl2, tb10_36]
  refine refSum_call (by rw [txt_size, List.length_take]; omega) ?_
  rw [sumTo_all, txt_data]
  have hsr := sumL_range (S.take e) 1 (by omega)
  rw [show List.foldl sumStep 1 (S.take e) = sumL (S.take e) from rfl] at hsr
  obtain ⟨U, hU⟩ : ∃ U : Nat, sumL (S.take e) = U := Int.eq_ofNat_of_zero_le hsr.1
  rw [hU] at hsr hdoc ⊢
  rw [Int.toNat_natCast] at hdoc
  obtain ⟨N, hN⟩ : ∃ N, N = nAt S e 4 := ⟨_, rfl⟩
  rw [← hN] at q4 hdoc ⊢
  by_cases d : N = U
  · have d' : (N : Int) = U := by omega
    rw [if_neg (by simpa using d)] at hdoc
    by_cases c3 : e + 4 < S.length
    · have c3' : (e : Int) + 4 < S.length := by omega
      rw [if_pos c3] at hdoc
      simp -dsimp (disch := first | omega | (rw [hsz]; omega)) [t0, t10, hsz, d, d', c3', tb10_36]
      refine bad_call ?_
      simp -dsimp (disch := omega) [t2, bT, badV]
      exact RetF.all (by simp (disch := omega) [t2]; rfl) (bad _ hdoc)
    · have c3' : ¬ (e : Int) + 4 < S.length := by omega
      rw [if_neg c3] at hdoc
      obtain ⟨ag, cg, e1⟩ := rg.slice
      obtain ⟨aw, cw, e2⟩ := rw'.slice
      obtain ⟨ac, cc, e3⟩ := rc.slice
      subst e1 e2 e3
      simp -dsimp (disch := first | omega | (rw [hsz]; omega)) [t0, t3, t10, hsz, d, d', c3', tb10_36, bc]
      refine refCheck28_call (Row.cfv rg rw' rc hLr o1 o2 o3 l1 l2 l3).v ?_
      cases hck : chkC gs ws (L.map (·.1)) with
      | some z =>
        rw [hck] at hdoc
        simp -dsimp (disch := omega) [t2, bT, badV, toldV]
        exact RetF.all (by simp (disch := omega) [t2]; rfl) (bad _ hdoc)
      | none =>
        rw [hck] at hdoc
        dsimp only at hdoc
        rw [hdoc] at law
        obtain ⟨w1, w2, w3, w4⟩ := law
        simp -dsimp (disch := omega) [t2, bT, goodV, toldV]
        have xs : ∀ (b : Blk) {e n : Nat} {cs : List Value} {v : Value}, Row m hh e n cs v → Row m (hh.set h0.next b) e n cs v := fun b _ _ _ _ R => Row.set R _ _ fun e => by have := (R.blk _ e).1; omega
        have := fun b => hK (hh.set h0.next b) L (.slice ag gs.length cg) (.slice aw ws.length cw) (.slice ac L.length cc) (E.then_set b (Nat.le_refl _)) (by rw [w1]; exact (show CfT _ (prG S).1 (prW S).1 L _ _ _ by rw [w2, w3]; exact Row.cfv (xs b rg) (xs b rw') (xs b rc) (fun x hx => xs b (hLr x hx)) o1 o2 o3 l1 l2 l3)) (by rw [w1]; exact w4.symm)
        rw [w1] at this
        exact RetF.all (by simp (disch := omega) [t2]; rfl) (this _)
  · have d' : ¬ (N : Int) = U := by omega
    rw [if_pos (by simpa using d)] at hdoc
    simp -dsimp (disch := first | omega | (rw [hsz]; omega)) [t0, t10, hsz, d, d', tb10_36]
    refine bad_call ?_
    simp -dsimp (disch := omega) [t2, bT, badV]
    exact RetF.all (by simp (disch := omega) [t2]; rfl) (bad _ hdoc)
end
end Go.Proofs.YtmnemfeofhinaaaDoor
namespace Go.Proofs.YtmnemfeofhinaaaDoor
set_option maxRecDepth 100000
open Go Go.Mini Go.Proofs.Tryd

section
variable {h0 hh : Hp} {K : Value → Hp → Prop} {S : List UInt8} {t : Tm} {m : Nat} {vg vw vc : Value} {L : List (Ch × Value)} {gs : List Gu} {ws : List Win}
theorem bad_all {z : Flt} (hz : docP S = .inl z) (hK : ∀ h' L vg vw vc, Ext h0 h' → CfT h' (orN (prF S) (prG S).1) (orN (prF S) (prW S).1) L vg vw vc → L.map (·.1) = orN (prF S) (prC S).1 → K (toldV (prF S) vg vw vc) h') {G : Hp} (x : Ext h0 G) : K (badV z) G := by
  have law := pr_doc S
  rw [hz] at law
  have := hK G [] (.slice none 0 0) (.slice none 0 0) (.slice none 0 0) x (by rw [law]; exact CfT.nil _) (by rw [law]; rfl)
  rw [law] at this
  exact this
set_option maxHeartbeats 4000000 in
theorem dtail28 (E : Ext h0 hh) (bT : hh.blks h0.next = some ⟨#[.string ⟨#[]⟩, .int .i64 0, .int .i64 0, .slice none 0 0, .slice none 0 0, .slice none 0 0], 1, true⟩) (hm : h0.next + 2 ≤ m) (hmn : m ≤ hh.next) (hS : S.length < 4611686018427387904) (t0 : t 0 = .string (txt S)) (t2 : t 2 = ptr h0.next) (t3 : t 3 = ptr (h0.next + 1)) {b : Nat} (t4 : t 4 = .int .i64 b) (hb : b ≤ S.length) (bc : hh.blks (h0.next + 1) = some ⟨#[vg, vw, .slice none 0 0], 1, true⟩)
    (hdoc : docP S = match dLn S (oneC S) sChannels sChannel b with | .inl z => .inl z | .inr (cs, e) => docE S gs ws cs e)
    (rg : Row m hh 20 gs.length (guesC gs) vg) (rw' : Row m hh 2 ws.length (winsC ws) vw) (o1 : ∀ g ∈ gs, g.ok) (o2 : ∀ w ∈ ws, w.ok) (l1 : gs.length < 256) (l2 : ws.length < 256)
    (hK : ∀ h' L vg vw vc, Ext h0 h' → CfT h' (orN (prF S) (prG S).1) (orN (prF S) (prW S).1) L vg vw vc → L.map (·.1) = orN (prF S) (prC S).1 → K (toldV (prF S) vg vw vc) h') : vcF prog f10.ntmps tb10 (sndC (sndC (sndC (sndC (sndC (sndC (sndC (sndC (sndC (sndC (sndC (bodyC f10)))))))))))) (FnQ prog f10.results.toList h0 K) t hh (.mk _) := by
  obtain ⟨RR, hR1⟩ : ∃ RR, RR = (sndC (sndC (sndC (sndC (sndC (sndC (sndC (sndC (sndC (sndC (sndC (sndC (sndC (sndC (sndC (bodyC f10)))))))))))))))) := ⟨_, rfl⟩
  have hR2 := hR1
  conv at hR2 => rhs; whnf
  have e0 : (sndC (sndC (sndC (sndC (sndC (sndC (sndC (sndC (sndC (sndC (sndC (bodyC f10)))))))))))) = (sndC (sndC (sndC (sndC (sndC (sndC (sndC (sndC (sndC (sndC (sndC (bodyC f10)))))))))))) := rfl
  conv at e0 => rhs; whnf
  rw [e0, ← hR2]
  clear e0 hR2
  have hsz : (txt S).size = S.length := txt_size S
  have hn := E.le
  unfold dLn at hdoc
  by_cases c1 : S.length < b + 1
  · have c1' : (S.length : Int) < (b : Int) + 1 := by omega
    rw [if_pos c1] at hdoc
    simp -dsimp (disch := omega) [t0, t4, hsz, c1']
    refine bad_call ?_
    simp -dsimp (disch := omega) [t2, bT, badV]
    exact RetF.all (by simp (disch := omega) [t2]; rfl) (bad_all hdoc hK (E.then_set _ (Nat.le_refl _)))
  have c1' : ¬ (S.length : Int) < (b : Int) + 1 := by omega
  rw [if_neg c1] at hdoc
  have i0 : ((b : Int)).toNat = b := by omega
  have hb0 := bAt_n S b
  have q0 := nAt1_lt S b
  have hb1 : ((b : Int) + 1) = ((b + 1 : Nat) : Int) := by omega
  simp -dsimp (disch := first | omega | (rw [hsz]; omega)) [t0, t4, hsz, c1', i0, hb0]
  rw [hb1]
  refine dchannels_call hS (by omega) q0 (fun z a' hz => ?_) (fun cs e h' v L hz x hL rc hLr => ?_)
  · rw [hz] at hdoc
    have z4 := dL_inl hz
    obtain ⟨zf, za, ze⟩ := z
    simp only at z4
    subst z4
    simp -dsimp (disch := omega) [t2, bT, badV]
    refine RetF.all (by simp (disch := omega) [t2]; rfl) (bad_all hdoc hK ((E.then_set _ (Nat.le_refl _)).then_alloc _))
  · rw [hz] at hdoc
    have o3 := dL_all (P := Ch.ok) (fun a x b h => oneC_good h) hz
    have he := dL_end (oneC_ok S) (by omega) hz
    have xn := x.le
    obtain ⟨av, cv, ev⟩ := rc.slice
    subst ev
    have bT' := (x.same h0.next (by omega)).trans bT
    have bc' := (x.same (h0.next + 1) (by omega)).trans bc
    simp -dsimp (disch := omega) [t3, badV, bc']
    rw [hR1]
    have bnd : ∀ (b : Blk) (b2 : Blk) {e n : Nat} {cs : List Value} {v : Value}, Row m h' e n cs v → Row m ((h'.set (h0.next + 1) b).alloc b2) e n cs v := fun b b2 _ _ _ _ R => (Row.set R _ _ fun e => by have := (R.blk _ e).1; omega).alloc _
    have up : ∀ {e n : Nat} {cs : List Value} {v : Value}, Row m hh e n cs v → Row m h' e n cs v := fun R => R.mono xn fun i hi => x.same i (R.blk i hi).2
    have dn : ∀ {e n : Nat} {cs : List Value} {v : Value}, Row hh.next h' e n cs v → Row m h' e n cs v := fun R => R.weak hmn
    have ho3 : ∀ x ∈ L, x.1.ok := fun x hx => o3.1 x.1 (by rw [← hL]; exact List.mem_map.2 ⟨x, hx, rfl⟩)
    have hl3 : L.length < 256 := by have := o3.2; rw [← hL, List.length_map] at this; omega
    refine dtail34 (m := m) (gs := gs) (ws := ws) (L := L) (e := e) (((E.trans x).then_set _ (by omega)).then_alloc _) (by rw [blks_alloc_ne _ _ _ (by simp; omega), blks_set_ne _ _ _ _ (by omega)]; exact bT') hm (by simp; omega) hS (by simp -dsimp (disch := omega) [t0]) (by simp -dsimp (disch := omega) [t2]) (by simp -dsimp (disch := omega) [t3]) (by simp -dsimp (disch := omega)) he (by rw [blks_alloc_ne _ _ _ (by simp; omega)]; exact blks_set_eq _ _ _) (by rw [hL]; exact hdoc) (bnd _ _ (up rg)) (bnd _ _ (up rw')) (bnd _ _ (dn rc)) (fun x hx => bnd _ _ (dn (hLr x hx))) o1 o2 ho3 l1 l2 hl3 hK
end
end Go.Proofs.YtmnemfeofhinaaaDoor
namespace Go.Proofs.YtmnemfeofhinaaaDoor
set_option maxRecDepth 100000
open Go Go.Mini Go.Proofs.Tryd

def docC (S : List UInt8) (gs : List Gu) (ws : List Win) (b : Nat) : Flt ⊕ (List Gu × List Win × List Ch) := match dLn S (oneC S) sChannels sChannel b with
  | .inl z => .inl z
  | .inr (cs, e) => docE S gs ws cs e
def docW (S : List UInt8) (gs : List Gu) (a : Nat) : Flt ⊕ (List Gu × List Win × List Ch) := match dLn S (oneW S) sWindows sWindow a with
  | .inl z => .inl z
  | .inr (ws, b) => docC S gs ws b
/-- What is left of a list, behind what is there. -/
def onto {α : Type} (acc : List α) (o : Flt ⊕ (List α × Nat)) : Flt ⊕ (List α × Nat) := match o with
  | .inl z => .inl z
  | .inr (l, e) => .inr (acc ++ l, e)
theorem onto_nil {α : Type} (o : Flt ⊕ (List α × Nat)) : onto [] o = o := by cases o <;> rfl
theorem onto_step {α : Type} (acc : List α) {one : Nat → Option (α × Nat)} {each : ByteArray} {n i a b : Nat} {x : α} (h : one a = some (x, b)) : onto acc (dL one each (n + 1) i a) = onto (acc ++ [x]) (dL one each n (i + 1) b) := by
  rw [dL_succ, h]
  dsimp only
  cases dL one each n (i + 1) b with
  | inl z => rfl
  | inr p => obtain ⟨l, e⟩ := p; simp [onto]
theorem onto_none {α : Type} (acc : List α) {one : Nat → Option (α × Nat)} {each : ByteArray} {n i a : Nat} (h : one a = none) : onto acc (dL one each (n + 1) i a) = .inl (each, (i : Nat), 4) := by
  rw [dL_succ, h]; rfl

section
variable {h0 hh : Hp} {K : Value → Hp → Prop} {S : List UInt8} {t : Tm} {m : Nat} {vg vw vc : Value} {L : List (Ch × Value)} {gs : List Gu} {ws : List Win}
set_option maxHeartbeats 4000000 in
theorem dtail17 (E : Ext h0 hh) (bT : hh.blks h0.next = some ⟨#[.string ⟨#[]⟩, .int .i64 0, .int .i64 0, .slice none 0 0, .slice none 0 0, .slice none 0 0], 1, true⟩) (hm : h0.next + 2 ≤ m) (hmn : m ≤ hh.next) (hS : S.length < 4611686018427387904) (t0 : t 0 = .string (txt S)) (t2 : t 2 = ptr h0.next) (t3 : t 3 = ptr (h0.next + 1)) {a : Nat} (t4 : t 4 = .int .i64 a) (ha : a ≤ S.length) (bc : hh.blks (h0.next + 1) = some ⟨#[vg, .slice none 0 0, .slice none 0 0], 1, true⟩)
    (hdoc : docP S = docW S gs a) (rg : Row m hh 20 gs.length (guesC gs) vg) (o1 : ∀ g ∈ gs, g.ok) (l1 : gs.length < 256)
    (hK : ∀ h' L vg vw vc, Ext h0 h' → CfT h' (orN (prF S) (prG S).1) (orN (prF S) (prW S).1) L vg vw vc → L.map (·.1) = orN (prF S) (prC S).1 → K (toldV (prF S) vg vw vc) h') : vcF prog f10.ntmps tb10 (sndC (sndC (sndC (sndC (sndC (sndC (sndC (bodyC f10)))))))) (FnQ prog f10.results.toList h0 K) t hh (.mk _) := by
  obtain ⟨RR, hR1⟩ : ∃ RR, RR = (sndC (sndC (sndC (sndC (sndC (sndC (sndC (sndC (sndC (sndC (sndC (bodyC f10)))))))))))) := ⟨_, rfl⟩
  have hR2 := hR1
  conv at hR2 => rhs; whnf
  have e0 : (sndC (sndC (sndC (sndC (sndC (sndC (sndC (bodyC f10)))))))) = (sndC (sndC (sndC (sndC (sndC (sndC (sndC (bodyC f10)))))))) := rfl
  conv at e0 => rhs; whnf
  rw [e0, ← hR2]
  clear e0 hR2
  have hsz : (txt S).size = S.length := txt_size S
  have hn := E.le
  unfold docW dLn at hdoc
  by_cases c1 : S.length < a + 1
  · have c1' : (S.length : Int) < (a : Int) + 1 := by omega
    rw [if_pos c1] at hdoc
    simp -dsimp (disch := omega) [t0, t4, hsz, c1']
    refine bad_call ?_
    simp -dsimp (disch := omega) [t2, bT, badV]
    exact RetF.all (by simp (disch := omega) [t2]; rfl) (bad_all hdoc hK (E.then_set _ (Nat.le_refl _)))
  have c1' : ¬ (S.length : Int) < (a : Int) + 1 := by omega
  rw [if_neg c1] at hdoc
  have i0 : ((a : Int)).toNat = a := by omega
  have hb0 := bAt_n S a
  have q0 := nAt1_lt S a
  obtain ⟨N, hN⟩ : ∃ N, N = nAt S a 1 := ⟨_, rfl⟩
  rw [← hN] at hb0 q0 hdoc
  have hb1 : ((a : Int) + 1) = ((a + 1 : Nat) : Int) := by omega
  simp -dsimp (disch := first | omega | (rw [hsz]; omega)) [t0, t4, hsz, c1', i0, hb0]
  rw [hb1]
  refine awp_loop (fun t' h' => Ext h0 h' ∧ m ≤ h'.next ∧ h'.blks h0.next = some ⟨#[.string ⟨#[]⟩, .int .i64 0, .int .i64 0, .slice none 0 0, .slice none 0 0, .slice none 0 0], 1, true⟩ ∧ ∃ (k b : Nat) (acc : List Win) (vw : Value), k ≤ N ∧ b ≤ S.length ∧ t' 0 = .string (txt S) ∧ t' 2 = ptr h0.next ∧ t' 3 = ptr (h0.next + 1) ∧ t' 4 = .int .i64 b ∧ t' 7 = .int .i64 N ∧ t' 8 = .int .i64 k ∧ h'.blks (h0.next + 1) = some ⟨#[vg, vw, .slice none 0 0], 1, true⟩ ∧ Row m h' 20 gs.length (guesC gs) vg ∧ Row m h' 2 k (winsC acc) vw ∧ acc.length = k ∧ (∀ w ∈ acc, w.ok) ∧ (∀ j, sblk vg = some j → sblk vw ≠ some j) ∧
    dL (oneW S) sWindow N 0 (a + 1) = onto acc (dL (oneW S) sWindow (N - k) k b)) (fun t' _ => N - ivN (t' 8)) ?_ ?_
  · simp -dsimp (disch := omega) [t0, t2, t3]
    refine ⟨E, hmn, bT, 0, by omega, a + 1, by omega, rfl, rfl, [], _, bc, rg, Row.nil _ _ _, rfl, (fun w hw => by cases hw), (fun j _ => by simp [sblk]), (onto_nil _).symm⟩
  · rintro t' h' ⟨E', hmn', bT', k, b, acc, vw, hk, hb, g0, g2, g3, g4, g7, g8, bc', rg', rw', hacc, hok, hsep, heq⟩
    refine vcF_sound (tb := tb10) mixed _ (by kernel_rfl) ?_
    simp -dsimp (disch := omega) [g7, g8]
    have E'n := E'.le
    refine CondF_dec (fun hc => ?_) (fun hc => ?_)
    · rw [show N - k = (N - (k + 1)) + 1 by omega] at heq
      by_cases c2 : S.length < b + 3
      · have c2' : (S.length : Int) < (b : Int) + 3 := by omega
        rw [onto_none (one := oneW S) acc (by unfold oneW; rw [if_pos c2])] at heq
        rw [heq] at hdoc
        simp -dsimp (disch := omega) [g0, g4, g8, hsz, c2']
        refine bad_call ?_
        simp -dsimp (disch := omega) [g2, bT', badV]
        exact RetF.all (by simp (disch := omega) [g2]; rfl) (bad_all hdoc hK (E'.then_set _ (Nat.le_refl _)))
      · have c2' : ¬ (S.length : Int) < (b : Int) + 3 := by omega
        rw [onto_step (one := oneW S) acc (by unfold oneW; rw [if_neg c2])] at heq
        obtain ⟨T2, hT2⟩ : ∃ T2, T2 = (S.drop (b + 1)).take 2 := ⟨_, rfl⟩
        have hsl : (txt S).extract (b + 1) (b + 3) = txt T2 := by rw [ext_txt, hT2, show b + 3 - (b + 1) = 2 by omega]
        have j0 : ((b : Int)).toNat = b := by omega
        have j1 : ((b : Int) + 1).toNat = b + 1 := by omega
        have j3 : ((b : Int) + 3).toNat = b + 3 := by omega
        have hb3 := bAt_n S b
        have q1 := nAt1_lt S b
        have q2 := nAt2_lt S (b + 1)
        simp -dsimp (disch := first | omega | (rw [hsz]; omega)) [g0, g3, g4, hsz, c2', bc', j0, j1, j3, hb3, hsl, tb10_26]
        refine num_call (by rw [hT2, List.length_take]; omega) ?_
        rw [show numN T2 = nAt S (b + 1) 2 by rw [hT2]; rfl]
        simp -dsimp (disch := first | omega | (rw [hsz]; omega)) [tb10_26]
        have hrowA := rw'.alloc ⟨#[.int .u8 (nAt S b 1), .int .u16 (nAt S (b + 1) 2)], 2, true⟩
        refine app_row hrowA (by simp; omega) (src_slice _ 2 1 2 ⟨h'.next, 0, none⟩ #[.int .u8 (nAt S b 1), .int .u16 (nAt S (b + 1) 2)] (by simp (disch := omega))) (by omega) rfl (by unfold ROOM; omega) fun v5 h5 r1 r2 r3 r4 => ?_
        have r2' : h5.next = h'.next + 2 := by rw [r2]; simp
        have keep : ∀ j, j < h'.next → sblk vw ≠ some j → h5.blks j = h'.blks j := fun j hj hv => by rw [r4 j (by simp; omega) hv, blks_alloc_ne _ _ _ (by omega)]
        have kw : ∀ j, j < m → sblk vw ≠ some j := fun j hj e => by have := (rw'.blk _ e).1; omega
        have bc5 : h5.blks (h0.next + 1) = some ⟨#[vg, vw, .slice none 0 0], 1, true⟩ := (keep _ (by omega) (kw _ (by omega))).trans bc'
        have bT5 := (keep h0.next (by omega) (kw _ (by omega))).trans bT'
        rw [show (#[Value.int .u8 (nAt S b 1), .int .u16 (nAt S (b + 1) 2)] : Array Value).toList = winC ⟨nAt S b 1, nAt S (b + 1) 2⟩ from rfl, ← winsC_snoc] at r1
        have rg5 : Row m h5 20 gs.length (guesC gs) vg := rg'.mono (by omega) fun j hj => keep j (rg'.blk j hj).2 (hsep j hj)
        have sv5 : ∀ j, sblk v5 = some j → h'.next ≤ j := fun j e => by rw [r3] at e; simp at e; omega
        have sep5 : ∀ j, sblk vg = some j → sblk v5 ≠ some j := fun j hj e => by have := (rg'.blk j hj).2; have := sv5 j e; omega
        obtain ⟨av, cv, ev⟩ := r1.slice
        subst ev
        have E5 : Ext h0 h5 := ⟨by omega, fun j hj => (keep j (by omega) (kw j (by omega))).trans (E'.same j hj)⟩
        simp -dsimp (disch := omega) [g0, g2, g3, g4, g7, g8, bc5, tb10_26]
        refine ⟨⟨E5.then_set _ (by omega), by omega, bT5, k + 1, by omega, b + 3, by omega, by omega, by omega, Row.set rg5 _ _ (fun e => by have := (rg5.blk _ e).1; omega), acc ++ [⟨nAt S b 1, nAt S (b + 1) 2⟩], Row.set r1 _ _ (fun e => by have := (r1.blk _ e).1; omega), by simp [hacc], fun w hw => ?_, sep5, heq⟩, by simp [ivN, g8]; omega⟩
        rcases List.mem_append.1 hw with hw | hw
        · exact hok w hw
        · rw [List.mem_singleton] at hw
          subst hw
          exact ⟨q1, q2⟩
    · have hkN : k = N := by omega
      subst hkN
      rw [Nat.sub_self] at heq
      have heq : dL (oneW S) sWindow k 0 (a + 1) = .inr (acc, b) := heq.trans (by simp [onto, dL])
      rw [heq] at hdoc
      simp -dsimp (disch := omega) [g8]
      rw [hR1]
      subst hacc
      exact dtail28 E' bT' hm hmn' hS (by simp -dsimp (disch := omega) [g0]) (by simp -dsimp (disch := omega) [g2]) (by simp -dsimp (disch := omega) [g3]) (by simp -dsimp (disch := omega) [g4]) hb bc' hdoc rg' rw' o1 hok l1 q0 hK
end
end Go.Proofs.YtmnemfeofhinaaaDoor
namespace Go.Proofs.YtmnemfeofhinaaaDoor
set_option maxRecDepth 100000
open Go Go.Mini Go.Proofs.Tryd

section
variable {h : Hp} {K : Value → Hp → Prop} {S : List UInt8}
theorem ext_take {S : List UInt8} {n : Nat} : (txt S).extract 0 n = txt (S.take n) := by rw [ext_txt]; rfl
set_option maxHeartbeats 8000000 in
theorem refParse_call (hS : S.length < 4611686018427387904)
    (hK : ∀ h' L vg vw vc, Ext h h' → CfT h' (orN (prF S) (prG S).1) (orN (prF S) (prW S).1) L vg vw vc → L.map (·.1) = orN (prF S) (prC S).1 → K (toldV (prF S) vg vw vc) h') :
    ACall prog 10 [.string (txt S)] h K := by
  refine acallF_of tb10 func10 rfl rfl mixed (by kernel_rfl) fun hwf => ?_
  obtain ⟨RR, hR1⟩ : ∃ RR, RR = (sndC (sndC (sndC (sndC (sndC (sndC (sndC (bodyC f10)))))))) := ⟨_, rfl⟩
  have hR2 := hR1
  conv at hR2 => rhs; whnf
  have hsz : (txt S).size = S.length := txt_size S
  obtain ⟨b0, hb0⟩ : ∃ b : Blk, b = ⟨#[.string ⟨#[]⟩, .int .i64 0, .int .i64 0, .slice none 0 0, .slice none 0 0, .slice none 0 0], 1, true⟩ := ⟨_, rfl⟩
  obtain ⟨b1, hb1⟩ : ∃ b : Blk, b = ⟨#[.slice none 0 0, .slice none 0 0, .slice none 0 0], 1, true⟩ := ⟨_, rfl⟩
  have hdoc : docP S = if S.length < 4 then .inl (sMagic, 0, 4) else if S.take 4 ≠ magicL then .inl (sMagic, 0, 3) else match dLn S (oneG S) sGuests sGuest 4 with
    | .inl z => .inl z
    | .inr (gs, a) => docW S gs a := rfl
  by_cases c1 : S.length < 4
  · have c1' : (S.length : Int) < 4 := by omega
    rw [if_pos c1] at hdoc
    simp -dsimp (disch := omega) [hsz, c1']
    refine bad_call ?_
    simp -dsimp (disch := omega) [badV]
    exact RetF.all (by simp (disch := omega); rfl) (bad_all hdoc hK ((Ext.alloc _ _).then_alloc _))
  have c1' : ¬ (S.length : Int) < 4 := by omega
  rw [if_neg c1] at hdoc
  have e4 : (txt S).extract 0 4 = txt (S.take 4) := ext_take
  by_cases c2 : S.take 4 = magicL
  · rw [if_neg (by simpa using c2)] at hdoc
    unfold dLn at hdoc
    have c2' : txt (S.take 4) = txt magicL := by rw [c2]
    by_cases c3 : S.length < 5
    · have c3' : (S.length : Int) < 5 := by omega
      rw [if_pos (by omega)] at hdoc
      simp -dsimp (disch := first | omega | (rw [hsz]; omega)) [hsz, c1', e4, c2', c3', magicL]
      refine bad_call ?_
      simp -dsimp (disch := omega) [badV]
      exact RetF.all (by simp (disch := omega); rfl) (bad_all hdoc hK ((Ext.alloc _ _).then_alloc _))
    · have c3' : ¬ (S.length : Int) < 5 := by omega
      rw [if_neg (by omega)] at hdoc
      simp -dsimp (disch := first | omega | (rw [hsz]; omega)) [hsz, c1', e4, c2', c3', magicL]
      have q0 := nAt1_lt S 4
      have hb4 := bAt_n S 4
      obtain ⟨N, hN⟩ : ∃ N, N = nAt S 4 1 := ⟨_, rfl⟩
      rw [← hN] at hb4 q0 hdoc
      obtain ⟨H, hH⟩ : ∃ H, H = (h.alloc ⟨#[.string (txt []), .int .i64 0, .int .i64 0, .slice none 0 0, .slice none 0 0, .slice none 0 0], 1, true⟩).alloc ⟨#[.slice none 0 0, .slice none 0 0, .slice none 0 0], 1, true⟩ := ⟨_, rfl⟩
      have hx : Ext h H := by rw [hH]; exact (Ext.alloc _ _).then_alloc _
      have Hn : H.next = h.next + 2 := by rw [hH]; simp
      have B0 : H.blks h.next = some ⟨#[.string ⟨#[]⟩, .int .i64 0, .int .i64 0, .slice none 0 0, .slice none 0 0, .slice none 0 0], 1, true⟩ := by rw [hH, blks_alloc_ne _ _ _ (by simp)]; exact blks_alloc_eq _ _
      have B1 : H.blks (h.next + 1) = some ⟨#[.slice none 0 0, .slice none 0 0, .slice none 0 0], 1, true⟩ := by rw [hH]; exact blks_alloc_eq (h.alloc _) _
      rw [← hH]
      refine awp_loop (fun t' h' => Ext h h' ∧ h.next + 2 ≤ h'.next ∧ h'.blks h.next = some ⟨#[.string ⟨#[]⟩, .int .i64 0, .int .i64 0, .slice none 0 0, .slice none 0 0, .slice none 0 0], 1, true⟩ ∧ ∃ (k b : Nat) (acc : List Gu) (vg : Value), k ≤ N ∧ b ≤ S.length ∧ t' 0 = .string (txt S) ∧ t' 2 = ptr h.next ∧ t' 3 = ptr (h.next + 1) ∧ t' 4 = .int .i64 b ∧ t' 5 = .int .i64 k ∧ h'.blks (h.next + 1) = some ⟨#[vg, .slice none 0 0, .slice none 0 0], 1, true⟩ ∧ Row (h.next + 2) h' 20 k (guesC acc) vg ∧ acc.length = k ∧ (∀ w ∈ acc, w.ok) ∧
        dL (oneG S) sGuest N 0 5 = onto acc (dL (oneG S) sGuest (N - k) k b)) (fun t' _ => N - ivN (t' 5)) ?_ ?_
      · simp -dsimp (disch := omega)
        exact ⟨hx, by omega, B0, 0, by omega, 5, by omega, by omega, by omega, [], _, B1, Row.nil _ _ _, rfl, (fun w hw => by cases hw), (onto_nil _).symm⟩
      · rintro t' h' ⟨E', hmn', bT', k, b, acc, vg, hk, hb, g0, g2, g3, g4, g5, bc', rg', hacc, hok, heq⟩
        refine vcF_sound (tb := tb10) mixed _ (by kernel_rfl) ?_
        rw [← hR2]
        simp -dsimp (disch := first | omega | (rw [hsz]; omega)) [g0, g5, hb4]
        have E'n := E'.le
        refine CondF_dec (fun hc => ?_) (fun hc => ?_)
        · rw [show N - k = (N - (k + 1)) + 1 by omega] at heq
          by_cases c2 : S.length < b + 23
          · have c2' : (S.length : Int) < (b : Int) + 23 := by omega
            rw [onto_none (one := oneG S) acc (by unfold oneG; rw [if_pos c2])] at heq
            rw [heq] at hdoc
            simp -dsimp (disch := omega) [g0, g4, g5, hsz, c2']
            refine bad_call ?_
            simp -dsimp (disch := omega) [g2, bT', badV]
            exact RetF.all (by simp (disch := omega) [g2]; rfl) (bad_all hdoc hK (E'.then_set _ (Nat.le_refl _)))
          · have c2' : ¬ (S.length : Int) < (b : Int) + 23 := by omega
            rw [onto_step (one := oneG S) acc (by unfold oneG; rw [if_neg c2])] at heq
            obtain ⟨T2, hT2⟩ : ∃ T2, T2 = (S.drop b).take 23 := ⟨_, rfl⟩
            have hsl : (txt S).extract b (b + 23) = txt T2 := by rw [ext_txt, hT2, show b + 23 - b = 23 by omega]
            have j0 : ((b : Int)).toNat = b := by omega
            have j3 : ((b : Int) + 23).toNat = b + 23 := by omega
            simp -dsimp (disch := first | omega | (rw [hsz]; omega)) [g0, g3, g4, hsz, c2', bc', j0, j3, hsl, tb10_26]
            refine dguest_call (by rw [hT2, List.length_take, List.length_drop]; omega) ?_
            rw [hT2, dG_cut]
            obtain ⟨g, hg⟩ : ∃ g, g = dG S b := ⟨_, rfl⟩
            rw [← hg] at heq ⊢
            have gok : g.ok := by rw [hg]; exact dG_ok S b
            obtain ⟨A, hAe⟩ : ∃ A, A = (guC g).toArray := ⟨_, rfl⟩
            rw [← hAe]
            have hone : oneAll A.toList = true := by rw [hAe]; exact guC_one _
            have hsA : A.size = 20 := by rw [hAe]; simpa using Gu.len gok
            have hex : A.extract 0 20 = A := by rw [← hsA]; exact Array.extract_size
            have hput : Mini.putL #[Value.int .u8 0, Value.int .u32 0, Value.int .u8 0, Value.int .u8 0, Value.int .u8 0, Value.int .u8 0, Value.int .u8 0, Value.int .u8 0, Value.int .u8 0, Value.int .u8 0, Value.int .u8 0, Value.int .u8 0, Value.int .u8 0, Value.int .u8 0, Value.int .u8 0, Value.int .u8 0, Value.int .u8 0, Value.int .u8 0, Value.int .u8 0, Value.int .u8 0] 0 A.toList = A := putL_full (by rw [hsA]; rfl)
            simp -dsimp (disch := first | omega | (rw [hsz]; omega)) [g3, bc', hsA, hone, hput, hex, blks_alloc_ne, Nat.ne_of_lt]
            have hrowA := (rg'.alloc ⟨A, 1, true⟩).alloc ⟨A, 20, true⟩
            refine app_row hrowA (by simp; omega) (src_slice _ 20 1 2 ⟨h'.next + 1, 0, none⟩ A (by simp (disch := omega) [hsA])) (by omega) (by omega) (by unfold ROOM; omega) fun v5 h5 r1 r2 r3 r4 => ?_
            have r2' : h5.next = h'.next + 3 := by rw [r2]; simp
            have keep : ∀ j, j < h'.next → sblk vg ≠ some j → h5.blks j = h'.blks j := fun j hj hv => by rw [r4 j (by simp; omega) hv, blks_alloc_ne _ _ _ (by simp; omega), blks_alloc_ne _ _ _ (by omega)]
            have kw : ∀ j, j < h.next + 2 → sblk vg ≠ some j := fun j hj e => by have := (rg'.blk _ e).1; omega
            have bc5 : h5.blks (h.next + 1) = some ⟨#[vg, .slice none 0 0, .slice none 0 0], 1, true⟩ := (keep _ (by omega) (kw _ (by omega))).trans bc'
            have bT5 := (keep h.next (by omega) (kw _ (by omega))).trans bT'
            have hAl : A.toList = guC g := by rw [hAe]
            rw [hAl, ← guesC_snoc] at r1
            obtain ⟨av, cv, ev⟩ := r1.slice
            subst ev
            have E5 : Ext h h5 := ⟨by omega, fun j hj => (keep j (by omega) (kw j (by omega))).trans (E'.same j hj)⟩
            simp -dsimp (disch := omega) [g0, g2, g3, g4, g5, bc5, tb10_26]
            refine ⟨⟨E5.then_set _ (by omega), by omega, bT5, k + 1, by omega, b + 23, by omega, by omega, by omega, acc ++ [g], Row.set r1 _ _ (fun e => by have := (r1.blk _ e).1; omega), by simp [hacc], fun w hw => ?_, heq⟩, by simp [ivN, g5]; omega⟩
            rcases List.mem_append.1 hw with hw | hw
            · exact hok w hw
            · rw [List.mem_singleton] at hw
              subst hw
              exact gok
        · have hkN : k = N := by omega
          subst hkN
          rw [Nat.sub_self] at heq
          have heq : dL (oneG S) sGuest k 0 5 = .inr (acc, b) := heq.trans (by simp [onto, dL])
          rw [heq] at hdoc
          rw [hR1]
          subst hacc
          exact dtail17 E' bT' (Nat.le_refl _) hmn' hS g0 g2 g3 g4 hb bc' hdoc rg' hok q0 hK
  · rw [if_pos c2] at hdoc
    have c2' : ¬ S.take 4 = [65, 76, 67, 49] := c2
    simp -dsimp (disch := first | omega | (rw [hsz]; omega)) [hsz, c1', e4, c2']
    refine bad_call ?_
    simp -dsimp (disch := omega) [badV]
    exact RetF.all (by simp (disch := omega); rfl) (bad_all hdoc hK ((Ext.alloc _ _).then_alloc _))
end
end Go.Proofs.YtmnemfeofhinaaaDoor
