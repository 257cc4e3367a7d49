/-
  The document's memory: Write, Read, Put, Bytes.
-/
import Derived.Test.YtgafaelakjnemaaR2
set_option linter.unusedSimpArgs false
set_option linter.unusedVariables false
namespace Go.Proofs.Ytgafaelakjnemaa
open Go Go.Mini Go.Proofs.Try

theorem VCh.trans {h h' : Hp} {v v' v'' : Value} (x : VCh h v v') (y : VCh h' v' v'') (hn : h.next ≤ h'.next) : VCh h v v'' := fun b hb =>
  (y b hb).elim (fun e => x b e) fun e => .inr (by omega)
theorem shr8' (v k : Nat) (hk : k < 8) : ((v : Int).fdiv (2 ^ (min (8 * (k : Int)).toNat IntKind.u64.bits))) = ((v / 256 ^ k : Nat) : Int) := by
  rw [show IntKind.u64.bits = 64 from rfl, show min (8 * (k : Int)).toNat 64 = 8 * k from by omega, Int.fdiv_eq_ediv_of_nonneg _ (Int.le_of_lt (Int.pow_pos (by omega))), Int.pow_mul, show (2 : Int) ^ 8 = 256 from rfl]
  rw [Int.natCast_ediv, Int.natCast_pow]
  rfl
theorem shl8 (v k : Nat) (hv : v < 256) (hk : k < 8) : IntKind.u64.wrap ((v : Int) * 2 ^ (min (8 * (k : Int)).toNat IntKind.u64.bits)) = ((v * 256 ^ k : Nat) : Int) := by
  rw [show IntKind.u64.bits = 64 from rfl, show min (8 * (k : Int)).toNat 64 = 8 * k from by omega, Int.pow_mul, show (2 : Int) ^ 8 = 256 from rfl]
  have hp : 256 ^ k ≤ 256 ^ 7 := Nat.pow_le_pow_right (by omega) (by omega)
  have hm : v * 256 ^ k ≤ 255 * 256 ^ 7 := Nat.mul_le_mul (by omega) hp
  have e : (v : Int) * 256 ^ k = ((v * 256 ^ k : Nat) : Int) := by rw [Int.natCast_mul, Int.natCast_pow]; rfl
  rw [e, IntWalk.u64_in _ (by omega)]

section
variable {h : Hp} {m r N : Nat} {v : Value} {L : By} {a : Nat} {w : Int} {K : Value → Hp → Prop}

set_option maxRecDepth 100000 in
theorem rfWrite_call {x y : Nat} {n : Int} (q : Rf m h r N v L a w) (hl : L.length ≤ 900000) (hx : x < 18446744073709551616) (hy : y < 18446744073709551616)
    (hK1 : wok n ∧ x + n.toNat ≤ N → ∀ h' v', Rf m h' r N v' (setN L x (fun j => y / 256 ^ j % 256) n.toNat) a (toW a w x n.toNat) → RCh h h' r v → VCh h v v' → K (.bool true) h') (hK2 : ¬ (wok n ∧ x + n.toNat ≤ N) → K (.bool false) h) : ACall prog 36 [ptr r, .int .u64 x, .int .u64 y, .int .i64 n] h K := by
  refine acallF_of tb0 func36 rfl rfl mixed (by kernel_rfl) fun hwf => ?_
  have hN := q.N1
  by_cases hw : wok n
  · obtain ⟨s, rfl, hs0, hs8⟩ : ∃ s : Nat, n = s ∧ 0 < s ∧ s ≤ 8 := ⟨n.toNat, by unfold wok at hw; omega, by unfold wok at hw; omega, by unfold wok at hw; omega⟩
    rw [Int.toNat_natCast] at hK1 hK2
    simp -dsimp (disch := omega)
    refine width_call ?_
    rw [decide_eq_true hw]
    simp -dsimp (disch := omega)
    refine rfThere_call q ?_
    by_cases hxs : x + s ≤ N
    · have hK := hK1 ⟨hw, hxs⟩
      simp -dsimp (disch := omega) [hxs]
      refine awp_loop (fun t h' => ∃ (k : Nat) (v' : Value), k ≤ s ∧ Rf m h' r N v' (setN L x (fun j => y / 256 ^ j % 256) k) a (toW a w x k) ∧ RCh h h' r v ∧ VCh h v v' ∧ t 0 = ptr r ∧ t 1 = .int .u64 x ∧ t 2 = .int .u64 y ∧ t 3 = .int .i64 s ∧ t 9 = .int .i64 k) (fun t _ => s - ivN (t 9)) ?_ ?_
      · simp -dsimp (disch := omega)
        exact ⟨0, by omega, v, by rw [toW_zero]; exact q, RCh.refl _ _ _, VCh.refl _ _, rfl⟩
      · rintro t h' ⟨k, v', hk, q1, c1, vc1, g0, g1, g2, g3, g9⟩
        refine vcF_sound mixed (tb := tb0) _ (by kernel_rfl) ?_
        simp -dsimp (disch := omega) [g0, g1, g2, g3, g9]
        refine CondF_dec (fun hc2 => ?_) (fun hc2 => ?_)
        · have hk2 : k < s := by omega
          have e1 := shr8' y k (by omega)
          have hd2 : y / 256 ^ k % 256 = (y / 256 ^ k) % 256 := rfl
          obtain ⟨d, hd⟩ : ∃ d, d = y / 256 ^ k := ⟨_, rfl⟩
          rw [← hd] at e1
          have hdl : d < 18446744073709551616 := by rw [hd]; exact Nat.lt_of_le_of_lt (Nat.div_le_self _ _) hy
          simp -dsimp (disch := omega) [g0, g1, g2, g3, g9, e1]
          rw [show (x : Int) + k = ((x + k : Nat) : Int) from by omega, show (d : Int) % 256 = ((d % 256 : Nat) : Int) from by omega]
          have hsn := setN_length L x (fun j => y / 256 ^ j % 256) k
          refine rfSet_call q1 (by omega) (by omega) (by omega) fun h2 v2 q2 c2 vc2 => ?_
          simp -dsimp (disch := omega) [g0, g1, g2, g3, g9]
          refine ⟨⟨k + 1, by omega, v2, ?_, c1.trans c2 vc1, vc1.trans vc2 c1.le, by simp⟩, by simp [ivN]; omega⟩
          rw [toW_succ] at q2
          rw [hd] at q2
          exact q2
        · have : k = s := by omega
          subst this
          simp -dsimp (disch := omega) [g0, g1, g2, g3, g9]
          exact RetF.all (by simp) (hK _ _ q1 c1 vc1)
    · have hK := hK2 fun h => hxs h.2
      simp -dsimp (disch := omega) [hxs]
      exact RetF.same hwf (by simp) (Nat.zero_le _) (fun _ _ => rfl) hK
  · have hK := hK2 fun h => hw h.1
    simp -dsimp (disch := omega)
    refine width_call ?_
    rw [decide_eq_false hw]
    simp -dsimp (disch := omega)
    exact RetF.same hwf (by simp) (Nat.zero_le _) (fun _ _ => rfl) hK

set_option maxRecDepth 100000 in
theorem rfRead_call {x : Nat} {n : Int} (q : Rf m h r N v L a w) (hl : L.length ≤ 1000000) (hx : x < 18446744073709551616)
    (hK1 : wok n ∧ x + n.toNat ≤ N → K (.tuple #[.int .u64 (leN (look L) x n.toNat), .bool true]) h) (hK2 : ¬ (wok n ∧ x + n.toNat ≤ N) → K (.tuple #[.int .u64 0, .bool false]) h) : ACall prog 35 [ptr r, .int .u64 x, .int .i64 n] h K := by
  refine acallF_of tb0 func35 rfl rfl mixed (by kernel_rfl) fun hwf => ?_
  have hN := q.N1
  have hM : ∀ i, look L i < 256 := look_lt fun e he => (q.ok e he).2
  by_cases hw : wok n
  · obtain ⟨s, rfl, hs0, hs8⟩ : ∃ s : Nat, n = s ∧ 0 < s ∧ s ≤ 8 := ⟨n.toNat, by unfold wok at hw; omega, by unfold wok at hw; omega, by unfold wok at hw; omega⟩
    rw [Int.toNat_natCast] at hK1 hK2
    simp -dsimp (disch := omega)
    refine width_call ?_
    rw [decide_eq_true hw]
    simp -dsimp (disch := omega)
    refine rfThere_call q ?_
    by_cases hxs : x + s ≤ N
    · have hK := hK1 ⟨hw, hxs⟩
      simp -dsimp (disch := omega) [hxs]
      refine awp_loop (fun t h' => h' = h ∧ ∃ (k : Nat), k ≤ s ∧ t 0 = ptr r ∧ t 1 = .int .u64 x ∧ t 2 = .int .i64 s ∧ t 8 = .int .u64 (leN (look L) x k) ∧ t 9 = .int .i64 k) (fun t _ => s - ivN (t 9)) ?_ ?_
      · simp -dsimp (disch := omega)
        exact ⟨0, by omega, by simp [leN], rfl⟩
      · rintro t h' ⟨rfl, k, hk, g0, g1, g2, g8, g9⟩
        refine vcF_sound mixed (tb := tb0) _ (by kernel_rfl) ?_
        simp -dsimp (disch := omega) [g0, g1, g2, g8, g9]
        refine CondF_dec (fun hc2 => ?_) (fun hc2 => ?_)
        · have hk2 : k < s := by omega
          simp -dsimp (disch := omega) [g0, g1, g2, g8, g9]
          rw [show (x : Int) + k = ((x + k : Nat) : Int) from by omega]
          refine byte_call q hl ?_
          have e1 := shl8 (look L (x + k)) k (hM _) (by omega)
          have e2 := leN_succ (look L) k x
          have e3 := leN_lt hM (k + 1) x
          have hp : 256 ^ (k + 1) ≤ 256 ^ 8 := Nat.pow_le_pow_right (by omega) (by omega)
          have hm8 := hM (x + k)
          obtain ⟨c, hc⟩ : ∃ c, c = look L (x + k) := ⟨_, rfl⟩
          rw [← hc] at e1 e2 hm8
          rw [← hc]
          obtain ⟨d, hd⟩ : ∃ d, d = c * 256 ^ k := ⟨_, rfl⟩
          rw [← hd] at e1 e2
          obtain ⟨V, hV⟩ : ∃ V, V = leN (look L) x k := ⟨_, rfl⟩
          rw [← hV] at g8 e2
          simp -dsimp (disch := omega) [g0, g1, g2, g8, g9, e1]
          refine ⟨⟨k + 1, by omega, ?_, by simp⟩, by simp [ivN]; omega⟩
          rw [e2, hV]; simp
        · have : k = s := by omega
          subst this
          simp -dsimp (disch := omega) [g0, g1, g2, g8, g9]
          exact RetF.same hwf (by simp) (by simp [vtop, vtopL]) (fun _ _ => rfl) hK
    · have hK := hK2 fun h => hxs h.2
      simp -dsimp (disch := omega) [hxs]
      exact RetF.same hwf (by simp) (by simp [vtop, vtopL]) (fun _ _ => rfl) hK
  · have hK := hK2 fun h => hw h.1
    simp -dsimp (disch := omega)
    refine width_call ?_
    rw [decide_eq_false hw]
    simp -dsimp (disch := omega)
    exact RetF.same hwf (by simp) (by simp [vtop, vtopL]) (fun _ _ => rfl) hK

set_option maxRecDepth 100000 in
theorem rfPut_call {x : Nat} {l : List UInt8} (q : Rf m h r N v L a w) (hL : L.length ≤ 900000) (hl : l.length < 9223372036854775808) (hx : x < 18446744073709551616)
    (hK1 : x + l.length ≤ N → ∀ h' v', Rf m h' r N v' (setN L x (fun j => ((l[j]?).getD 0).toNat) l.length) a (toW a w x l.length) → RCh h h' r v → VCh h v v' → K (.int .i64 0) h') (hK2 : ¬ x + l.length ≤ N → K (.int .i64 6) h) : ACall prog 37 [ptr r, .int .u64 x, .string (txt l)] h K := by
  refine acallF_of tb0 func37 rfl rfl mixed (by kernel_rfl) fun hwf => ?_
  have hN := q.N1
  obtain ⟨s, hs⟩ : ∃ s, s = l.length := ⟨_, rfl⟩
  have hz : (txt l).size = s := hs.symm
  rw [← hs] at hl hK1 hK2
  simp -dsimp (disch := omega) [hz]
  refine rfThere_call q ?_
  by_cases hxs : x + s ≤ N
  · have hK := hK1 hxs
    simp -dsimp (disch := omega) [hxs]
    refine awp_loop (fun t h' => ∃ (k : Nat) (v' : Value), k ≤ s ∧ Rf m h' r N v' (setN L x (fun j => ((l[j]?).getD 0).toNat) k) a (toW a w x k) ∧ RCh h h' r v ∧ VCh h v v' ∧ t 0 = ptr r ∧ t 1 = .int .u64 x ∧ t 2 = .string (txt l) ∧ t 7 = .int .i64 k) (fun t _ => s - ivN (t 7)) ?_ ?_
    · simp -dsimp (disch := omega)
      exact ⟨0, by omega, v, by rw [toW_zero]; exact q, RCh.refl _ _ _, VCh.refl _ _, rfl⟩
    · rintro t h' ⟨k, v', hk, q1, c1, vc1, g0, g1, g2, g7⟩
      refine vcF_sound mixed (tb := tb0) _ (by kernel_rfl) ?_
      simp -dsimp (disch := omega) [g0, g1, g2, g7, hz]
      refine CondF_dec (fun hc2 => ?_) (fun hc2 => ?_)
      · have hk2 : k < s := by omega
        have e1 : bAt (txt l) k = (((l[k]?).getD 0).toNat : Nat) := bAt_txt l k
        have e2 := UInt8.toNat_lt ((l[k]?).getD 0)
        obtain ⟨d, hd⟩ : ∃ d, d = ((l[k]?).getD 0).toNat := ⟨_, rfl⟩
        rw [← hd] at e1 e2
        simp -dsimp (disch := omega) [g0, g1, g2, g7, hz, e1]
        rw [show (x : Int) + k = ((x + k : Nat) : Int) from by omega]
        have hsn := setN_length L x (fun j => ((l[j]?).getD 0).toNat) k
        refine rfSet_call q1 (by omega) (by omega) (by omega) fun h2 v2 q2 c2 vc2 => ?_
        simp -dsimp (disch := omega) [g0, g1, g2, g7]
        refine ⟨⟨k + 1, by omega, v2, ?_, c1.trans c2 vc1, vc1.trans vc2 c1.le, by simp⟩, by simp [ivN]; omega⟩
        rw [toW_succ, hd] at q2
        exact q2
      · have : k = s := by omega
        subst this
        simp -dsimp (disch := omega) [g0, g1, g2, g7]
        exact RetF.all (by simp) (hK _ _ q1 c1 vc1)
  · have hK := hK2 hxs
    simp -dsimp (disch := omega) [hxs]
    exact RetF.same hwf (by simp) (Nat.zero_le _) (fun _ _ => rfl) hK

theorem bytesM_succ (M : Nat → Nat) (x n : Nat) : bytesM M x (n + 1) = bytesM M x n ++ [UInt8.ofNat (M (x + n))] := by
  unfold bytesM
  rw [List.range_succ, List.map_append]; rfl
set_option maxRecDepth 100000 in
theorem rfBytes_call {x n : Nat} (q : Rf m h r N v L a w) (hL : L.length ≤ 1000000) (hx : x < 18446744073709551616) (hn : n < 18446744073709551616)
    (hK1 : x + n ≤ N → ∀ h', Ext h h' → K (.tuple #[.string (txt (bytesM (look L) x n)), .int .i64 0]) h') (hK2 : ¬ x + n ≤ N → K (.tuple #[.string (txt []), .int .i64 6]) h) : ACall prog 38 [ptr r, .int .u64 x, .int .u64 n] h K := by
  refine acallF_of tb0 func38 rfl rfl mixed (by kernel_rfl) fun hwf => ?_
  have hN := q.N1
  have hM : ∀ i, look L i < 256 := look_lt fun e he => (q.ok e he).2
  simp -dsimp (disch := omega)
  refine rfThere_call q ?_
  by_cases hxs : x + n ≤ N
  · have hK := hK1 hxs
    simp -dsimp (disch := omega) [hxs]
    refine awp_loop (fun t h' => Ext h h' ∧ ∃ (k : Nat), k ≤ n ∧ t 0 = ptr r ∧ t 1 = .int .u64 x ∧ t 2 = .int .u64 n ∧ t 9 = .int .u64 k ∧ Row h.next h' 1 (bytesM (look L) x k).length ((bytesM (look L) x k).map byteV) (t 8)) (fun t _ => n - ivN (t 9)) ?_ ?_
    · simp -dsimp (disch := omega)
      exact ⟨Ext.refl _, 0, by omega, rfl, Row.nil _ _ _⟩
    · rintro t h' ⟨he, k, hk, g0, g1, g2, g9, hr⟩
      have he0 := he.le
      have qe : Rf m h' r N v L a w := ⟨by rw [he.same _ q.rlt]; exact q.blk, q.row.mono he.le fun b hb => he.same _ (q.row.blk b hb).2, Nat.lt_of_lt_of_le q.rlt he.le, q.mr, Nat.le_trans q.mh he.le, q.vr, q.N1, q.a1, q.w0, q.ok, q.uq⟩
      refine vcF_sound mixed (tb := tb0) _ (by kernel_rfl) ?_
      simp -dsimp (disch := omega) [g0, g1, g2, g9]
      refine CondF_dec (fun hc2 => ?_) (fun hc2 => ?_)
      · have hk2 : k < n := by omega
        simp -dsimp (disch := omega) [g0, g1, g2, g9]
        rw [show (x : Int) + k = ((x + k : Nat) : Int) from by omega]
        refine byte_call qe hL ?_
        have hm8 := hM (x + k)
        have hbs := bytesM_succ (look L) x k
        obtain ⟨c, hc⟩ : ∃ c, c = look L (x + k) := ⟨_, rfl⟩
        rw [← hc] at hm8 hbs
        rw [← hc]
        have hlen := bytesM_length (look L) x k
        have hcv : byteV (UInt8.ofNat c) = .int .u8 (c : Nat) := by unfold byteV; simp; omega
        simp -dsimp (disch := omega) [g0, g1, g2, g9]
        refine app_row (hr.alloc _) (by simp; omega) (src_slice _ _ _ _ _ #[.int .u8 c] (by simp)) (by omega) (by simp) (by unfold ROOM; omega) ?_
        intro v' h3 r3 n3 b3 s3
        simp only [Hp.next_alloc] at n3 b3
        simp -dsimp (disch := omega) [g0, g1, g2, g9]
        refine ⟨⟨⟨by omega, fun i hi => ?_⟩, k + 1, by omega, by simp, ?_⟩, by simp [ivN]; omega⟩
        · rw [s3 i (by simp; omega) fun e => by have := (hr.blk i e).1; omega, blks_alloc_ne _ _ _ (by omega)]
          exact he.same i hi
        · rw [hbs, List.length_append, List.map_append]
          simpa [hcv] using r3
      · have : k = n := by omega
        subst this
        obtain ⟨ra, rc, hre⟩ := hr.slice
        simp -dsimp (disch := omega) [g0, g1, g2, g9]
        refine conv_row hr ?_
        simp -dsimp (disch := omega) [g0, g1, g2, g9]
        exact RetF.all (by simp) (hK _ he)
  · have hK := hK2 hxs
    simp -dsimp (disch := omega) [hxs]
    exact RetF.same hwf (by simp) (by simp [vtop, vtopL]) (fun _ _ => rfl) hK
end
end Go.Proofs.Ytgafaelakjnemaa
