/-
  The document's memory: a byte is written.
-/
import Derived.Test.YtgafaelakjnemaaR1
import Derived.Test.YtgafaelakjnemaaM22
set_option linter.unusedSimpArgs false
set_option linter.unusedVariables false
namespace Go.Proofs.Ytgafaelakjnemaa
open Go Go.Mini Go.Proofs.Try

section
variable {h : Hp} {m r N : Nat} {v : Value} {L : By} {a : Nat} {w : Int} {K : Value → Hp → Prop}

theorem set_loop {Q : APost} {x u : Nat} {t : Tm} (q : Rf m h r N v L a w) (hl : L.length ≤ 1000000) (hx : x < N) (hu : u < 256) (g0 : t 0 = ptr r) (g1 : t 1 = .int .u64 x) (g2 : t 2 = .int .u8 u) (g6 : t 6 = .int .i64 0)
    (hret : ∀ t h', Rf m h' r N v (setL L x u) a w → RCh h h' r v → apQ Q .ret t h' (.mk _)) (hex : ∀ t, t 0 = ptr r → t 1 = .int .u64 x → t 2 = .int .u8 u → (∀ e ∈ L, e.1 ≠ x) → apQ Q (.exit 0) t h (.mk _)) : Awp prog f52.ntmps (.loop (loopC (blkC (sndC (fstC (sndC (bodyC f52))))))) Q t h := by
  have hb := q.blk
  obtain ⟨n, hn⟩ : ∃ n, n = L.length := ⟨_, rfl⟩
  obtain ⟨va, vc, hv⟩ := q.row.slice
  rw [← hn] at hl hv
  subst hv
  refine awp_loop (fun t h' => h' = h ∧ ∃ k : Nat, k ≤ n ∧ t 0 = ptr r ∧ t 1 = .int .u64 x ∧ t 2 = .int .u8 u ∧ t 6 = .int .i64 k ∧ ∀ e ∈ L.take k, e.1 ≠ x) (fun t _ => n - ivN (t 6)) ?_ ?_
  · exact ⟨rfl, 0, by omega, g0, g1, g2, g6, by simp⟩
  · clear g0 g1 g2 g6
    rintro t h' ⟨rfl, k, hk, g0, g1, g2, g6, hall⟩
    have e : loopC (blkC (sndC (fstC (sndC (bodyC f52))))) = loopC (blkC (sndC (fstC (sndC (bodyC f52))))) := rfl
    conv at e => rhs; whnf
    rw [e]
    clear e
    refine vcF_sound mixed (tb := tb0) _ (by kernel_rfl) ?_
    by_cases hc : k < n
    · obtain ⟨e, hxe⟩ : ∃ e, L[k]? = some e := ⟨_, List.getElem?_eq_getElem (hn ▸ hc)⟩
      obtain ⟨b, e1, e2, e3, e4⟩ := row_el q.row hxe
      cases e1
      obtain ⟨y, z⟩ := e
      simp only at e3 e4
      have hsz : k * 2 + 1 < (bysC L).toArray.size := by simp [bysC_length]; omega
      by_cases hxy : y = x
      · subst hxy
        have hset : setL L y u = L.set k (y, u) := setL_first hxe hall
        have hcs := bysC_set L k y z u hxe
        have hbr : b ≠ r := fun e => q.vr (by rw [e]; rfl)
        have hbl := (q.row.blk b rfl)
        have hcs' : (bysC L).set (k * 2 + 1) (.int .u8 u) = bysC (setL L y u) := by rw [hset]; simpa using hcs
        have hle : k * 2 + 1 + 1 ≤ (bysC L).length := by rw [bysC_length]; omega
        have hsl : (setL L y u).length = L.length := by rw [hset]; simp
        simp -dsimp (disch := omega) [g0, g1, g2, g6, hb, hc, e2, e3, e4, hcs', hle, -getElem?_pos]
        refine hret _ _ ⟨by rw [blks_set_ne _ _ _ _ (Ne.symm hbr)]; exact q.blk, ⟨by rw [bysC_length], .inr ⟨b, hbl.1, hbl.2, by rw [hsl], blks_set_eq _ _ _⟩⟩, q.rlt, q.mr, q.mh, q.vr, q.N1, q.a1, q.w0, fun e he => ?_, q.uq.set _ _⟩ ⟨Nat.le_refl _, fun i _ _ h3 => blks_set_ne _ _ _ _ fun e => h3 (by rw [e]; rfl)⟩
        rcases mem_setL he with rfl | he
        · exact ⟨hx, hu⟩
        · exact q.ok e he
      · have hxy' : ¬ (y : Int) = x := by omega
        simp -dsimp (disch := omega) [g0, g1, g2, g6, hb, hc, e2, e3, e4, hxy, hxy', -getElem?_pos]
        refine ⟨⟨k + 1, by omega, by simp, fun y' z' hd => ?_⟩, by simp [ivN]; omega⟩
        rw [List.take_add_one, hxe] at hd
        rcases List.mem_append.1 hd with hd | hd
        · exact hall (y', z') hd
        · obtain ⟨rfl, rfl⟩ : y' = y ∧ z' = z := by simpa using hd
          exact hxy
    · simp -dsimp (disch := omega) [g0, g1, g2, g6, hb, hc]
      exact hex _ (by simp [g0]) (by simp [g1]) (by simp [g2]) fun e he => hall e (by rw [show k = L.length from by omega, List.take_length]; exact he)

set_option maxRecDepth 100000 in
theorem rfSet_call {x u : Nat} (q : Rf m h r N v L a w) (hl : L.length ≤ 1000000) (hx : x < N) (hu : u < 256)
    (hK : ∀ h' v', Rf m h' r N v' (setL L x u) a (toW a w x 1) → RCh h h' r v → VCh h v v' → K (.tuple #[]) h') : ACall prog 52 [ptr r, .int .u64 x, .int .u8 u] h K := by
  refine acallF_of tb0 func52 rfl rfl mixed (by kernel_rfl) fun hwf => ?_
  have hb := q.blk
  have hN := q.N1
  have ha := q.a1
  have hw : 0 ≤ w := by have := q.w0; omega
  rw [toW_one a w x hw] at hK
  by_cases h0 : 0 < w
  · by_cases h1 : x / 8 = a / 8
    · have h1' : (x : Int) / 8 = a / 8 := by omega
      rw [if_pos ⟨h0, h1⟩] at hK
      have q1 := q.upd (a' := a) (w' := 0) ha (.inl rfl)
      have c1 := RCh.set h r v ⟨rfC N v a 0, 1, true⟩
      obtain ⟨H, hH⟩ : ∃ H, H = h.set r ⟨#[.int .u64 N, v, .int .u64 a, .int .i64 0], 1, true⟩ := ⟨_, rfl⟩
      rw [show h.set r ⟨rfC N v a 0, 1, true⟩ = H from hH.symm] at q1 c1
      simp -dsimp (disch := omega) [hb, h0, h1', ← hH]
      refine awpF_of (set_loop q1 hl hx hu (by simp) (by simp) (by simp) (by simp) (fun t h' q2 c2 => ?_) (fun t g0 g1 g2 hnew => ?_))
      · simp -dsimp (disch := omega)
        exact RetF.all (by simp) (hK _ _ q2 (c1.trans c2 (VCh.refl _ _)) (VCh.refl _ _))
      · have hset := setL_new hnew (v := u)
        have hb2 := q1.blk
        have hrl := q1.rlt
        have hmh := q1.mh
        simp -dsimp (disch := omega) [g0, g1, g2, hb2]
        refine app_row ((q1.row).alloc _) (by simp; omega) (src_slice _ _ _ _ _ #[.int .u64 x, .int .u8 u] (by simp)) (by omega) (by simp) (by unfold ROOM; omega) ?_
        intro v' h3 r3 n3 b3 s3
        obtain ⟨va, vc, rfl⟩ := r3.slice
        simp only [Hp.next_alloc] at n3 b3
        have hb3 : h3.blks r = some ⟨#[.int .u64 N, v, .int .u64 a, .int .i64 0], 1, true⟩ := by rw [s3 r (by simp; omega) q1.vr, blks_alloc_ne _ _ _ (by omega)]; exact hb2
        simp -dsimp (disch := omega) [g0, g1, g2, hb3]
        have hne : sblk (.slice va (L.length + 1) vc) ≠ some r := by rw [b3]; simp; omega
        have hle := c1.le
        refine RetF.all (r := .tuple #[]) ?_ (hK _ _ ⟨blks_set_eq _ _ _, Row.set (by rw [hset, List.length_append, bysC_snoc]; simpa [byC] using r3) _ _ hne, by simp; omega, q1.mr, by simp; omega, hne, q1.N1, q1.a1, q1.w0, fun e he => ?_, q1.uq.set _ _⟩ ⟨by simp; omega, fun i h1 h2 h3' => ?_⟩ fun b hb => .inr ?_)
        · simp
        · rcases mem_setL he with rfl | he
          · exact ⟨hx, hu⟩
          · exact q1.ok e he
        · rw [blks_set_ne _ _ _ _ h2, s3 i (by simp; omega) h3', blks_alloc_ne _ _ _ (by omega)]
          exact c1.same i h1 h2 h3'
        · rw [b3] at hb; cases hb; omega
    · have h1' : ¬ (x : Int) / 8 = a / 8 := by omega
      rw [if_neg (fun h => h1 h.2)] at hK
      have c1 := RCh.refl h r v
      simp -dsimp (disch := omega) [hb, h0, h1']
      refine awpF_of (set_loop q hl hx hu (by simp) (by simp) (by simp) (by simp) (fun t h' q2 c2 => ?_) (fun t g0 g1 g2 hnew => ?_))
      · simp -dsimp (disch := omega)
        exact RetF.all (by simp) (hK _ _ q2 (c1.trans c2 (VCh.refl _ _)) (VCh.refl _ _))
      · have hset := setL_new hnew (v := u)
        have hb2 := q.blk
        have hrl := q.rlt
        have hmh := q.mh
        simp -dsimp (disch := omega) [g0, g1, g2, hb2]
        refine app_row ((q.row).alloc _) (by simp; omega) (src_slice _ _ _ _ _ #[.int .u64 x, .int .u8 u] (by simp)) (by omega) (by simp) (by unfold ROOM; omega) ?_
        intro v' h3 r3 n3 b3 s3
        obtain ⟨va, vc, rfl⟩ := r3.slice
        simp only [Hp.next_alloc] at n3 b3
        have hb3 : h3.blks r = some ⟨#[.int .u64 N, v, .int .u64 a, .int .i64 w], 1, true⟩ := by rw [s3 r (by simp; omega) q.vr, blks_alloc_ne _ _ _ (by omega)]; exact hb2
        simp -dsimp (disch := omega) [g0, g1, g2, hb3]
        have hne : sblk (.slice va (L.length + 1) vc) ≠ some r := by rw [b3]; simp; omega
        have hle := c1.le
        refine RetF.all (r := .tuple #[]) ?_ (hK _ _ ⟨blks_set_eq _ _ _, Row.set (by rw [hset, List.length_append, bysC_snoc]; simpa [byC] using r3) _ _ hne, by simp; omega, q.mr, by simp; omega, hne, q.N1, q.a1, q.w0, fun e he => ?_, q.uq.set _ _⟩ ⟨by simp; omega, fun i h1 h2 h3' => ?_⟩ fun b hb => .inr ?_)
        · simp
        · rcases mem_setL he with rfl | he
          · exact ⟨hx, hu⟩
          · exact q.ok e he
        · rw [blks_set_ne _ _ _ _ h2, s3 i (by simp; omega) h3', blks_alloc_ne _ _ _ (by omega)]
        · rw [b3] at hb; cases hb; omega
  · rw [if_neg (fun h => h0 h.1)] at hK
    have c1 := RCh.refl h r v
    simp -dsimp (disch := omega) [hb, h0]
    refine awpF_of (set_loop q hl hx hu (by simp) (by simp) (by simp) (by simp) (fun t h' q2 c2 => ?_) (fun t g0 g1 g2 hnew => ?_))
    · simp -dsimp (disch := omega)
      exact RetF.all (by simp) (hK _ _ q2 (c1.trans c2 (VCh.refl _ _)) (VCh.refl _ _))
    · have hset := setL_new hnew (v := u)
      have hb2 := q.blk
      have hrl := q.rlt
      have hmh := q.mh
      simp -dsimp (disch := omega) [g0, g1, g2, hb2]
      refine app_row ((q.row).alloc _) (by simp; omega) (src_slice _ _ _ _ _ #[.int .u64 x, .int .u8 u] (by simp)) (by omega) (by simp) (by unfold ROOM; omega) ?_
      intro v' h3 r3 n3 b3 s3
      obtain ⟨va, vc, rfl⟩ := r3.slice
      simp only [Hp.next_alloc] at n3 b3
      have hb3 : h3.blks r = some ⟨#[.int .u64 N, v, .int .u64 a, .int .i64 w], 1, true⟩ := by rw [s3 r (by simp; omega) q.vr, blks_alloc_ne _ _ _ (by omega)]; exact hb2
      simp -dsimp (disch := omega) [g0, g1, g2, hb3]
      have hne : sblk (.slice va (L.length + 1) vc) ≠ some r := by rw [b3]; simp; omega
      have hle := c1.le
      refine RetF.all (r := .tuple #[]) ?_ (hK _ _ ⟨blks_set_eq _ _ _, Row.set (by rw [hset, List.length_append, bysC_snoc]; simpa [byC] using r3) _ _ hne, by simp; omega, q.mr, by simp; omega, hne, q.N1, q.a1, q.w0, fun e he => ?_, q.uq.set _ _⟩ ⟨by simp; omega, fun i h1 h2 h3' => ?_⟩ fun b hb => .inr ?_)
      · simp
      · rcases mem_setL he with rfl | he
        · exact ⟨hx, hu⟩
        · exact q.ok e he
      · rw [blks_set_ne _ _ _ _ h2, s3 i (by simp; omega) h3', blks_alloc_ne _ _ _ (by omega)]
      · rw [b3] at hb; cases hb; omega
end
end Go.Proofs.Ytgafaelakjnemaa
