/-
  WalkTells.
-/
import Derived.Test.YtkddajmfljlhiaaX6
import Derived.Test.YtkddajmfljlhiaaW7
set_option linter.unusedSimpArgs false
set_option linter.unusedVariables false
namespace Go.Proofs.Ytkddajmfljlhiaa
open Go Go.Mini Go.Proofs.Try

def tb3 (tp : Nat) (v : Value) : Nat → Marks := fun k => if k = 9 then ⟨[0, 3, 9, 10, 19, 21], fun x => x ≠ tp ∧ sblk v ≠ some x⟩ else ⟨[], fun _ => True⟩
@[simp] theorem tb3_l9 (tp : Nat) (v : Value) : (tb3 tp v 9).l = [0, 3, 9, 10, 19, 21] := rfl
@[simp] theorem tb3_l14 (tp : Nat) (v : Value) : (tb3 tp v 14).l = [] := rfl
@[simp] theorem tb3_R9 (tp : Nat) (v : Value) (x : Nat) : (tb3 tp v 9).R x = (x ≠ tp ∧ sblk v ≠ some x) := rfl
theorem row_wd4 {m : Nat} {h : Hp} {l : List Wd} {v : Value} {k : Nat} {d : Wd} (hv : Row m h 4 l.length (wdsC l) v) (hk : l[k]? = some d) :
    ∃ b, v = .slice (some ⟨b, 0, none⟩) l.length (2 * l.length + 1) ∧ h.blks b = some ⟨(wdsC l).toArray, 4, true⟩ ∧ k * 4 + 4 ≤ (wdsC l).toArray.size ∧ (wdsC l).toArray.extract (k * 4) (k * 4 + 4) = #[.int .u64 d.a, .int .u64 d.v, .bool d.r, .bool d.w] := by
  obtain ⟨b, e1, e2, e3, e4, e5, e6⟩ := row_el hv hk
  have hlt : k < l.length := (List.getElem?_eq_some_iff.1 hk).1
  exact ⟨b, e1, e2, by simp [wdsC_length]; omega, extract4 e3 e4 e5 e6⟩
theorem Mem.ext {m : Nat} {h h' : Hp} {mp : Nat} {v : Value} {L : List Wd} {k : Nat} (q : Mem m h mp v L k) (hn : h.next ≤ h'.next) (hs : ∀ i, i < h.next → (i = mp ∨ sblk v = some i) → h'.blks i = h.blks i) : Mem m h' mp v L k :=
  ⟨by rw [hs _ q.lt (.inl rfl)]; exact q.blk, q.row.mono hn fun b hb => hs _ (q.row.blk b hb).2 (.inr hb), Nat.lt_of_lt_of_le q.lt hn, q.mm, Nat.le_trans q.mh hn, q.vr, q.ok⟩
abbrev askC (x : Ask) : List Value := [.int .u64 x.va, .int .u64 x.satp, .int .u8 x.kind, .int .u8 x.mode, .bool x.sum, .bool x.mxr]
section
variable {h : Hp} {K : Value → Hp → Prop}
set_option maxRecDepth 100000 in
set_option maxHeartbeats 4000000 in
theorem walkTells_call {l : List Wd} {v : Value} {x0 x1 : Ask} {pte : Nat} (hv : Sl h 4 l.length (wdsC l) v) (hok : ∀ e ∈ l, e.ok) (ox0 : x0.ok) (ox1 : x1.ok) (hp : pte < 18446744073709551616) (hmax : l.length < 9223372036854775808)
    (hK : K (.bool true) h) : ACall prog 3 [v, .agg #[.int .u64 x0.va, .int .u64 x0.satp, .int .u8 x0.kind, .int .u8 x0.mode, .bool x0.sum, .bool x0.mxr, .int .u64 x1.va, .int .u64 x1.satp, .int .u8 x1.kind, .int .u8 x1.mode, .bool x1.sum, .bool x1.mxr], .int .u64 pte] h K := by
  refine acallF_of (tb3 0 (.bool true)) func3 rfl rfl mixed (by kernel_rfl) fun hwf => ?_
  have hvb : ∀ b, sblk v = some b → b < h.next := sblk_lt (hwf.args v (by simp))
  obtain ⟨va, vc, rfl⟩ := hv.slice
  obtain ⟨G, hG⟩ : ∃ G, G = h.alloc ⟨#[.int .u64 x0.va, .int .u64 x0.satp, .int .u8 x0.kind, .int .u8 x0.mode, .bool x0.sum, .bool x0.mxr, .int .u64 x1.va, .int .u64 x1.satp, .int .u8 x1.kind, .int .u8 x1.mode, .bool x1.sum, .bool x1.mxr], 1, true⟩ := ⟨_, rfl⟩
  have EG : Ext h G := by rw [hG]; exact Ext.alloc h _
  have gN : G.next = h.next + 1 := by rw [hG]; rfl
  have gA : G.blks h.next = some ⟨#[.int .u64 x0.va, .int .u64 x0.satp, .int .u8 x0.kind, .int .u8 x0.mode, .bool x0.sum, .bool x0.mxr, .int .u64 x1.va, .int .u64 x1.satp, .int .u8 x1.kind, .int .u8 x1.mode, .bool x1.sum, .bool x1.mxr], 1, true⟩ := by rw [hG]; exact blks_alloc_eq _ _
  by_cases hl : 60 < l.length
  · have hl' : (60 : Int) < l.length := by omega
    simp -dsimp (disch := omega) [← hG, hl, hl']
    refine awake_call ?_
    simp -dsimp (disch := omega)
    exact RetF.same (r := .bool true) hwf (by simp) (Nat.zero_le _) EG.same hK
  · have hl' : ¬ (60 : Int) < l.length := by omega
    simp -dsimp (disch := omega) [← hG, hl, hl']
    have hvG : Sl G 4 l.length (wdsC l) (.slice va l.length vc) := hv.mono fun b hb => EG.same _ (hvb b hb)
    refine of_call (l := l) hvG (fun b e => by have := hvb b e; omega) (by omega) hok fun h1 mp v1 E1 q1 => ?_
    simp -dsimp (disch := omega)
    refine theirs_call (l := l) (hvG.mono fun b hb => E1.same _ (by have := hvb b hb; omega)) (by omega) hok fun h2 tp v2 E2 q2 => ?_
    have le1 := E1.le
    have le2 := E2.le
    have m2 : Mem G.next h2 mp v1 l 0 := q1.ext E2.le fun i hi _ => E2.same i hi
    have tpN : h1.next ≤ tp := q2.mm
    have tpl : tp < h2.next := q2.lt
    have mpN : mp < h1.next := q1.lt
    have mpG : G.next ≤ mp := q1.mm
    have v1N : ∀ b, sblk v1 = some b → G.next ≤ b ∧ b < h1.next := fun b e => q1.row.blk b e
    have v2N : ∀ b, sblk v2 = some b → h1.next ≤ b ∧ b < h2.next := fun b e => q2.row.blk b e
    simp -dsimp (disch := omega)
    refine awpF_of (awp_loop (fun t h' => ∃ (k w : Nat) (L : List Wd), k ≤ 2 ∧ w ≤ k ∧ L.length = l.length ∧ t 2 = .int .u64 pte ∧ t 4 = ptr h.next ∧ t 7 = ptr mp ∧ t 8 = ptr tp ∧ t 9 = .int .i64 k ∧ Mem G.next h' mp v1 L w ∧ RMem h1.next h' tp v2 L ∧ h2.next ≤ h'.next ∧ ∀ i, i < G.next → h'.blks i = G.blks i) (fun t _ => 2 - ivN (t 9)) ?_ ?_)
    · exact ⟨0, 0, l, by omega, by omega, rfl, by simp, by simp, by simp, by simp, by simp, m2, q2, Nat.le_refl _, fun i hi => by rw [E2.same i (by omega), E1.same i hi]⟩
    · rintro t h' ⟨k, w, L, hk, hwk, hLl, g2, g4, g7, g8, g9, qm, qt, hn', hs'⟩
      refine vcF_sound mixed (tb := tb3 tp v2) _ (by kernel_rfl) ?_
      have a1 : h'.blks h.next = _ := (hs' _ (by omega)).trans gA
      rcases (by omega : k = 2 ∨ k = 0 ∨ k = 1) with rfl | rfl | rfl
      · simp -dsimp (disch := omega) [g2, g4, g7, g8, g9]
        refine awake_call ?_
        simp -dsimp (disch := omega)
        exact RetF.same (r := .bool true) hwf (by simp) (Nat.zero_le _) (fun i hi => by rw [hs' i (by omega), EG.same i hi]) hK
      · obtain ⟨J, hJ⟩ : ∃ J, J = h'.alloc ⟨#[.int .u64 x0.va, .int .u64 x0.satp, .int .u8 x0.kind, .int .u8 x0.mode, .bool x0.sum, .bool x0.mxr], 1, true⟩ := ⟨_, rfl⟩
        have EJ : Ext h' J := by rw [hJ]; exact Ext.alloc _ _
        have jN : J.next = h'.next + 1 := by rw [hJ]; rfl
        have jB : J.blks h'.next = some ⟨#[.int .u64 x0.va, .int .u64 x0.satp, .int .u8 x0.kind, .int .u8 x0.mode, .bool x0.sum, .bool x0.mxr], 1, true⟩ := by rw [hJ]; exact blks_alloc_eq _ _
        have qmJ := qm.ext EJ.le fun i hi _ => EJ.same i hi
        have qtJ := qt.ext EJ.le fun i hi _ => EJ.same i hi
        have jA : J.blks h.next = _ := (EJ.same _ (by omega)).trans a1
        simp -dsimp (disch := omega) [g2, g4, g7, g8, g9, a1, ← hJ, jA]
        refine walk_call qmJ (by omega) (by omega) ox0 fun h3 q3 n3 s3 => ?_
        have ww := wrote_len (walk_wrote L x0)
        have hrun := fun (h5 : Hp) (K' : Value → Hp → Prop) (a : RMem h1.next h5 tp v2 L) (b : _) => run_call (K := K') a (by omega) ox0 b
        obtain ⟨W, hW⟩ : ∃ W, W = walkF L x0 := ⟨_, rfl⟩
        rw [← hW] at ww q3 hrun ⊢
        obtain ⟨r, M, c⟩ := W
        simp only at ww q3 hrun ⊢
        obtain ⟨hML, hc01⟩ := ww
        have q3t : RMem h1.next h3 tp v2 L := qtJ.ext n3 fun i hi ho => by
          rcases ho with rfl | ho
          · exact s3 _ hi (by omega) fun e => by have := v1N _ e; omega
          · have := v2N _ ho
            exact s3 _ hi (by omega) fun e => by have := v1N _ e; omega
        have b3 : h3.blks h'.next = _ := (s3 _ (by omega) (by omega) fun e => by have := v1N _ e; omega).trans jB
        have a3 : h3.blks h.next = _ := (s3 _ (by omega) (by omega) fun e => by have := v1N _ e; omega).trans jA
        have hs3 : ∀ i, i < G.next → h3.blks i = G.blks i := fun i hi => by rw [s3 i (by omega) (by omega) fun e => by have := v1N _ e; omega, EJ.same i (by omega), hs' i hi]
        obtain ⟨Q, hQ⟩ : ∃ Q, Q = h3.alloc ⟨#[.int .u8 r.f, .int .u64 r.pa, .int .i64 r.lv, .int .u64 r.pte, .int .u64 r.a0, .int .u64 r.a1, .int .u64 r.a2, .int .i64 r.n], 1, true⟩ := ⟨_, rfl⟩
        have EQ : Ext h3 Q := by rw [hQ]; exact Ext.alloc _ _
        have qN : Q.next = h3.next + 1 := by rw [hQ]; rfl
        have qR : Q.blks h3.next = some ⟨#[.int .u8 r.f, .int .u64 r.pa, .int .i64 r.lv, .int .u64 r.pte, .int .u64 r.a0, .int .u64 r.a1, .int .u64 r.a2, .int .i64 r.n], 1, true⟩ := by rw [hQ]; exact blks_alloc_eq _ _
        have qB : Q.blks h'.next = _ := (EQ.same _ (by omega)).trans b3
        have qA : Q.blks h.next = _ := (EQ.same _ (by omega)).trans a3
        have q4 := q3.ext EQ.le fun i hi _ => EQ.same i hi
        have q4t := q3t.ext EQ.le fun i hi _ => EQ.same i hi
        have nt1 : ¬ h3.next = tp := by omega
        have nt2 : ¬ h'.next = tp := by omega
        have nv1 : ¬ sblk v2 = some h3.next := fun e => by have := v2N _ e; omega
        have nv2 : ¬ sblk v2 = some h'.next := fun e => by have := v2N _ e; omega
        have nt0 : ¬ h.next = tp := by omega
        have nv0 : ¬ sblk v2 = some h.next := fun e => by have := v2N _ e; omega
        simp -dsimp (disch := omega) [g2, g4, g7, g8, g9, ← hQ, qR, qB, nt1, nt2, nv1, nv2]
        refine hrun _ _ q4t fun h5 q5 n5 s5 => ?_
        have t5 : SameR ((tb3 tp v2 9).at Q.next).R Q.next Q h5 := fun j hj hR => by
          have : j ≠ tp ∧ sblk v2 ≠ some j := by simpa using hR
          exact s5 j hj this.1 this.2
        have r5 : h5.blks h3.next = _ := (s5 _ (by omega) nt1 nv1).trans qR
        have b5 : h5.blks h'.next = _ := (s5 _ (by omega) nt2 nv2).trans qB
        have a5 : h5.blks h.next = _ := (s5 _ (by omega) nt0 nv0).trans qA
        have hs5 : ∀ i, i < G.next → h5.blks i = G.blks i := fun i hi => by
          rw [s5 i (by omega) (by omega) fun e => by have := v2N _ e; omega, EQ.same i (by omega), hs3 i hi]
        have q6 : Mem G.next h5 mp v1 M (w + c) := q4.ext n5 fun i hi ho => by
          rcases ho with rfl | ho
          · exact s5 _ hi (by omega) fun e => by have := v2N _ e; omega
          · have := v1N _ ho
            exact s5 _ hi (by omega) fun e => by have := v2N _ e; omega
        have bC := fun (K' : Value → Hp → Prop) (a : _) => bare_call (h := h5) (K := K') ox0 a
        have rbC := fun (K' : Value → Hp → Prop) (a : _) => rbare_call (h := h5) (K := K') ox0 a
        have aC := fun (K' : Value → Hp → Prop) (a : _) => allowed_call (h := h5) (K := K') hp ox0 a
        have raC := fun (K' : Value → Hp → Prop) (a : _) => rallowed_call (h := h5) (K := K') hp ox0 a
        unfold askV at bC rbC aC raC
        simp -dsimp (disch := omega) [g2, g4, g7, g8, g9, t5, a5, b5, nt0, nt1, nt2, nv0, nv1, nv2]
        refine bC _ ?_
        simp -dsimp (disch := omega) [g2, g4, g7, g8, g9, t5, a5, b5, nt0, nt1, nt2, nv0, nv1, nv2]
        refine rbC _ ?_
        simp -dsimp (disch := omega) [g2, g4, g7, g8, g9, t5, a5, b5, nt0, nt1, nt2, nv0, nv1, nv2]
        refine aC _ ?_
        simp -dsimp (disch := omega) [g2, g4, g7, g8, g9, t5, a5, b5, nt0, nt1, nt2, nv0, nv1, nv2]
        refine raC _ ?_
        simp -dsimp (disch := omega) [g2, g4, g7, g8, g9, t5, a5, b5, nt0, nt1, nt2, nv0, nv1, nv2]
        refine awpF_of (awp_loop (fun t h6 => h6 = h5 ∧ ∃ j : Nat, j ≤ M.length ∧ t 2 = .int .u64 pte ∧ t 4 = ptr h.next ∧ t 7 = ptr mp ∧ t 8 = ptr tp ∧ t 9 = .int .i64 0 ∧ t 12 = .int .i64 j) (fun t _ => M.length - ivN (t 12)) ?_ ?_)
        · exact ⟨rfl, 0, by omega, by simp [g2], by simp [g4], by simp [g7], by simp [g8], by simp [g9], by simp⟩
        · have hme : ivN (t 9) = 0 := by rw [g9]; rfl
          clear g2 g4 g7 g8 g9
          rintro t h6 ⟨rfl, j, hj, g2, g4, g7, g8, g9, g12⟩
          refine vcF_sound mixed (tb := tb3 tp v2) _ (by kernel_rfl) ?_
          have mb := q6.blk
          have tb := q5.blk
          by_cases hc : j < M.length
          · have hcI : (j : Int) < M.length := by omega
            obtain ⟨d, hd⟩ : ∃ d, M[j]? = some d := ⟨_, List.getElem?_eq_getElem hc⟩
            obtain ⟨bm, e1, e2, e3, e4⟩ := row_wd4 q6.row hd
            obtain ⟨bt, f1, f2, f3, f4⟩ := row_wd4 q5.row hd
            rw [e1] at mb
            rw [f1] at tb
            simp -dsimp (disch := omega) [g2, g4, g7, g8, g9, g12, mb, tb, hc, hcI, e2, e3, e4, f2, f3, f4, -getElem?_pos]
            exact ⟨⟨j + 1, by omega, by simp⟩, by simp [ivN]; omega⟩
          · have hcI : ¬ (j : Int) < M.length := by omega
            obtain ⟨va2, vc2, ev2⟩ := q5.row.slice
            rw [ev2] at tb
            simp -dsimp (disch := omega) [g2, g4, g7, g8, g9, g12, tb, hc, hcI]
            exact ⟨⟨0 + 1, by omega, w + c, by omega, M, by omega, by omega, q6, q5, by omega, hs5⟩, by rw [hme]; simp [ivN]⟩
      · obtain ⟨J, hJ⟩ : ∃ J, J = h'.alloc ⟨#[.int .u64 x1.va, .int .u64 x1.satp, .int .u8 x1.kind, .int .u8 x1.mode, .bool x1.sum, .bool x1.mxr], 1, true⟩ := ⟨_, rfl⟩
        have EJ : Ext h' J := by rw [hJ]; exact Ext.alloc _ _
        have jN : J.next = h'.next + 1 := by rw [hJ]; rfl
        have jB : J.blks h'.next = some ⟨#[.int .u64 x1.va, .int .u64 x1.satp, .int .u8 x1.kind, .int .u8 x1.mode, .bool x1.sum, .bool x1.mxr], 1, true⟩ := by rw [hJ]; exact blks_alloc_eq _ _
        have qmJ := qm.ext EJ.le fun i hi _ => EJ.same i hi
        have qtJ := qt.ext EJ.le fun i hi _ => EJ.same i hi
        have jA : J.blks h.next = _ := (EJ.same _ (by omega)).trans a1
        simp -dsimp (disch := omega) [g2, g4, g7, g8, g9, a1, ← hJ, jA]
        refine walk_call qmJ (by omega) (by omega) ox1 fun h3 q3 n3 s3 => ?_
        have ww := wrote_len (walk_wrote L x1)
        have hrun := fun (h5 : Hp) (K' : Value → Hp → Prop) (a : RMem h1.next h5 tp v2 L) (b : _) => run_call (K := K') a (by omega) ox1 b
        obtain ⟨W, hW⟩ : ∃ W, W = walkF L x1 := ⟨_, rfl⟩
        rw [← hW] at ww q3 hrun ⊢
        obtain ⟨r, M, c⟩ := W
        simp only at ww q3 hrun ⊢
        obtain ⟨hML, hc01⟩ := ww
        have q3t : RMem h1.next h3 tp v2 L := qtJ.ext n3 fun i hi ho => by
          rcases ho with rfl | ho
          · exact s3 _ hi (by omega) fun e => by have := v1N _ e; omega
          · have := v2N _ ho
            exact s3 _ hi (by omega) fun e => by have := v1N _ e; omega
        have b3 : h3.blks h'.next = _ := (s3 _ (by omega) (by omega) fun e => by have := v1N _ e; omega).trans jB
        have a3 : h3.blks h.next = _ := (s3 _ (by omega) (by omega) fun e => by have := v1N _ e; omega).trans jA
        have hs3 : ∀ i, i < G.next → h3.blks i = G.blks i := fun i hi => by rw [s3 i (by omega) (by omega) fun e => by have := v1N _ e; omega, EJ.same i (by omega), hs' i hi]
        obtain ⟨Q, hQ⟩ : ∃ Q, Q = h3.alloc ⟨#[.int .u8 r.f, .int .u64 r.pa, .int .i64 r.lv, .int .u64 r.pte, .int .u64 r.a0, .int .u64 r.a1, .int .u64 r.a2, .int .i64 r.n], 1, true⟩ := ⟨_, rfl⟩
        have EQ : Ext h3 Q := by rw [hQ]; exact Ext.alloc _ _
        have qN : Q.next = h3.next + 1 := by rw [hQ]; rfl
        have qR : Q.blks h3.next = some ⟨#[.int .u8 r.f, .int .u64 r.pa, .int .i64 r.lv, .int .u64 r.pte, .int .u64 r.a0, .int .u64 r.a1, .int .u64 r.a2, .int .i64 r.n], 1, true⟩ := by rw [hQ]; exact blks_alloc_eq _ _
        have qB : Q.blks h'.next = _ := (EQ.same _ (by omega)).trans b3
        have qA : Q.blks h.next = _ := (EQ.same _ (by omega)).trans a3
        have q4 := q3.ext EQ.le fun i hi _ => EQ.same i hi
        have q4t := q3t.ext EQ.le fun i hi _ => EQ.same i hi
        have nt1 : ¬ h3.next = tp := by omega
        have nt2 : ¬ h'.next = tp := by omega
        have nv1 : ¬ sblk v2 = some h3.next := fun e => by have := v2N _ e; omega
        have nv2 : ¬ sblk v2 = some h'.next := fun e => by have := v2N _ e; omega
        have nt0 : ¬ h.next = tp := by omega
        have nv0 : ¬ sblk v2 = some h.next := fun e => by have := v2N _ e; omega
        simp -dsimp (disch := omega) [g2, g4, g7, g8, g9, ← hQ, qR, qB, nt1, nt2, nv1, nv2]
        refine hrun _ _ q4t fun h5 q5 n5 s5 => ?_
        have t5 : SameR ((tb3 tp v2 9).at Q.next).R Q.next Q h5 := fun j hj hR => by
          have : j ≠ tp ∧ sblk v2 ≠ some j := by simpa using hR
          exact s5 j hj this.1 this.2
        have r5 : h5.blks h3.next = _ := (s5 _ (by omega) nt1 nv1).trans qR
        have b5 : h5.blks h'.next = _ := (s5 _ (by omega) nt2 nv2).trans qB
        have a5 : h5.blks h.next = _ := (s5 _ (by omega) nt0 nv0).trans qA
        have hs5 : ∀ i, i < G.next → h5.blks i = G.blks i := fun i hi => by
          rw [s5 i (by omega) (by omega) fun e => by have := v2N _ e; omega, EQ.same i (by omega), hs3 i hi]
        have q6 : Mem G.next h5 mp v1 M (w + c) := q4.ext n5 fun i hi ho => by
          rcases ho with rfl | ho
          · exact s5 _ hi (by omega) fun e => by have := v2N _ e; omega
          · have := v1N _ ho
            exact s5 _ hi (by omega) fun e => by have := v2N _ e; omega
        have bC := fun (K' : Value → Hp → Prop) (a : _) => bare_call (h := h5) (K := K') ox1 a
        have rbC := fun (K' : Value → Hp → Prop) (a : _) => rbare_call (h := h5) (K := K') ox1 a
        have aC := fun (K' : Value → Hp → Prop) (a : _) => allowed_call (h := h5) (K := K') hp ox1 a
        have raC := fun (K' : Value → Hp → Prop) (a : _) => rallowed_call (h := h5) (K := K') hp ox1 a
        unfold askV at bC rbC aC raC
        simp -dsimp (disch := omega) [g2, g4, g7, g8, g9, t5, a5, b5, nt0, nt1, nt2, nv0, nv1, nv2]
        refine bC _ ?_
        simp -dsimp (disch := omega) [g2, g4, g7, g8, g9, t5, a5, b5, nt0, nt1, nt2, nv0, nv1, nv2]
        refine rbC _ ?_
        simp -dsimp (disch := omega) [g2, g4, g7, g8, g9, t5, a5, b5, nt0, nt1, nt2, nv0, nv1, nv2]
        refine aC _ ?_
        simp -dsimp (disch := omega) [g2, g4, g7, g8, g9, t5, a5, b5, nt0, nt1, nt2, nv0, nv1, nv2]
        refine raC _ ?_
        simp -dsimp (disch := omega) [g2, g4, g7, g8, g9, t5, a5, b5, nt0, nt1, nt2, nv0, nv1, nv2]
        refine awpF_of (awp_loop (fun t h6 => h6 = h5 ∧ ∃ j : Nat, j ≤ M.length ∧ t 2 = .int .u64 pte ∧ t 4 = ptr h.next ∧ t 7 = ptr mp ∧ t 8 = ptr tp ∧ t 9 = .int .i64 1 ∧ t 12 = .int .i64 j) (fun t _ => M.length - ivN (t 12)) ?_ ?_)
        · exact ⟨rfl, 0, by omega, by simp [g2], by simp [g4], by simp [g7], by simp [g8], by simp [g9], by simp⟩
        · have hme : ivN (t 9) = 1 := by rw [g9]; rfl
          clear g2 g4 g7 g8 g9
          rintro t h6 ⟨rfl, j, hj, g2, g4, g7, g8, g9, g12⟩
          refine vcF_sound mixed (tb := tb3 tp v2) _ (by kernel_rfl) ?_
          have mb := q6.blk
          have tb := q5.blk
          by_cases hc : j < M.length
          · have hcI : (j : Int) < M.length := by omega
            obtain ⟨d, hd⟩ : ∃ d, M[j]? = some d := ⟨_, List.getElem?_eq_getElem hc⟩
            obtain ⟨bm, e1, e2, e3, e4⟩ := row_wd4 q6.row hd
            obtain ⟨bt, f1, f2, f3, f4⟩ := row_wd4 q5.row hd
            rw [e1] at mb
            rw [f1] at tb
            simp -dsimp (disch := omega) [g2, g4, g7, g8, g9, g12, mb, tb, hc, hcI, e2, e3, e4, f2, f3, f4, -getElem?_pos]
            exact ⟨⟨j + 1, by omega, by simp⟩, by simp [ivN]; omega⟩
          · have hcI : ¬ (j : Int) < M.length := by omega
            obtain ⟨va2, vc2, ev2⟩ := q5.row.slice
            rw [ev2] at tb
            simp -dsimp (disch := omega) [g2, g4, g7, g8, g9, g12, tb, hc, hcI]
            exact ⟨⟨1 + 1, by omega, w + c, by omega, M, by omega, by omega, q6, q5, by omega, hs5⟩, by rw [hme]; simp [ivN]⟩
end
end Go.Proofs.Ytkddajmfljlhiaa
