/-
  The document's device: a command ends; Tick.
-/
import Derived.Test.YtkbiadobkheafaaX3
set_option linter.unusedSimpArgs false
set_option linter.unusedVariables false
set_option linter.unusedSectionVars false
namespace Go.Proofs.Ytkbiadobkheafaa
open Go Go.Mini Go.Proofs.Try
set_option maxRecDepth 100000

def tbE : Nat → Marks := fun k => if k = 4 then ⟨[4, 13, 1000000], fun _ => True⟩ else ⟨[], fun _ => True⟩
@[simp] theorem tbE_4 : (tbE 4).l = [4, 13, 1000000] := rfl
@[simp] theorem tbE_10 : (tbE 10).l = [] := rfl
/-- What stands where a list may lie. -/
def rnm (mr : Nat) (v : Value) (i : Nat) : Prop := i = mr ∨ sblk v = some i
theorem RCh_fr {h h' : Hp} {mr : Nat} {v : Value} (c : Rm.RCh h h' mr v) : Fr h h' (rnm mr v) := ⟨c.le, fun i h1 h2 => c.same i h1 (fun e => h2 (.inl e)) (fun e => h2 (.inr e))⟩
theorem Rf_fr {m : Nat} {h h' : Hp} {mr N : Nat} {v : Value} {L : Rm.By} {a : Nat} {w : Int} {S : Nat → Prop} (t : Rm.Rf m h mr N v L a w) (f : Fr h h' S) (h1 : ¬ S mr) (h2 : ∀ i, sblk v = some i → ¬ S i) : Rm.Rf m h' mr N v L a w :=
  ⟨by rw [f.same _ t.rlt h1]; exact t.blk, t.row.mono f.le fun b hb => f.same _ (t.row.blk b hb).2 (h2 b hb), Nat.lt_of_lt_of_le t.rlt f.le, t.mr, Nat.le_trans t.mh f.le, t.vr, t.N1, t.a1, t.w0, t.ok, t.uq⟩
/-- One sector is laid anew. -/
def Rd.wL (r : Rd) (n : Nat) (t : List UInt8) : Rd := { r with L := updL r.L n t }
def rfits (r : Rd) (N : Nat) : Prop := r.wh < 32 ∧ r.we + 64 ≤ N
theorem rbytes_len {r : Rd} (h : r.ok) (n : Nat) : (rbytes r n).length = 64 := by
  unfold rbytes
  split
  · simp
  · rename_i e; exact (h.L n).resolve_left e
section
variable {h : Hp} {K : Value → Hp → Prop} {q : Nat} {r : Rd} {m mr N : Nat} {v : Value} {L : Rm.By} {a : Nat} {w : Int}
theorem rEnd_call (hb : h.blks q = some ⟨refC r, 1, true⟩) (hd : r.ok) (rf : Rm.Rf m h mr N v L a w) (hq : q < h.next) (hqm : q ≠ mr) (hqv : sblk v ≠ some q) (hL : L.length ≤ 900000)
    (hK1 : r.wt = 1 → rfits r N → ∀ h' v' a' w', Rm.Rf m h' mr N v' (Rm.setN L r.we (fun j => (((rbytes r r.wh)[j]?).getD 0).toNat) 64) a' w' → Fr h h' (rnm mr v) → Rm.VCh h v v' → K (.int .i64 2) h')
    (hK2 : r.wt = 2 → rfits r N → ∀ h', h'.blks q = some ⟨refC (r.wL r.wh (bytesM (Rm.look L) r.we 64)), 1, true⟩ → Fr h h' (fun i => i = q) → K (.int .i64 2) h')
    (hK3 : ¬ ((r.wt = 1 ∨ r.wt = 2) ∧ rfits r N) → ∀ h', Ext h h' → K (.int .i64 3) h') : ACall prog 65 [ptr q, ptr mr, .int .u64 0] h K := by
  refine acallF_of tbE func65 rfl rfl mixed (by kernel_rfl) fun hwf => ?_
  have b4 := refC_4 r
  have b5 := refC_5 r
  have b6 := refC_6 r
  have cs := refC_size r
  have hN := rf.N1
  have k4 := hd.wh
  have k5 := hd.wt
  have k6 := hd.we
  have rl := rbytes_len hd r.wh
  have hset : r.wh < 32 → (refC r).setIfInBounds (9 + r.wh) (.string (txt (bytesM (Rm.look L) r.we 64))) = refC (r.wL r.wh (bytesM (Rm.look L) r.we 64)) := fun hn => refC_sL r hn _
  have hby : r.wh < 32 → ∀ {K' : Value → Hp → Prop}, (∀ h', Ext h h' → K' (.string (txt (rbytes r r.wh))) h') → ACall prog 42 [ptr q, .int .i64 r.wh] h K' := fun hn K' hk => rBytes_call hb hn hk
  unfold rfits at hK1 hK2 hK3
  obtain ⟨c, hc⟩ : ∃ c, c = refC r := ⟨_, rfl⟩
  obtain ⟨wt, hwt⟩ : ∃ x, x = r.wt := ⟨_, rfl⟩
  obtain ⟨wh, hwh⟩ : ∃ x, x = r.wh := ⟨_, rfl⟩
  obtain ⟨we, hwe⟩ : ∃ x, x = r.we := ⟨_, rfl⟩
  obtain ⟨B, hB⟩ : ∃ x, x = rbytes r r.wh := ⟨_, rfl⟩
  rw [← hB] at rl hK1 hby
  rw [← hc] at b4 b5 b6 cs hb
  rw [← hwt] at b5 k5 hK1 hK2 hK3
  rw [← hwh] at b4 k4 hK1 hK2 hK3 hby hset
  rw [← hwe] at b6 k6 hK1 hK2 hK3 hset
  rw [← hc] at hset
  have hw0 : ¬ (we : Int) < 0 := by omega
  have ws : (we : Int) - 0 = we := by omega
  by_cases c12 : (wt = 1 ∨ wt = 2) ∧ wh < 32
  · obtain ⟨c1, hs⟩ := c12
    have hs' : ¬ 31 < wh := by omega
    have hs2 : ¬ (31 : Int) < wh := by omega
    rcases c1 with c1 | c1
    · subst c1
      simp -dsimp (disch := omega) [hb, b4, b5, b6, hs', hs2, hq, hw0, ws, -getElem?_pos]
      refine hby hs fun h1 e1 => ?_
      simp -dsimp (disch := omega)
      refine ⟨fun j hj _ => e1.same j hj, ?_⟩
      have rf1 := Rf_fr rf (Fr.of_ext e1 fun _ => False) id (fun _ _ => id)
      refine Rm.rfPut_call (x := we) (l := B) rf1 (by omega) (by omega) k6 (fun hx h2 v2 r2 c2 vc2 => ?_) (fun hx => ?_)
      · rw [rl] at hx r2
        have hk := hK1 rfl ⟨hs, hx⟩ h2 v2 _ _ r2 ((Fr.of_ext e1 _).trans (RCh_fr c2) fun _ _ q => q) (fun b hb => (vc2 b hb).elim .inl fun q => .inr (by have := e1.le; omega))
        simp -dsimp (disch := omega)
        exact RetF.all (r := .int .i64 2) (by simp) hk
      · rw [rl] at hx
        have hk := hK3 (fun q => hx q.2.2) h1 e1
        simp -dsimp (disch := omega)
        exact RetF.all (r := .int .i64 3) (by simp) hk
    · subst c1
      simp -dsimp (disch := omega) [hb, b4, b5, b6, hs', hs2, hw0, ws, -getElem?_pos]
      refine Rm.rfBytes_call (x := we) (n := 64) rf (by omega) k6 (by omega) (fun hx h1 e1 => ?_) (fun hx => ?_)
      · have g1 := (e1.same q hq).trans hb
        obtain ⟨t, ht⟩ : ∃ t, t = bytesM (Rm.look L) we 64 := ⟨_, rfl⟩
        have hk := hK2 rfl ⟨hs, hx⟩
        rw [← ht] at hset hk ⊢
        have hset := hset hs
        have hk := hk (h1.set q ⟨refC (r.wL wh t), 1, true⟩) (blks_set_eq _ _ _) ((Fr.of_ext e1 _).trans (Fr.set h1 (p := q) _ (S := fun i => i = q) rfl) fun _ _ q => q)
        clear hc ht
        simp -dsimp (disch := omega) [g1, b4, cs, hset, -getElem?_pos]
        exact RetF.all (r := .int .i64 2) (by simp) hk
      · have hk := hK3 (fun q => hx q.2.2) h (Ext.refl _)
        simp -dsimp (disch := omega)
        exact RetF.all (r := .int .i64 3) (by simp) hk
  · have hk := hK3 (fun q => c12 ⟨q.1, q.2.1⟩) h (Ext.refl _)
    by_cases c1 : wt = 1
    · have hs : 31 < wh := by omega
      have hs2 : (31 : Int) < wh := by omega
      subst c1
      simp -dsimp (disch := omega) [hb, b4, b5, hs, hs2, -getElem?_pos]
      exact RetF.all (r := .int .i64 3) (by simp) hk
    · by_cases c2 : wt = 2
      · have hs : 31 < wh := by omega
        have hs2 : (31 : Int) < wh := by omega
        subst c2
        simp -dsimp (disch := omega) [hb, b4, b5, hs, hs2, -getElem?_pos]
        exact RetF.all (r := .int .i64 3) (by simp) hk
      · have c1' : ¬ (wt : Int) = 1 := by omega
        have c2' : ¬ (wt : Int) = 2 := by omega
        simp -dsimp (disch := omega) [hb, b4, b5, c1, c2, c1', c2', -getElem?_pos]
        exact RetF.all (r := .int .i64 3) (by simp) hk
theorem rEndNil_call (hb : h.blks q = some ⟨refC r, 1, true⟩) (hd : r.ok) (hK : K (.int .i64 3) h) : ACall prog 65 [ptr q, .pointer none, .int .u64 0] h K := by
  refine acallF_of tbE func65 rfl rfl mixed (by kernel_rfl) fun hwf => ?_
  have b4 := refC_4 r
  have b5 := refC_5 r
  have k4 := hd.wh
  have k5 := hd.wt
  obtain ⟨c, hc⟩ : ∃ c, c = refC r := ⟨_, rfl⟩
  obtain ⟨wt, hwt⟩ : ∃ x, x = r.wt := ⟨_, rfl⟩
  obtain ⟨wh, hwh⟩ : ∃ x, x = r.wh := ⟨_, rfl⟩
  rw [← hc] at b4 b5 hb
  rw [← hwt] at b5 k5
  rw [← hwh] at b4 k4
  clear hc
  by_cases c12 : (wt = 1 ∨ wt = 2) ∧ wh < 32
  · obtain ⟨c1, hs⟩ := c12
    have hs' : ¬ 31 < wh := by omega
    have hs2 : ¬ (31 : Int) < wh := by omega
    rcases c1 with c1 | c1
    all_goals
      subst c1
      simp -dsimp (disch := omega) [hb, b4, b5, hs', hs2, -getElem?_pos]
      exact RetF.all (r := .int .i64 3) (by simp) hK
  · by_cases c1 : wt = 1
    · have hs : 31 < wh := by omega
      have hs2 : (31 : Int) < wh := by omega
      subst c1
      simp -dsimp (disch := omega) [hb, b4, b5, hs, hs2, -getElem?_pos]
      exact RetF.all (r := .int .i64 3) (by simp) hK
    · by_cases c2 : wt = 2
      · have hs : 31 < wh := by omega
        have hs2 : (31 : Int) < wh := by omega
        subst c2
        simp -dsimp (disch := omega) [hb, b4, b5, hs, hs2, -getElem?_pos]
        exact RetF.all (r := .int .i64 3) (by simp) hK
      · have c1' : ¬ (wt : Int) = 1 := by omega
        have c2' : ¬ (wt : Int) = 2 := by omega
        simp -dsimp (disch := omega) [hb, b4, b5, c1, c2, c1', c2', -getElem?_pos]
        exact RetF.all (r := .int .i64 3) (by simp) hK
def Rd.wlf (r : Rd) (n : Nat) : Rd := { r with lf := n }
def Rd.wst (r : Rd) (n : Nat) : Rd := { r with st := n }
theorem refC_wlf (r : Rd) (n : Nat) : (refC r).setIfInBounds 7 (.int .u32 n) = refC (r.wlf n) := refC_s7 r n
theorem refC_wst (r : Rd) (n : Nat) : (refC r).setIfInBounds 3 (.int .i64 n) = refC (r.wst n) := refC_s3 r n
theorem rTick_idle {x : Value} {y : Nat} (hb : h.blks q = some ⟨refC r, 1, true⟩) (hd : r.ok) (hs : r.st ≠ 1) (hK : K (.bool false) h) : ACall prog 52 [ptr q, x, .int .u64 y] h K := by
  refine acallF_of tb0 func52 rfl rfl mixed (by kernel_rfl) fun hwf => ?_
  have b3 := refC_3 r
  have k3 := hd.st
  obtain ⟨st, hst⟩ : ∃ x, x = r.st := ⟨_, rfl⟩
  rw [← hst] at b3 k3 hs
  obtain ⟨c, hc⟩ : ∃ c, c = refC r := ⟨_, rfl⟩
  rw [← hc] at b3 hb
  clear hc
  have hs' : ¬ (st : Int) = 1 := by omega
  simp -dsimp (disch := omega) [hb, b3, hs, hs', -getElem?_pos]
  exact RetF.all (r := .bool false) (by simp) hK
theorem rTick_go {x : Value} {y : Nat} (hb : h.blks q = some ⟨refC r, 1, true⟩) (hd : r.ok) (hs : r.st = 1) (hl : 1 < r.lf) (hK : K (.bool false) (h.set q ⟨refC (r.wlf (r.lf - 1)), 1, true⟩)) : ACall prog 52 [ptr q, x, .int .u64 y] h K := by
  refine acallF_of tb0 func52 rfl rfl mixed (by kernel_rfl) fun hwf => ?_
  have b3 := refC_3 r
  have b7 := refC_7 r
  have k7 := hd.lf
  have cs := refC_size r
  have y7 := refC_wlf r (r.lf - 1)
  rw [hs] at b3
  obtain ⟨m, hm⟩ : ∃ m, r.lf = m + 1 := ⟨r.lf - 1, by omega⟩
  rw [hm, Nat.add_sub_cancel] at y7 hK
  rw [hm] at b7 k7 hl
  have hl' : (1 : Int) < (m : Int) + 1 := by omega
  have hl2 : 0 < m := by omega
  have hl3 : (0 : Int) < m := by omega
  obtain ⟨c, hc⟩ : ∃ c, c = refC r := ⟨_, rfl⟩
  rw [← hc] at b3 b7 y7 cs hb
  clear hc
  simp -dsimp (disch := omega) [hb, b3, b7, cs, hl, hl', hl2, hl3, y7, -getElem?_pos]
  exact RetF.all (r := .bool false) (by simp) hK
theorem rTick_end (hb : h.blks q = some ⟨refC r, 1, true⟩) (hd : r.ok) (hs : r.st = 1) (hl : ¬ 1 < r.lf) (rf : Rm.Rf m h mr N v L a w) (hq : q < h.next) (hqm : q ≠ mr) (hqv : sblk v ≠ some q) (hL : L.length ≤ 900000)
    (hK1 : r.wt = 1 → rfits r N → ∀ h' v' a' w', h'.blks q = some ⟨refC ((r.wlf 0).wst 2), 1, true⟩ → Rm.Rf m h' mr N v' (Rm.setN L r.we (fun j => (((rbytes r r.wh)[j]?).getD 0).toNat) 64) a' w' → Fr h h' (fun i => i = q ∨ rnm mr v i) → Rm.VCh h v v' → K (.bool true) h')
    (hK2 : r.wt = 2 → rfits r N → ∀ h', h'.blks q = some ⟨refC (((r.wlf 0).wL r.wh (bytesM (Rm.look L) r.we 64)).wst 2), 1, true⟩ → Fr h h' (fun i => i = q) → K (.bool true) h')
    (hK3 : ¬ ((r.wt = 1 ∨ r.wt = 2) ∧ rfits r N) → ∀ h', h'.blks q = some ⟨refC ((r.wlf 0).wst 3), 1, true⟩ → Fr h h' (fun i => i = q) → K (.bool true) h') : ACall prog 52 [ptr q, ptr mr, .int .u64 0] h K := by
  refine acallF_of tb0 func52 rfl rfl mixed (by kernel_rfl) fun hwf => ?_
  have b3 := refC_3 r
  have b7 := refC_7 r
  have k7 := hd.lf
  have cs := refC_size r
  have y7 : (refC r).setIfInBounds 7 (.int .u32 0) = refC (r.wlf 0) := refC_wlf r 0
  rw [hs] at b3
  have hd1 : (r.wlf 0).ok := ⟨hd.se, hd.cm, hd.ad, hd.st, hd.wh, hd.wt, hd.we, by show 0 < 4294967296; omega, hd.dl, hd.L⟩
  have b1 := blks_set_eq h q ⟨refC (r.wlf 0), 1, true⟩
  obtain ⟨H, hH⟩ : ∃ H, H = h.set q ⟨refC (r.wlf 0), 1, true⟩ := ⟨_, rfl⟩
  have f1 : Fr h H (fun i => i = q) := by rw [hH]; exact Fr.set h _ rfl
  have hn : H.next = h.next := by rw [hH]; rfl
  rw [← hH] at b1
  have rf1 := Rf_fr rf f1 (Ne.symm hqm) (fun i hi e => hqv (e ▸ hi))
  obtain ⟨lf, hlf⟩ : ∃ x, x = r.lf := ⟨_, rfl⟩
  rw [← hlf] at b7 k7 hl
  have hl' : ¬ (1 : Int) < lf := by omega
  have b3' : (refC (r.wlf 0)).size = 41 := refC_size _
  have w2 : (refC (r.wlf 0)).setIfInBounds 3 (.int .i64 2) = refC ((r.wlf 0).wst 2) := refC_wst _ 2
  have w3 : (refC (r.wlf 0)).setIfInBounds 3 (.int .i64 3) = refC ((r.wlf 0).wst 3) := refC_wst _ 3
  obtain ⟨c, hc⟩ : ∃ c, c = refC r := ⟨_, rfl⟩
  obtain ⟨c1, hc1⟩ : ∃ c, c = refC (r.wlf 0) := ⟨_, rfl⟩
  rw [← hc] at b3 b7 y7 cs hb
  rw [← hc1] at y7 w2 w3 b3' hH
  simp -dsimp (disch := omega) [hb, b3, b7, cs, hl, hl', y7, ← hH, -getElem?_pos]
  refine rEnd_call (r := r.wlf 0) b1 hd1 rf1 (by omega) hqm hqv hL (fun z1 z2 h2 v2 a2 w2' r2 f2 vc2 => ?_) (fun z1 z2 h2 g2 f2 => ?_) (fun z1 h2 e2 => ?_)
  · have g2 : h2.blks q = some ⟨c1, 1, true⟩ := by rw [f2.same q (by omega) (fun e => e.elim hqm hqv), hc1]; exact b1
    have g3 := blks_set_eq h2 q ⟨refC ((r.wlf 0).wst 2), 1, true⟩
    have f3 := Fr.set h2 (p := q) ⟨refC ((r.wlf 0).wst 2), 1, true⟩ (S := fun i => i = q) rfl
    have r2n : ∀ i, sblk v2 = some i → i ≠ q := fun i hi e => (vc2 i hi).elim (fun z => hqv (e ▸ z)) fun z => by omega
    have r3 := Rf_fr r2 f3 (Ne.symm hqm) r2n
    have hk := hK1 z1 z2 _ v2 a2 w2' g3 r3 ((⟨f1.le, fun i h1 h2 => f1.same i h1 fun e => h2 (.inl e)⟩ : Fr h H (fun i => i = q ∨ rnm mr v i)).trans (⟨f2.le, fun i h1 h2 => f2.same i h1 fun e => h2 (.inr e)⟩ : Fr H h2 (fun i => i = q ∨ rnm mr v i)) (fun _ _ z => z) |>.trans f3 fun _ _ z => .inl z) (fun b hb => (vc2 b hb).elim .inl fun z => .inr (by omega))
    clear hc hc1
    simp -dsimp (disch := omega) [g2, b3', w2, -getElem?_pos]
    exact RetF.all (r := .bool true) (by simp) hk
  · have cs2 := refC_size ((r.wlf 0).wL r.wh (bytesM (Rm.look L) r.we 64))
    have w4 : (refC ((r.wlf 0).wL r.wh (bytesM (Rm.look L) r.we 64))).setIfInBounds 3 (.int .i64 2) = refC (((r.wlf 0).wL r.wh (bytesM (Rm.look L) r.we 64)).wst 2) := refC_wst _ 2
    have hk := hK2 z1 z2 _ (blks_set_eq h2 q _) ((f1.trans f2 fun _ _ z => z).trans (Fr.set h2 (p := q) _ (S := fun i => i = q) rfl) fun _ _ z => z)
    have g2' : h2.blks q = some ⟨refC ((r.wlf 0).wL r.wh (bytesM (Rm.look L) r.we 64)), 1, true⟩ := g2
    obtain ⟨c2, hc2⟩ : ∃ c, c = refC ((r.wlf 0).wL r.wh (bytesM (Rm.look L) r.we 64)) := ⟨_, rfl⟩
    rw [← hc2] at cs2 w4 g2'
    clear hc hc1 hc2 g2
    simp -dsimp (disch := omega) [g2', cs2, w4, -getElem?_pos]
    exact RetF.all (r := .bool true) (by simp) hk
  · have g2 : h2.blks q = some ⟨c1, 1, true⟩ := by rw [e2.same q (by omega), hc1]; exact b1
    have hk := hK3 z1 _ (blks_set_eq h2 q _) ((f1.trans (Fr.of_ext e2 _) fun _ _ z => z).trans (Fr.set h2 (p := q) _ (S := fun i => i = q) rfl) fun _ _ z => z)
    clear hc hc1
    simp -dsimp (disch := omega) [g2, b3', w3, -getElem?_pos]
    exact RetF.all (r := .bool true) (by simp) hk
theorem rTick_endNil (hb : h.blks q = some ⟨refC r, 1, true⟩) (hd : r.ok) (hs : r.st = 1) (hl : ¬ 1 < r.lf) (hq : q < h.next)
    (hK3 : ∀ h', h'.blks q = some ⟨refC ((r.wlf 0).wst 3), 1, true⟩ → Fr h h' (fun i => i = q) → K (.bool true) h') : ACall prog 52 [ptr q, .pointer none, .int .u64 0] h K := by
  refine acallF_of tb0 func52 rfl rfl mixed (by kernel_rfl) fun hwf => ?_
  have b3 := refC_3 r
  have b7 := refC_7 r
  have k7 := hd.lf
  have cs := refC_size r
  have y7 : (refC r).setIfInBounds 7 (.int .u32 0) = refC (r.wlf 0) := refC_wlf r 0
  rw [hs] at b3
  have hd1 : (r.wlf 0).ok := ⟨hd.se, hd.cm, hd.ad, hd.st, hd.wh, hd.wt, hd.we, by show 0 < 4294967296; omega, hd.dl, hd.L⟩
  have b1 := blks_set_eq h q ⟨refC (r.wlf 0), 1, true⟩
  obtain ⟨H, hH⟩ : ∃ H, H = h.set q ⟨refC (r.wlf 0), 1, true⟩ := ⟨_, rfl⟩
  have f1 : Fr h H (fun i => i = q) := by rw [hH]; exact Fr.set h _ rfl
  rw [← hH] at b1
  obtain ⟨lf, hlf⟩ : ∃ x, x = r.lf := ⟨_, rfl⟩
  rw [← hlf] at b7 k7 hl
  have hl' : ¬ (1 : Int) < lf := by omega
  have b3' : (refC (r.wlf 0)).size = 41 := refC_size _
  have w3 : (refC (r.wlf 0)).setIfInBounds 3 (.int .i64 3) = refC ((r.wlf 0).wst 3) := refC_wst _ 3
  have hk := hK3 _ (blks_set_eq H q _) (f1.trans (Fr.set H (p := q) _ (S := fun i => i = q) rfl) fun _ _ z => z)
  obtain ⟨c, hc⟩ : ∃ c, c = refC r := ⟨_, rfl⟩
  obtain ⟨c1, hc1⟩ : ∃ c, c = refC (r.wlf 0) := ⟨_, rfl⟩
  rw [← hc] at b3 b7 y7 cs hb
  rw [← hc1] at y7 w3 b3' hH
  have g2 : H.blks q = some ⟨c1, 1, true⟩ := by rw [hc1]; exact b1
  simp -dsimp (disch := omega) [hb, b3, b7, cs, hl, hl', y7, ← hH, -getElem?_pos]
  refine rEndNil_call (r := r.wlf 0) b1 hd1 ?_
  clear hc hc1
  simp -dsimp (disch := omega) [g2, b3', w3, -getElem?_pos]
  exact RetF.all (r := .bool true) (by simp) hk
end
end Go.Proofs.Ytkbiadobkheafaa
