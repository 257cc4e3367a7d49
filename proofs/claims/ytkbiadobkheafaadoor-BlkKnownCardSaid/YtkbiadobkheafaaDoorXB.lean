/-
  A device with its memory, and the document's: each act of both. A device with its memory, and the document's: one call of both. Which devices are the same: of the program. Which devices are the same: of the document; both agree.
-/
import Derived.Test.YtkbiadobkheafaaDoorXA
set_option linter.unusedSimpArgs false
set_option linter.unusedVariables false
set_option linter.unusedSectionVars false

namespace Go.Proofs.YtkbiadobkheafaaDoor
open Go Go.Mini Go.Proofs.Tryd
set_option maxRecDepth 100000

structure Nm where
  p : Nat
  pm : Nat
  b : Nat
  q : Nat
  mr : Nat
/-- Both, apart from each other and from what T tells. -/
structure PrM (h0 : Hp) (T : Nat → Prop) (h : Hp) (x : Nm) (d : Dev) (r : Rd) (M : Nat → Nat) (a : Nat) (w : Int) (v : Value) (L : Rm.By) (a' : Nat) (w' : Int) : Prop where
  ow : Ow h0 h x.p d x.pm x.b 4096 4096 M a w
  rb : h.blks x.q = some ⟨refC r, 1, true⟩
  rok : r.ok
  rf : Rm.Rf h0.next h x.mr 4096 v L a' w'
  q0 : h0.next ≤ x.q
  qlt : x.q < h.next
  qp : x.q ≠ x.p
  qm : x.q ≠ x.pm
  qb : x.q ≠ x.b
  qr : x.q ≠ x.mr
  mp : x.mr ≠ x.p
  mm : x.mr ≠ x.pm
  mb : x.mr ≠ x.b
  vq : sblk v ≠ some x.q
  vp : sblk v ≠ some x.p
  vm : sblk v ≠ some x.pm
  vb : sblk v ≠ some x.b
  tlt : ∀ i, T i → i < h.next
  tn : ∀ i, T i → i ≠ x.p ∧ i ≠ x.pm ∧ i ≠ x.b ∧ i ≠ x.q ∧ i ≠ x.mr ∧ sblk v ≠ some i
def Pr (h0 : Hp) (T : Nat → Prop) (h : Hp) (x : Nm) (d : Dev) (r : Rd) : Prop := ∃ M a w v L a' w', PrM h0 T h x d r M a w v L a' w' ∧ Rel d r M L
/-- All but what T tells may change. -/
abbrev FT (T : Nat → Prop) (h h' : Hp) : Prop := Fr h h' (fun i => ¬ T i)
theorem FT.refl (T : Nat → Prop) (h : Hp) : FT T h h := Fr.refl _ _
theorem FT.trans' {T : Nat → Prop} {h h' h'' : Hp} (x : FT T h h') (y : FT T h' h'') : FT T h h'' := Fr.trans x y fun _ _ z => z
theorem FT.of {T S : Nat → Prop} {h h' : Hp} (f : Fr h h' S) (hs : ∀ i, T i → ¬ S i) : FT T h h' := ⟨f.le, fun i h1 h2 => f.same i h1 fun z => h2 fun t => hs i t z⟩
theorem nodup_len : ∀ (N : Nat) (l : List Nat), l.Nodup → (∀ x ∈ l, x < N) → l.length ≤ N := by
  intro N
  induction N with
  | zero =>
    intro l _ h
    cases l with
    | nil => simp
    | cons x l => exact absurd (h x (by simp)) (by omega)
  | succ N ih =>
    intro l hd h
    have h1 := ih (l.erase N) (hd.erase N) fun x hx => by
      have := (hd.mem_erase_iff).1 hx
      have := h x this.2
      have := this
      omega
    have h2 : l.length ≤ (l.erase N).length + 1 := by rw [List.length_erase]; split <;> omega
    omega
theorem uniq_len {N : Nat} : ∀ {L : Rm.By}, Rm.Uniq L → (∀ e ∈ L, e.1 < N) → L.length ≤ N := by
  intro L hu hb
  have key : ∀ (L : Rm.By), Rm.Uniq L → (L.map (·.1)).Nodup := by
    intro L
    induction L with
    | nil => intro _; exact List.nodup_nil
    | cons e L ih =>
      obtain ⟨k, u⟩ := e
      intro h
      rw [List.map_cons, List.nodup_cons]
      refine ⟨fun hm => ?_, ih h.2⟩
      obtain ⟨e, he, hk⟩ := List.mem_map.1 hm
      exact h.1 e he hk
  have h1 := key L hu
  have := nodup_len N _ h1 fun x hx => by
    obtain ⟨e, he, hk⟩ := List.mem_map.1 hx
    rw [← hk]; exact hb e he
  simpa using this
section
variable {h0 : Hp} {T : Nat → Prop} {h : Hp} {x : Nm} {d : Dev} {r : Rd} {M : Nat → Nat} {a : Nat} {w : Int} {v : Value} {L : Rm.By} {a' : Nat} {w' : Int} {K : Value → Hp → Prop}
theorem PrM.len (P : PrM h0 T h x d r M a w v L a' w') : L.length ≤ 4096 := uniq_len P.rf.uq fun e he => (P.rf.ok e he).1
theorem PrM.pr (P : PrM h0 T h x d r M a w v L a' w') (E : Rel d r M L) : Pr h0 T h x d r := ⟨_, _, _, _, _, _, _, P, E⟩
/-- The program's device and memory have changed. -/
theorem PrM.real {h' : Hp} {d' : Dev} {M' : Nat → Nat} {a2 : Nat} {w2 : Int} (P : PrM h0 T h x d r M a w v L a' w') (o : Ow h0 h' x.p d' x.pm x.b 4096 4096 M' a2 w2) (f : Fr h h' (three x.p x.pm x.b)) : PrM h0 T h' x d' r M' a2 w2 v L a' w' ∧ FT T h h' :=
  have n3 : ∀ {i}, i ≠ x.p → i ≠ x.pm → i ≠ x.b → ¬ three x.p x.pm x.b i := fun h1 h2 h3 z => z.elim h1 fun z => z.elim h2 h3
  ⟨⟨o, by rw [f.same _ P.qlt (n3 P.qp P.qm P.qb)]; exact P.rb, P.rok, Rf_fr P.rf f (n3 P.mp P.mm P.mb) (fun i hi z => z.elim (fun e => P.vp (e ▸ hi)) fun z => z.elim (fun e => P.vm (e ▸ hi)) fun e => P.vb (e ▸ hi)), P.q0, Nat.lt_of_lt_of_le P.qlt f.le, P.qp, P.qm, P.qb, P.qr, P.mp, P.mm, P.mb, P.vq, P.vp, P.vm, P.vb, fun i t => Nat.lt_of_lt_of_le (P.tlt i t) f.le, P.tn⟩,
    FT.of f fun i t => n3 (P.tn i t).1 (P.tn i t).2.1 (P.tn i t).2.2.1⟩
theorem one3 {h h' : Hp} {p pm b : Nat} (f : Fr h h' (fun i => i = p)) : Fr h h' (three p pm b) := ⟨f.le, fun i h1 h2 => f.same i h1 fun z => h2 (.inl z)⟩
/-- The document's device has changed. -/
theorem PrM.refD {h' : Hp} {r' : Rd} (P : PrM h0 T h x d r M a w v L a' w') (g : h'.blks x.q = some ⟨refC r', 1, true⟩) (ok : r'.ok) (f : Fr h h' (fun i => i = x.q)) : PrM h0 T h' x d r' M a w v L a' w' ∧ FT T h h' :=
  ⟨⟨P.ow.fr (P.ow.dm.fr f (Ne.symm P.qp) (Ne.symm P.qm) (Ne.symm P.qb)) f (fun i z => z ▸ P.q0), g, ok, Rf_fr P.rf f (Ne.symm P.qr) (fun i hi z => P.vq (z ▸ hi)), P.q0, Nat.lt_of_lt_of_le P.qlt f.le, P.qp, P.qm, P.qb, P.qr, P.mp, P.mm, P.mb, P.vq, P.vp, P.vm, P.vb, fun i t => Nat.lt_of_lt_of_le (P.tlt i t) f.le, P.tn⟩,
    FT.of f fun i t => (P.tn i t).2.2.2.1⟩
/-- The document's memory, too. -/
theorem PrM.refM {h' : Hp} {r' : Rd} {v' : Value} {L' : Rm.By} {a2 : Nat} {w2 : Int} (P : PrM h0 T h x d r M a w v L a' w') (g : h'.blks x.q = some ⟨refC r', 1, true⟩) (ok : r'.ok) (rf : Rm.Rf h0.next h' x.mr 4096 v' L' a2 w2) (f : Fr h h' (fun i => i = x.q ∨ rnm x.mr v i)) (vc : Rm.VCh h v v') : PrM h0 T h' x d r' M a w v' L' a2 w2 ∧ FT T h h' :=
  have pl := P.ow.dm.plt
  have ml := P.ow.dm.ram.plt
  have bl := P.ow.dm.ram.blt
  have nS : ∀ {i}, i ≠ x.q → i ≠ x.mr → sblk v ≠ some i → ¬ (i = x.q ∨ rnm x.mr v i) := fun h1 h2 h3 z => z.elim h1 fun z => z.elim h2 h3
  ⟨⟨P.ow.fr (P.ow.dm.fr f (nS (Ne.symm P.qp) (Ne.symm P.mp) P.vp) (nS (Ne.symm P.qm) (Ne.symm P.mm) P.vm) (nS (Ne.symm P.qb) (Ne.symm P.mb) P.vb)) f (fun i z => z.elim (fun e => e ▸ P.q0) fun z => z.elim (fun e => e ▸ P.rf.mr) fun e => (P.rf.row.blk i e).1), g, ok, rf, P.q0, Nat.lt_of_lt_of_le P.qlt f.le, P.qp, P.qm, P.qb, P.qr, P.mp, P.mm, P.mb,
    fun e => (vc _ e).elim P.vq fun z => by have := P.qlt; omega, fun e => (vc _ e).elim P.vp fun z => by omega, fun e => (vc _ e).elim P.vm fun z => by omega, fun e => (vc _ e).elim P.vb fun z => by omega,
    fun i t => Nat.lt_of_lt_of_le (P.tlt i t) f.le, fun i t => ⟨(P.tn i t).1, (P.tn i t).2.1, (P.tn i t).2.2.1, (P.tn i t).2.2.2.1, (P.tn i t).2.2.2.2.1, fun e => (vc _ e).elim (P.tn i t).2.2.2.2.2 fun z => by have := P.tlt i t; omega⟩⟩,
    FT.of f fun i t => nS (P.tn i t).2.2.2.1 (P.tn i t).2.2.2.2.1 (P.tn i t).2.2.2.2.2⟩
theorem PrM.ext {h' : Hp} (P : PrM h0 T h x d r M a w v L a' w') (e : Ext h h') : PrM h0 T h' x d r M a w v L a' w' ∧ FT T h h' :=
  (P.refD (by rw [e.same _ P.qlt]; exact P.rb) P.rok ⟨e.le, fun i hi _ => e.same i hi⟩)
abbrev pairV (x : Nm) : Value := .agg #[ptr x.p, ptr x.pm, ptr x.q, ptr x.mr]
theorem pairTick_call {f : Bool} (P : PrM h0 T h x d r M a w v L a' w') (E : Rel d r M L) (hK : ∀ h' d' r', Pr h0 T h' x d' r' → FT T h h' → K (.bool true) h') : ACall prog 40 [pairV x, .bool f] h K := by
  refine acallF_of tb0 func40 rfl rfl mixed (by kernel_rfl) fun hwf => ?_
  obtain ⟨H, hH⟩ : ∃ H, H = h.alloc ⟨#[ptr x.p, ptr x.pm, ptr x.q, ptr x.mr], 1, true⟩ := ⟨_, rfl⟩
  have e1 : Ext h H := by rw [hH]; exact Ext.alloc _ _
  have hX : H.blks h.next = some ⟨#[ptr x.p, ptr x.pm, ptr x.q, ptr x.mr], 1, true⟩ := by rw [hH]; exact blks_alloc_eq _ _
  have hn : h.next < H.next := by rw [hH]; simp
  have np : h.next ≠ x.p := by have := P.ow.dm.plt; omega
  have nm : h.next ≠ x.pm := by have := P.ow.dm.ram.plt; omega
  have nb : h.next ≠ x.b := by have := P.ow.dm.ram.blt; omega
  have n3 : ¬ three x.p x.pm x.b h.next := fun z => z.elim np fun z => z.elim nm nb
  obtain ⟨P1, f1⟩ := P.ext e1
  cases f with
  | false =>
    simp -dsimp (disch := omega) [← hH, hX]
    refine tickNil_call P1.ow.dm.dev P1.ow.dm.ok P1.ow.dm.plt fun h2 g2 f2 => ?_
    have x2 := (f2.same _ hn np).trans hX
    obtain ⟨P2, f2'⟩ := P1.real (P1.ow.fr ⟨g2, tickN_ok P1.ow.dm.ok, Nat.lt_of_lt_of_le P1.ow.dm.plt f2.le, Ram_fr P1.ow.dm.ram f2 (Ne.symm P1.ow.dm.p1) (Ne.symm P1.ow.dm.p2), P1.ow.dm.p1, P1.ow.dm.p2⟩ f2 P1.ow.np') (one3 f2)
    simp -dsimp (disch := omega) [x2]
    by_cases c1 : r.st = 1
    · by_cases c2 : 1 < r.lf
      · have hE : ¬ endsB d := fun z => (E.ends.1 z).2 c2
        obtain ⟨E1, em, en⟩ := E.go c1 c2 4096
        rw [← en] at E1
        rw [decide_eq_false hE]
        refine rTick_go P2.rb P.rok c1 c2 ?_
        obtain ⟨P3, f3⟩ := P2.refD (blks_set_eq h2 x.q ⟨refC (r.wlf (r.lf - 1)), 1, true⟩) (wlf_ok P.rok (by have := P.rok.lf; omega)) (Fr.set h2 _ rfl)
        simp -dsimp (disch := omega)
        exact RetF.all (r := .bool true) (by simp) (hK _ _ _ (P3.pr E1) ((f1.trans' f2').trans' f3))
      · have hE : endsB d := E.ends.2 ⟨c1, c2⟩
        have E1 := E.endN c1 c2
        rw [decide_eq_true hE]
        refine rTick_endNil P2.rb P.rok c1 c2 P2.qlt fun h3 g3 f3 => ?_
        obtain ⟨P3, f3'⟩ := P2.refD g3 (wst_ok (wlf_ok P.rok (by omega)) (by omega)) f3
        simp -dsimp (disch := omega)
        exact RetF.all (r := .bool true) (by simp) (hK _ _ _ (P3.pr E1) ((f1.trans' f2').trans' f3'))
    · have hE : ¬ endsB d := fun z => c1 (E.ends.1 z).1
      obtain ⟨_, _, en⟩ := E.idle c1 4096
      rw [decide_eq_false hE]
      refine rTick_idle P2.rb P.rok c1 ?_
      simp -dsimp (disch := omega)
      exact RetF.all (r := .bool true) (by simp) (hK _ _ _ (P2.pr (by rw [en]; exact E)) (f1.trans' f2'))
  | true =>
    simp -dsimp (disch := omega) [← hH, hX]
    refine tick_ow P1.ow fun h2 a2 w2 o2 f2 => ?_
    have x2 := (f2.same _ hn n3).trans hX
    obtain ⟨P2, f2'⟩ := P1.real o2 f2
    simp -dsimp (disch := omega) [x2]
    by_cases c1 : r.st = 1
    · by_cases c2 : 1 < r.lf
      · have hE : ¬ endsB d := fun z => (E.ends.1 z).2 c2
        obtain ⟨E1, em, en⟩ := E.go c1 c2 4096
        rw [decide_eq_false hE]
        refine rTick_go P2.rb P.rok c1 c2 ?_
        obtain ⟨P3, f3⟩ := P2.refD (blks_set_eq h2 x.q ⟨refC (r.wlf (r.lf - 1)), 1, true⟩) (wlf_ok P.rok (by have := P.rok.lf; omega)) (Fr.set h2 _ rfl)
        simp -dsimp (disch := omega)
        exact RetF.all (r := .bool true) (by simp) (hK _ _ _ (P3.pr (by rw [em]; exact E1)) ((f1.trans' f2').trans' f3))
      · have hE : endsB d := E.ends.2 ⟨c1, c2⟩
        rw [decide_eq_true hE]
        have hl := P2.len
        refine rTick_end P2.rb P.rok c1 c2 P2.rf P2.qlt P.qr P2.vq (by omega) (fun z1 z2 h3 v3 a3 w3 g3 r3 f3 vc3 => ?_) (fun z1 z2 h3 g3 f3 => ?_) (fun z1 h3 g3 f3 => ?_)
        · obtain ⟨P3, f3'⟩ := P2.refM g3 (wst_ok (wlf_ok P.rok (by omega)) (by omega)) r3 f3 vc3
          simp -dsimp (disch := omega)
          exact RetF.all (r := .bool true) (by simp) (hK _ _ _ (P3.pr (E.end1 c1 c2 z1 z2)) ((f1.trans' f2').trans' f3'))
        · obtain ⟨P3, f3'⟩ := P2.refD g3 (wst_ok (wL_ok (wlf_ok P.rok (by omega)) (bytesM_length _ _ _)) (by omega)) f3
          obtain ⟨E1, em⟩ := E.end2 c1 c2 z1 z2
          simp -dsimp (disch := omega)
          exact RetF.all (r := .bool true) (by simp) (hK _ _ _ (P3.pr (by rw [em]; exact E1)) ((f1.trans' f2').trans' f3'))
        · obtain ⟨P3, f3'⟩ := P2.refD g3 (wst_ok (wlf_ok P.rok (by omega)) (by omega)) f3
          obtain ⟨E1, em⟩ := E.end3 c1 c2 z1
          simp -dsimp (disch := omega)
          exact RetF.all (r := .bool true) (by simp) (hK _ _ _ (P3.pr (by rw [em]; exact E1)) ((f1.trans' f2').trans' f3'))
    · have hE : ¬ endsB d := fun z => c1 (E.ends.1 z).1
      obtain ⟨et, em, en⟩ := E.idle c1 4096
      rw [decide_eq_false hE]
      refine rTick_idle P2.rb P.rok c1 ?_
      simp -dsimp (disch := omega)
      exact RetF.all (r := .bool true) (by simp) (hK _ _ _ (P2.pr (by rw [et, em]; exact E)) (f1.trans' f2'))
end
end Go.Proofs.YtkbiadobkheafaaDoor
namespace Go.Proofs.YtkbiadobkheafaaDoor
open Go Go.Mini Go.Proofs.Tryd
set_option maxRecDepth 100000

section
variable {h0 : Hp} {T : Nat → Prop} {h : Hp} {x : Nm} {d : Dev} {r : Rd} {M : Nat → Nat} {a : Nat} {w : Int} {v : Value} {L : Rm.By} {a' : Nat} {w' : Int} {K : Value → Hp → Prop}
theorem mwrite_ow {p pm b : Nat} {y u : Nat} {n : Int} (o : Ow h0 h p d pm b 4096 4096 M a w) (hu : u < 18446744073709551616) (hy : y < 18446744073709551616) (hK1 : Rm.wok n ∧ y + n.toNat ≤ 4096 → ∀ h' a2 w2, Ow h0 h' p d pm b 4096 4096 (Rm.wr M y u n.toNat) a2 w2 → Fr h h' (three p pm b) → K (.bool true) h') (hK2 : ¬ (Rm.wok n ∧ y + n.toNat ≤ 4096) → K (.bool false) h) : ACall prog 42 [ptr pm, .int .u64 y, .int .u64 u, .int .i64 n] h K :=
  Rm.write_call o.dm.ram hu hy (fun hc => by
    have r2 := (o.dm.ram.fill (Rm.wr_lt (x := y) (v := u) (n := n.toNat) o.dm.ram.M8)).claim (w' := Rm.toW a w y n.toNat) (Rm.toA_lt (x := y) (n := n.toNat) o.dm.ram.a1)
    have c2 : Rm.Ch h _ pm b := (Rm.Ch.setb h pm b ⟨mem 4096 (Rm.wr M y u n.toNat), 1, true⟩).trans (Rm.Ch.setp _ pm b ⟨Rm.ramC b 4096 4096 (Rm.toA a y n.toNat) (Rm.toW a w y n.toNat), 1, true⟩)
    have f2 := Fr.ch c2 (S := fun i => i = pm ∨ i = b) (.inl rfl) (.inr rfl)
    exact hK1 hc _ _ _ (o.fr ⟨by rw [f2.same _ o.dm.plt (fun q => q.elim o.dm.p1 o.dm.p2)]; exact o.dm.dev, o.dm.ok, Nat.lt_of_lt_of_le o.dm.plt f2.le, r2, o.dm.p1, o.dm.p2⟩ f2 (fun i q => q.elim (fun e => e ▸ o.nm) fun e => e ▸ o.nb)) ⟨f2.le, fun i h1 h2 => f2.same i h1 fun q => h2 (.inr q)⟩) hK2
theorem Rel.mwrite (E : Rel d r M L) (y u n : Nat) : Rel d r (Rm.wr M y u n) (Rm.setN L y (fun j => u / 256 ^ j % 256) n) :=
  ⟨E.rs, E.rc, E.ra, E.st, E.dl, E.run, E.sec, fun i hi => by
    rw [Rm.look_setN]
    unfold Rm.wr
    split
    · rfl
    · exact E.mem i hi⟩
theorem setN_zero (L : Rm.By) (y : Nat) (f : Nat → Nat) : Rm.setN L y f 0 = L := rfl
abbrev actV (e : Act) : Value := .agg #[.int .u8 e.what, .int .u64 e.x, .int .u64 e.v, .int .i64 e.w]
set_option maxHeartbeats 1000000 in
theorem one_call {e : Act} (P : PrM h0 T h x d r M a w v L a' w') (E : Rel d r M L) (he : e.ok) (hK : ∀ h' d' r', Pr h0 T h' x d' r' → FT T h h' → K (.bool true) h') : ACall prog 24 [pairV x, actV e] h K := by
  refine acallF_of tb0 func24 rfl rfl mixed (by kernel_rfl) fun hwf => ?_
  obtain ⟨p1, p2, p3⟩ := he
  obtain ⟨ew, ex, ev, en⟩ := e
  simp only at p1 p2 p3
  obtain ⟨H1, hH1⟩ : ∃ H, H = h.alloc ⟨#[ptr x.p, ptr x.pm, ptr x.q, ptr x.mr], 1, true⟩ := ⟨_, rfl⟩
  have e1 : Ext h H1 := by rw [hH1]; exact Ext.alloc _ _
  have hn1 : H1.next = h.next + 1 := by rw [hH1]; rfl
  obtain ⟨H, hH⟩ : ∃ H, H = H1.alloc ⟨#[.int .u8 ew, .int .u64 ex, .int .u64 ev, .int .i64 en], 1, true⟩ := ⟨_, rfl⟩
  have e2 : Ext H1 H := by rw [hH]; exact Ext.alloc _ _
  have hX : H.blks h.next = some ⟨#[ptr x.p, ptr x.pm, ptr x.q, ptr x.mr], 1, true⟩ := by rw [e2.same _ (by omega), hH1]; exact blks_alloc_eq _ _
  have hA : H.blks (h.next + 1) = some ⟨#[.int .u8 ew, .int .u64 ex, .int .u64 ev, .int .i64 en], 1, true⟩ := by rw [hH, ← hn1]; exact blks_alloc_eq _ _
  have hn : H.next = h.next + 2 := by rw [hH, Hp.next_alloc, hn1]
  have lp := P.ow.dm.plt
  have lm := P.ow.dm.ram.plt
  have lb := P.ow.dm.ram.blt
  have lq := P.qlt
  have n3 : ∀ i, h.next ≤ i → ¬ three x.p x.pm x.b i := fun i hi z => z.elim (fun e => by omega) fun z => z.elim (fun e => by omega) fun e => by omega
  have nq : ∀ i, h.next ≤ i → ¬ i = x.q := fun i hi z => by omega
  obtain ⟨P1, f1⟩ := P.ext (e1.trans e2)
  have keep : ∀ {G : Hp} {S : Nat → Prop}, Fr H G S → (∀ i, h.next ≤ i → ¬ S i) → G.blks h.next = some ⟨#[ptr x.p, ptr x.pm, ptr x.q, ptr x.mr], 1, true⟩ ∧ G.blks (h.next + 1) = some ⟨#[.int .u8 ew, .int .u64 ex, .int .u64 ev, .int .i64 en], 1, true⟩ := fun f hs => ⟨(f.same _ (by omega) (hs _ (Nat.le_refl _))).trans hX, (f.same _ (by omega) (hs _ (by omega))).trans hA⟩
  obtain ⟨c, hcd⟩ : ∃ c, c = ew % 15 := ⟨_, rfl⟩
  have hci : (ew : Int) % 15 = c := by omega
  have hc15 : c < 15 := by omega
  have hst := P.ow.dm.ok.st
  by_cases z01 : c = 0 ∨ c = 1
  · have hrd := E.read ex en
    rcases z01 with z | z
    all_goals
      rw [z] at hci
      simp -dsimp (disch := omega) [← hH1, ← hH, hn1, hX, hA, hci]
      refine read_call P1.ow.dm.dev P1.ow.dm.ok p2 ?_
      simp -dsimp (disch := omega) [hX, hA]
      refine rRead_call P1.rb P1.rok p2 ?_
      rw [hrd]
      have hbb : (mayD ex en == mayD ex en) = true := by cases mayD ex en <;> rfl
      simp -dsimp (disch := omega) [hbb]
      exact RetF.all (r := .bool true) (by simp) (hK _ _ _ (P1.pr E) f1)
  by_cases z26 : 2 ≤ c ∧ c ≤ 6
  · rcases (by omega : c = 2 ∨ c = 3 ∨ c = 4 ∨ c = 5 ∨ c = 6) with z | z | z | z | z
    all_goals
      rw [z] at hci
      simp -dsimp (disch := omega) [← hH1, ← hH, hn1, hX, hA, hci]
      refine write_ow P1.ow p2 p3 fun h2 o2 f2 => ?_
      obtain ⟨x2, a2⟩ := keep f2 (fun i hi z => n3 i hi (.inl z))
      obtain ⟨P2, f2'⟩ := P1.real o2 (one3 f2)
      simp -dsimp (disch := omega) [x2, a2]
      refine rWrite_call P2.rb P2.rok p2 p3 ?_
      have hbb : (mayD ex en == mayD ex en) = true := by cases mayD ex en <;> rfl
      obtain ⟨P3, f3⟩ := P2.refD (blks_set_eq h2 x.q ⟨refC (if mayD ex en = true then rwriteR r ex ev else r), 1, true⟩) (rwrite_ok' P.rok p3) (Fr.set h2 _ rfl)
      simp -dsimp (disch := omega) [hbb]
      exact RetF.all (r := .bool true) (by simp) (hK _ _ _ (P3.pr (E.write' hst ex ev en)) ((f1.trans' f2').trans' f3))
  by_cases z7a : 7 ≤ c ∧ c ≤ 10
  · have hv7 : ((ev : Int) = 7 ∨ ¬ (ev : Int) = 7) := by omega
    rcases (by omega : c = 7 ∨ c = 8 ∨ c = 9 ∨ c = 10) with z | z | z | z
    all_goals
      rw [z] at hci
      simp -dsimp (disch := omega) [← hH1, ← hH, hn1, hX, hA, hci]
      refine pairTick_call P1 E fun h2 d2 r2 P2 f2 => ?_
      simp -dsimp (disch := omega)
      exact RetF.all (r := .bool true) (by simp) (hK _ _ _ P2 (f1.trans' f2))
  by_cases z11 : c = 11
  · have hci : (ew : Int) % 15 = 11 := by omega
    have e32 := wrap32 ev
    have hm : ev % 4294967296 < 4294967296 := Nat.mod_lt _ (by omega)
    obtain ⟨m, hm'⟩ : ∃ m, m = ev % 4294967296 := ⟨_, rfl⟩
    rw [← hm'] at e32 hm
    simp -dsimp (disch := omega) [← hH1, ← hH, hn1, hX, hA, hci, e32]
    refine setDelay_ow P1.ow hm fun h2 o2 f2 => ?_
    obtain ⟨x2, a2⟩ := keep f2 (fun i hi z => n3 i hi (.inl z))
    obtain ⟨P2, f2'⟩ := P1.real o2 (one3 f2)
    have hs8 := refC_s8 r m
    have cs := refC_size r
    have g2 := P2.rb
    obtain ⟨P3, f3⟩ := P2.refD (blks_set_eq h2 x.q ⟨refC { r with dl := m }, 1, true⟩) (rdelay_ok P.rok hm) (Fr.set h2 _ rfl)
    obtain ⟨cc, hcc⟩ : ∃ c, c = refC r := ⟨_, rfl⟩
    rw [← hcc] at g2 hs8 cs
    clear hcc
    simp -dsimp (disch := omega) [x2, a2, e32, g2, hs8, cs]
    exact RetF.all (r := .bool true) (by simp) (hK _ _ _ (P3.pr (E.delay m)) ((f1.trans' f2').trans' f3))
  by_cases z12 : c = 12
  · have hci : (ew : Int) % 15 = 12 := by omega
    by_cases odd : ev % 2 = 1
    · have odd' : (ev : Int) % 2 = 1 := by omega
      simp -dsimp (disch := omega) [← hH1, ← hH, hn1, hX, hA, hci, odd']
      refine reset_ow P1.ow fun h2 o2 f2 => ?_
      obtain ⟨x2, a2⟩ := keep f2 (fun i hi z => n3 i hi (.inl z))
      obtain ⟨P2, f2'⟩ := P1.real o2 (one3 f2)
      simp -dsimp (disch := omega) [x2, a2]
      refine rReset_call P2.rb ?_
      obtain ⟨P3, f3⟩ := P2.refD (blks_set_eq h2 x.q ⟨refC (rresetR r), 1, true⟩) (rreset_ok P.rok) (Fr.set h2 _ rfl)
      simp -dsimp (disch := omega)
      exact RetF.all (r := .bool true) (by simp) (hK _ _ _ (P3.pr E.reset) ((f1.trans' f2').trans' f3))
    · have odd' : ¬ (ev : Int) % 2 = 1 := by omega
      simp -dsimp (disch := omega) [← hH1, ← hH, hn1, hX, hA, hci, odd']
      exact RetF.all (r := .bool true) (by simp) (hK _ _ _ (P1.pr E) f1)
  by_cases z14 : c = 14
  · have hci : (ew : Int) % 15 = 14 := by omega
    simp -dsimp (disch := omega) [← hH1, ← hH, hn1, hX, hA, hci]
    refine mwrite_ow (n := 1) P1.ow p3 p2 (fun hc h2 a2 w2 o2 f2 => ?_) (fun hc => ?_)
    · obtain ⟨x2, a2'⟩ := keep f2 n3
      obtain ⟨P2, f2'⟩ := P1.real o2 f2
      have hl := P2.len
      simp -dsimp (disch := omega) [x2, a2']
      refine Rm.rfWrite_call (n := 1) P2.rf (by omega) p2 p3 (fun _ h3 v3 r3 c3 vc3 => ?_) (fun hc' => absurd hc hc')
      have f3 := RCh_fr c3
      have g3 : h3.blks x.q = some ⟨refC r, 1, true⟩ := (f3.same _ P2.qlt (fun z => z.elim P.qr P2.vq)).trans P2.rb
      obtain ⟨P3, f3'⟩ := P2.refM g3 P.rok r3 ⟨f3.le, fun i h1 h2 => f3.same i h1 fun z => h2 (.inr z)⟩ vc3
      simp -dsimp (disch := omega)
      exact RetF.all (r := .bool true) (by simp) (hK _ _ _ (P3.pr (E.mwrite ex ev 1)) ((f1.trans' f2').trans' f3'))
    · have hl := P1.len
      simp -dsimp (disch := omega) [hX, hA]
      refine Rm.rfWrite_call (n := 1) P1.rf (by omega) p2 p3 (fun hc' => absurd hc' hc) (fun _ => ?_)
      simp -dsimp (disch := omega)
      exact RetF.all (r := .bool true) (by simp) (hK _ _ _ (P1.pr E) f1)
  · have z13 : c = 13 := by omega
    have hci : (ew : Int) % 15 = 13 := by omega
    simp -dsimp (disch := omega) [← hH1, ← hH, hn1, hX, hA, hci]
    exact RetF.all (r := .bool true) (by simp) (hK _ _ _ (P1.pr E) f1)
end
end Go.Proofs.YtkbiadobkheafaaDoor
namespace Go.Proofs.YtkbiadobkheafaaDoor
open Go Go.Mini Go.Proofs.Tryd
set_option maxRecDepth 100000

theorem eqPl_50 : eqPl prog 8 50 = some ((List.range 2057).map fun o => (o, 0)) := by kernel_rfl
theorem eqGT_50 : eqGT prog 50 = false := by kernel_rfl
/-- A state's cells. -/
def stC (d : Dev) : Array Value := (devC d).extract 1 2058
theorem stC_size (d : Dev) : (stC d).size = 2057 := by simp [stC]
theorem stC_at (d : Dev) {i : Nat} (h : i < 2057) : (stC d)[i]? = some (cell d (i + 1)) := by
  unfold stC
  rw [Array.getElem?_extract, if_pos (by simp; omega), Nat.add_comm 1 i, devC_at d (by omega)]
theorem stC_ext {d : Dev} {a : Array Value} (hs : a.size = 2057) (h : ∀ i, i < 2057 → a[i]? = some (cell d (i + 1))) : a = stC d := by
  apply Array.ext_getElem?
  intro i
  rcases Nat.lt_or_ge i 2057 with hi | hi
  · rw [h i hi, stC_at d hi]
  · rw [Array.getElem?_eq_none (by omega), Array.getElem?_eq_none (by rw [stC_size]; omega)]
theorem cell_one (d : Dev) (i : Nat) : (cell d i).oneCell' = true ∧ vtop (cell d i) = 0 := by
  unfold cell
  (repeat' split) <;> exact ⟨rfl, rfl⟩
theorem stC_mem {d : Dev} {v : Value} (h : v ∈ (stC d).toList) : ∃ i, v = cell d i := by
  obtain ⟨j, hj⟩ := List.mem_iff_getElem?.1 h
  rw [Array.getElem?_toList] at hj
  rcases Nat.lt_or_ge j 2057 with hi | hi
  · rw [stC_at d hi] at hj; cases hj; exact ⟨_, rfl⟩
  · rw [Array.getElem?_eq_none (by rw [stC_size]; omega)] at hj; cases hj
theorem oneAll_of {l : List Value} (h : ∀ v ∈ l, v.oneCell' = true) : oneAll l = true := by
  induction l with
  | nil => rfl
  | cons v l ih => rw [oneAll_cons, h v (by simp), ih fun w hw => h w (by simp [hw])]; rfl
theorem vtopL_of {l : List Value} (h : ∀ v ∈ l, vtop v = 0) : vtopL l = 0 := by
  induction l with
  | nil => rfl
  | cons v l ih => rw [vtopL_cons, h v (by simp), ih fun w hw => h w (by simp [hw])]; rfl
theorem stC_one (d : Dev) : oneAll (stC d).toList = true := oneAll_of fun v hv => by obtain ⟨i, rfl⟩ := stC_mem hv; exact (cell_one d i).1
theorem stC_top (d : Dev) : vtopL (stC d).toList = 0 := vtopL_of fun v hv => by obtain ⟨i, rfl⟩ := stC_mem hv; exact (cell_one d i).2
theorem allEq_dec {xs ys : Array Value} : ∀ {l : List (Nat × Nat)}, (∀ p ∈ l, ∃ a b r, xs[p.1]? = some a ∧ ys[p.1]? = some b ∧ leafEq p.2 a b = some r ∧ (r = true ↔ a = b)) → ∃ r, allEq l xs ys = some r ∧ (r = true ↔ ∀ p ∈ l, xs[p.1]? = ys[p.1]?) := by
  intro l
  induction l with
  | nil => intro _; exact ⟨true, rfl, by simp⟩
  | cons p l ih =>
    intro h
    obtain ⟨r, h1, h2⟩ := ih fun q hq => h q (List.mem_cons_of_mem _ hq)
    obtain ⟨a, b, r0, e1, e2, e3, e4⟩ := h p (by simp)
    obtain ⟨o, k⟩ := p
    refine ⟨r0 && r, by rw [allEq_cons, e1, e2, h1, allV_some, e3, allC_some], ?_⟩
    rw [Bool.and_eq_true, e4, h2]
    simp only [List.mem_cons, forall_eq_or_imp, e1, e2, Option.some.injEq]
theorem leaf_u (k : IntKind) (a b : Int) : ∃ r, leafEq 0 (.int k a) (.int k b) = some r ∧ (r = true ↔ Value.int k a = .int k b) := ⟨_, leafEq_int k a b, by rw [decide_eq_true_iff]; constructor <;> intro h <;> simpa using h⟩
theorem cell_leaf (d d' : Dev) {i : Nat} (hi : 0 < i) : ∃ r, leafEq 0 (cell d i) (cell d' i) = some r ∧ (r = true ↔ cell d i = cell d' i) := by
  rcases Nat.lt_or_ge i 10 with h | h
  · rcases (by omega : i = 1 ∨ i = 2 ∨ i = 3 ∨ i = 4 ∨ i = 5 ∨ i = 6 ∨ i = 7 ∨ i = 8 ∨ i = 9) with rfl | rfl | rfl | rfl | rfl | rfl | rfl | rfl | rfl <;> exact leaf_u _ _ _
  · rw [cell_S d h, cell_S d' h]; exact leaf_u _ _ _
theorem eq_stC (d d' : Dev) : ∃ r : Bool, (∀ xo yo, abin prog .eql 50 xo yo (.agg (stC d)) (.agg (stC d')) = some (.bool r)) ∧ (r = true ↔ ∀ i, 1 ≤ i → i < 2058 → cell d i = cell d' i) := by
  obtain ⟨r, h1, h2⟩ := allEq_dec (xs := stC d) (ys := stC d') (l := (List.range 2057).map fun o => (o, 0)) fun p hp => by
    obtain ⟨o, ho, rfl⟩ := List.mem_map.1 hp
    have ho := List.mem_range.1 ho
    obtain ⟨r, g1, g2⟩ := cell_leaf d d' (i := o + 1) (by omega)
    exact ⟨_, _, r, stC_at d ho, stC_at d' ho, g1, g2⟩
  refine ⟨r, fun xo yo => ?_, ?_⟩
  · rw [abin_agg_eql, eqPl_50, aggSz_50, eqGT_50, eqA_some, eqAC_ok ⟨stC_size d, stC_size d'⟩ ⟨stC_one d, stC_one d'⟩ ⟨stC_top d, stC_top d'⟩, h1, aggB_some]
  · rw [h2]
    constructor
    · intro h i h1 h2
      have := h (i - 1, 0) (List.mem_map.2 ⟨i - 1, List.mem_range.2 (by omega), rfl⟩)
      simp only at this
      rw [stC_at d (by omega), stC_at d' (by omega), show i - 1 + 1 = i by omega] at this
      exact Option.some.inj this
    · intro h p hp
      obtain ⟨o, ho, rfl⟩ := List.mem_map.1 hp
      have ho := List.mem_range.1 ho
      simp only
      rw [stC_at d ho, stC_at d' ho, h (o + 1) (by omega) (by omega)]
/-- Without what makes no difference. -/
def shownD (d : Dev) : Dev := if d.st = 1 then d else { d with us := 0, uc := 0, ua := 0, lf := 0 }
section
variable {h : Hp} {K : Value → Hp → Prop} {p : Nat} {d : Dev}
theorem shown_call (hb : h.blks p = some ⟨devC d, 1, true⟩) (hd : d.ok) (hp : p < h.next) (hK : ∀ h', Ext h h' → K (.agg (stC (shownD d))) h') : ACall prog 31 [ptr p] h K := by
  refine acallF_of tb0 func31 rfl rfl mixed (by kernel_rfl) fun hwf => ?_
  have cs : (devC d).size = 2058 := by simp
  obtain ⟨s, hs⟩ : ∃ s, s = (devC d).extract 1 2058 := ⟨_, rfl⟩
  have ss : s.size = 2057 := by rw [hs]; simp
  have s6 : s[6]? = some (.int .u8 d.st) := by rw [hs]; exact stC_at d (i := 6) (by omega)
  have so : oneAll s.toList = true := by rw [hs]; exact stC_one d
  have sp : putL (zL).toArray 0 s.toList = s := putL_full (by rw [ss]; simp [zL_len])
  have se : s.extract 0 2057 = s := by have := Array.extract_size (xs := s); rwa [ss] at this
  have st4 := hd.st
  have hpn : ¬ p = h.next := by omega
  obtain ⟨c, hc⟩ : ∃ c, c = devC d := ⟨_, rfl⟩
  rw [← hc] at cs hb
  have hs' : c.extract 1 2058 = s := by rw [hc]; exact hs.symm
  obtain ⟨st, hst⟩ : ∃ st, st = d.st := ⟨_, rfl⟩
  rw [← hst] at s6 st4
  by_cases c1 : st = 1
  · have e1 : stC (shownD d) = s := by unfold shownD; rw [if_pos (hst ▸ c1)]; exact hs.symm
    rw [e1] at hK
    subst c1
    clear hs hc
    simp -dsimp (disch := omega) [hb, cs, hs', zL_len, hpn, so, sp, ss, s6, se, -getElem?_pos]
    exact RetF.all (r := .agg s) (by simp [ss, se]) (hK _ ((Ext.alloc _ _).then_alloc _))
  · have c1' : ¬ (st : Int) = 1 := by omega
    have e0 : shownD d = { d with us := 0, uc := 0, ua := 0, lf := 0 } := by unfold shownD; rw [if_neg (by rw [← hst]; exact c1)]
    have e1 : (putL s 3 [.int .u32 0, .int .u32 0, .int .u64 0]).setIfInBounds 7 (.int .u32 0) = stC (shownD d) := by
      refine stC_ext (by simp [ss]) fun i hi => ?_
      rw [e0, Array.getElem?_setIfInBounds, getElem?_putL]
      have sat : ∀ {j}, j < 2057 → s[j]? = some (cell d (j + 1)) := fun hj => by rw [hs]; exact stC_at d hj
      rcases Nat.lt_or_ge i 9 with h9 | h9
      · rcases (by omega : i = 0 ∨ i = 1 ∨ i = 2 ∨ i = 6 ∨ i = 8 ∨ i = 3 ∨ i = 4 ∨ i = 5 ∨ i = 7) with rfl | rfl | rfl | rfl | rfl | rfl | rfl | rfl | rfl
        iterate 5 (rw [if_neg (by decide), if_neg (by simp), sat (by omega)]; rfl)
        iterate 3 (rw [if_neg (by decide), if_pos (by simp [ss])]; rfl)
        rw [if_pos rfl, if_pos (by simp [ss])]; rfl
      · rw [if_neg (by omega), if_neg (by simp; omega), sat hi, cell_S _ (by omega), cell_S _ (by omega)]
    have e2 : putL s 3 [.int .u32 0, .int .u32 0, .int .u64 0] = ((s.setIfInBounds 3 (.int .u32 0)).setIfInBounds 4 (.int .u32 0)).setIfInBounds 5 (.int .u64 0) := rfl
    rw [e2] at e1
    obtain ⟨s3, hs3⟩ : ∃ s', s.setIfInBounds 3 (.int .u32 0) = s' := ⟨_, rfl⟩
    have z3 : s3.size = 2057 := by rw [← hs3]; simp [ss]
    rw [hs3] at e1
    obtain ⟨s4, hs4⟩ : ∃ s', s3.setIfInBounds 4 (.int .u32 0) = s' := ⟨_, rfl⟩
    have z4 : s4.size = 2057 := by rw [← hs4]; simp [z3]
    rw [hs4] at e1
    obtain ⟨s5, hs5⟩ : ∃ s', s4.setIfInBounds 5 (.int .u64 0) = s' := ⟨_, rfl⟩
    have z5 : s5.size = 2057 := by rw [← hs5]; simp [z4]
    rw [hs5] at e1
    obtain ⟨s', hs2⟩ : ∃ s', s5.setIfInBounds 7 (.int .u32 0) = s' := ⟨_, rfl⟩
    rw [hs2] at e1
    have ss' : s'.size = 2057 := by rw [← hs2]; simp [z5]
    have so' : oneAll s'.toList = true := by rw [e1]; exact stC_one _
    have sp' : putL (zL).toArray 0 s'.toList = s' := putL_full (by rw [ss']; simp [zL_len])
    have se' : s'.extract 0 2057 = s' := by have := Array.extract_size (xs := s'); rwa [ss'] at this
    rw [← e1] at hK
    clear hs hc e1 e2
    simp -dsimp (disch := omega) [hb, cs, hs', zL_len, hpn, so, sp, ss, s6, c1, c1', hs3, hs4, hs5, hs2, z3, z4, z5, ss', so', sp', se', -getElem?_pos]
    exact RetF.all (r := .agg s') (by simp [ss', se']) (hK _ ((Ext.alloc _ _).then_alloc _))
theorem shown_as {A : Array Value} (hA : A = stC (shownD d)) (hb : h.blks p = some ⟨devC d, 1, true⟩) (hd : d.ok) (hp : p < h.next) (hK : ∀ h', Ext h h' → K (.agg A) h') : ACall prog 31 [ptr p] h K := shown_call hb hd hp fun h' e => hA ▸ hK h' e
theorem same_call {p' : Nat} {d' : Dev} (hb : h.blks p = some ⟨devC d, 1, true⟩) (hd : d.ok) (hp : p < h.next) (hb' : h.blks p' = some ⟨devC d', 1, true⟩) (hd' : d'.ok) (hp' : p' < h.next) (hK : ∀ h' s, Ext h h' → (s = true ↔ ∀ i, 1 ≤ i → i < 2058 → cell (shownD d) i = cell (shownD d') i) → K (.bool s) h') : ACall prog 18 [ptr p, ptr p'] h K := by
  refine acallF_of tb0 func18 rfl rfl mixed (by kernel_rfl) fun hwf => ?_
  obtain ⟨s, e1, e2⟩ := eq_stC (shownD d) (shownD d')
  obtain ⟨A, hA⟩ : ∃ A, A = stC (shownD d) := ⟨_, rfl⟩
  obtain ⟨B, hB⟩ : ∃ B, B = stC (shownD d') := ⟨_, rfl⟩
  rw [← hA, ← hB] at e1
  simp -dsimp (disch := omega)
  refine is_call hb ?_
  simp -dsimp (disch := omega)
  refine is_call hb' ?_
  simp -dsimp (disch := omega)
  refine shown_as hA hb hd hp fun h1 x1 => ?_
  simp -dsimp (disch := omega)
  refine shown_as hB ((x1.same _ hp').trans hb') hd' (Nat.lt_of_lt_of_le hp' x1.le) fun h2 x2 => ?_
  clear hA hB
  simp -dsimp (disch := omega) [e1, -abin_agg_eql]
  exact RetF.all (r := .bool s) (by simp) (hK _ s (x1.trans x2) e2)
end
end Go.Proofs.YtkbiadobkheafaaDoor
namespace Go.Proofs.YtkbiadobkheafaaDoor
open Go Go.Mini Go.Proofs.Tryd
set_option maxRecDepth 100000

theorem digL_mem {n : Nat} : ∀ x ∈ digL n, x ≠ 32 := by
  induction n using Nat.strongRecOn with
  | _ n ih =>
    intro x hx
    have d : ∀ k : Nat, k < 10 → UInt8.ofNat (48 + k) ≠ 32 := by
      intro k hk
      rcases (by omega : k = 0 ∨ k = 1 ∨ k = 2 ∨ k = 3 ∨ k = 4 ∨ k = 5 ∨ k = 6 ∨ k = 7 ∨ k = 8 ∨ k = 9) with rfl | rfl | rfl | rfl | rfl | rfl | rfl | rfl | rfl | rfl <;> decide
    rcases Nat.lt_or_ge n 10 with h | h
    · rw [digL_small h] at hx
      rw [List.mem_singleton.1 hx]; exact d n h
    · rw [digL_big (by omega)] at hx
      rcases List.mem_append.1 hx with hx | hx
      · exact ih (n / 10) (by omega) x hx
      · rw [List.mem_singleton.1 hx]; exact d _ (by omega)
theorem digL_ne (n : Nat) : digL n ≠ [] := by
  rcases Nat.lt_or_ge n 10 with h | h
  · rw [digL_small h]; simp
  · rw [digL_big (by omega)]; simp
theorem digit_inj {a b : Nat} (ha : a < 10) (hb : b < 10) (h : UInt8.ofNat (48 + a) = UInt8.ofNat (48 + b)) : a = b := by
  have := congrArg UInt8.toNat h
  simp only [UInt8.toNat_ofNat'] at this
  omega
theorem digL_inj : ∀ {n m : Nat}, digL n = digL m → n = m := by
  intro n
  induction n using Nat.strongRecOn with
  | _ n ih =>
    intro m h
    rcases Nat.lt_or_ge n 10 with h1 | h1
    · rcases Nat.lt_or_ge m 10 with h2 | h2
      · rw [digL_small h1, digL_small h2] at h
        exact digit_inj h1 h2 (by simpa using h)
      · rw [digL_small h1, digL_big (by omega : ¬ m < 10)] at h
        have := congrArg List.length h
        rw [List.length_append] at this
        have h3 : (digL (m / 10)).length ≠ 0 := fun q => digL_ne _ (List.length_eq_zero_iff.1 q)
        simp only [List.length_cons, List.length_nil] at this
        omega
    · rcases Nat.lt_or_ge m 10 with h2 | h2
      · rw [digL_big (by omega : ¬ n < 10), digL_small h2] at h
        have := congrArg List.length h
        rw [List.length_append] at this
        have h3 : (digL (n / 10)).length ≠ 0 := fun q => digL_ne _ (List.length_eq_zero_iff.1 q)
        simp only [List.length_cons, List.length_nil] at this
        omega
      · rw [digL_big (by omega : ¬ n < 10), digL_big (by omega : ¬ m < 10)] at h
        obtain ⟨q1, q2⟩ := List.append_inj' h rfl
        have e1 := ih (n / 10) (by omega) q1
        have e2 := digit_inj (Nat.mod_lt _ (by omega)) (Nat.mod_lt _ (by omega)) (List.cons.inj q2).1
        omega
theorem split32 : ∀ {a b X Y : List UInt8}, (∀ x ∈ a, x ≠ 32) → (∀ x ∈ b, x ≠ 32) → a ++ 32 :: X = b ++ 32 :: Y → a = b ∧ X = Y := by
  intro a
  induction a with
  | nil =>
    intro b X Y _ hb h
    cases b with
    | nil => exact ⟨rfl, (List.cons.inj h).2⟩
    | cons y b => exact absurd (List.cons.inj h).1.symm (hb y (by simp))
  | cons x a ih =>
    intro b X Y ha hb h
    cases b with
    | nil => exact absurd (List.cons.inj h).1 (ha x (by simp))
    | cons y b =>
      obtain ⟨h1, h2⟩ := List.cons.inj h
      obtain ⟨h3, h4⟩ := ih (fun z hz => ha z (by simp [hz])) (fun z hz => hb z (by simp [hz])) h2
      exact ⟨by rw [h1, h3], h4⟩
theorem dig_split {n m : Nat} {X Y : List UInt8} (h : digL n ++ 32 :: X = digL m ++ 32 :: Y) : n = m ∧ X = Y := by
  obtain ⟨h1, h2⟩ := split32 digL_mem digL_mem h
  exact ⟨digL_inj h1, h2⟩
theorem textR_inj {r r' : Rd} (h : textR r = textR r') : r.se = r'.se ∧ r.ad = r'.ad ∧ r.cm = r'.cm ∧ r.st = r'.st ∧ leftR r = leftR r' ∧ r.dl = r'.dl := by
  unfold textR at h
  simp only [List.append_assoc, List.singleton_append] at h
  obtain ⟨h1, h⟩ := dig_split h
  obtain ⟨h2, h⟩ := dig_split h
  obtain ⟨h3, h⟩ := dig_split h
  obtain ⟨h4, h⟩ := dig_split h
  obtain ⟨h5, h⟩ := dig_split h
  exact ⟨h1, h2, h3, h4, h5, digL_inj h⟩
def SameR (r r' : Rd) : Prop := (∀ i, i < 32 → rbytes r i = rbytes r' i) ∧ textR r = textR r' ∧ (r.st ≠ 1 ∨ (r.wh = r'.wh ∧ r.wt = r'.wt ∧ r.we = r'.we))
theorem bytes_inj {S S' : Nat → Nat} (h1 : ∀ i, S i < 256) (h2 : ∀ i, S' i < 256) (h : ∀ n, n < 32 → bytesM S (n * 64) 64 = bytesM S' (n * 64) 64) {i : Nat} (hi : i < 2048) : S i = S' i := by
  have := congrArg (fun l => l[i % 64]?) (h (i / 64) (by omega))
  rw [bytesM_at _ _ _ _ (by omega), bytesM_at _ _ _ _ (by omega), show i / 64 * 64 + i % 64 = i by omega] at this
  have : (UInt8.ofNat (S i)).toNat = (UInt8.ofNat (S' i)).toNat := by rw [Option.some.inj this]
  rw [UInt8.toNat_ofNat_of_lt' (h1 i), UInt8.toNat_ofNat_of_lt' (h2 i)] at this
  have a := h1 i
  have b := h2 i
  omega
theorem same_law {d d' : Dev} {r r' : Rd} {M M' : Nat → Nat} {L L' : Rm.By} (e : Rel d r M L) (e' : Rel d' r' M' L') (hd : d.ok) (hd' : d'.ok) : (∀ i, 1 ≤ i → i < 2058 → cell (shownD d) i = cell (shownD d') i) ↔ SameR r r' := by
  have left : ∀ {d : Dev} {r : Rd} {M : Nat → Nat} {L : Rm.By}, Rel d r M L → leftR r = (shownD d).lf := fun {d r M L} e => by
    unfold leftR shownD
    rw [← e.st]
    by_cases h : d.st = 1
    · rw [if_pos h, if_pos h, (e.run h).2.2.2]; split <;> omega
    · rw [if_neg h, if_neg h]
  have st : ∀ d : Dev, (shownD d).st = d.st ∧ (shownD d).rs = d.rs ∧ (shownD d).rc = d.rc ∧ (shownD d).ra = d.ra ∧ (shownD d).dl = d.dl ∧ (shownD d).S = d.S := fun d => by unfold shownD; split <;> exact ⟨rfl, rfl, rfl, rfl, rfl, rfl⟩
  obtain ⟨a1, a2, a3, a4, a5, a6⟩ := st d
  obtain ⟨b1, b2, b3, b4, b5, b6⟩ := st d'
  constructor
  · intro h
    have g : ∀ (i : Nat) (k : IntKind) (x y : Nat), 1 ≤ i → i < 2058 → cell (shownD d) i = .int k x → cell (shownD d') i = .int k y → x = y := fun i k x y h1 h2 h3 h4 => by
      have := h i h1 h2
      rw [h3, h4] at this
      have := (Value.int.inj this).2
      omega
    have k1 := g 1 .u32 _ _ (by omega) (by omega) rfl rfl
    have k2 := g 2 .u32 _ _ (by omega) (by omega) rfl rfl
    have k3 := g 3 .u64 _ _ (by omega) (by omega) rfl rfl
    have k4 := g 4 .u32 _ _ (by omega) (by omega) rfl rfl
    have k5 := g 5 .u32 _ _ (by omega) (by omega) rfl rfl
    have k6 := g 6 .u64 _ _ (by omega) (by omega) rfl rfl
    have k7 := g 7 .u8 _ _ (by omega) (by omega) rfl rfl
    have k8 := g 8 .u32 _ _ (by omega) (by omega) rfl rfl
    have k9 := g 9 .u32 _ _ (by omega) (by omega) rfl rfl
    have kS : ∀ i, i < 2048 → d.S i = d'.S i := fun i hi => by
      have := g (i + 10) .u8 _ _ (by omega) (by omega) (cell_S _ (by omega)) (cell_S _ (by omega))
      rw [a6, b6, show i + 10 - 10 = i by omega] at this
      exact this
    rw [a1, b1] at k7
    rw [a2, b2] at k1
    rw [a3, b3] at k2
    rw [a4, b4] at k3
    rw [a5, b5] at k9
    refine ⟨fun i hi => ?_, ?_, ?_⟩
    · rw [← e.sec i hi, ← e'.sec i hi]
      exact bytes_eq fun j hj => kS _ (by omega)
    · unfold textR
      rw [left e, left e', k8, ← e.rs, ← e'.rs, ← e.ra, ← e'.ra, ← e.rc, ← e'.rc, ← e.st, ← e'.st, ← e.dl, ← e'.dl, k1, k2, k3, k7, k9]
    · by_cases h1 : d.st = 1
      · right
        have h1' : d'.st = 1 := k7 ▸ h1
        obtain ⟨r1, r2, r3, _⟩ := e.run h1
        obtain ⟨s1, s2, s3, _⟩ := e'.run h1'
        have x : shownD d = d := by unfold shownD; rw [if_pos h1]
        have x' : shownD d' = d' := by unfold shownD; rw [if_pos h1']
        rw [x, x'] at k4 k5 k6
        exact ⟨by omega, by omega, by omega⟩
      · left; rw [← e.st]; exact h1
  · rintro ⟨hb, ht, hr⟩ i h1 h2
    obtain ⟨t1, t2, t3, t4, t5, t6⟩ := textR_inj ht
    rw [left e, left e'] at t5
    have hst : d.st = d'.st := by rw [e.st, e'.st, t4]
    have run : (shownD d).us = (shownD d').us ∧ (shownD d).uc = (shownD d').uc ∧ (shownD d).ua = (shownD d').ua := by
      by_cases c : d.st = 1
      · have c' : d'.st = 1 := hst ▸ c
        obtain ⟨r1, r2, r3, _⟩ := e.run c
        obtain ⟨s1, s2, s3, _⟩ := e'.run c'
        have x : shownD d = d := by unfold shownD; rw [if_pos c]
        have x' : shownD d' = d' := by unfold shownD; rw [if_pos c']
        rw [x, x']
        have := hr.resolve_left (fun q => q (e.st ▸ c))
        exact ⟨by omega, by omega, by omega⟩
      · have c' : ¬ d'.st = 1 := hst ▸ c
        unfold shownD
        rw [if_neg c, if_neg c']
        exact ⟨rfl, rfl, rfl⟩
    rcases Nat.lt_or_ge i 10 with c | c
    · rcases (by omega : i = 1 ∨ i = 2 ∨ i = 3 ∨ i = 4 ∨ i = 5 ∨ i = 6 ∨ i = 7 ∨ i = 8 ∨ i = 9) with rfl | rfl | rfl | rfl | rfl | rfl | rfl | rfl | rfl
      · show Value.int .u32 ((shownD d).rs : Nat) = .int .u32 ((shownD d').rs : Nat); rw [a2, b2, e.rs, e'.rs, t1]
      · show Value.int .u32 ((shownD d).rc : Nat) = .int .u32 ((shownD d').rc : Nat); rw [a3, b3, e.rc, e'.rc, t3]
      · show Value.int .u64 ((shownD d).ra : Nat) = .int .u64 ((shownD d').ra : Nat); rw [a4, b4, e.ra, e'.ra, t2]
      · show Value.int .u32 ((shownD d).us : Nat) = .int .u32 ((shownD d').us : Nat); rw [run.1]
      · show Value.int .u32 ((shownD d).uc : Nat) = .int .u32 ((shownD d').uc : Nat); rw [run.2.1]
      · show Value.int .u64 ((shownD d).ua : Nat) = .int .u64 ((shownD d').ua : Nat); rw [run.2.2]
      · show Value.int .u8 ((shownD d).st : Nat) = .int .u8 ((shownD d').st : Nat); rw [a1, b1, hst]
      · show Value.int .u32 ((shownD d).lf : Nat) = .int .u32 ((shownD d').lf : Nat); rw [t5]
      · show Value.int .u32 ((shownD d).dl : Nat) = .int .u32 ((shownD d').dl : Nat); rw [a5, b5, e.dl, e'.dl, t6]
    · rw [cell_S _ c, cell_S _ c, a6, b6]
      have := bytes_inj hd.S hd'.S (fun n hn => by rw [e.sec n hn, e'.sec n hn]; exact hb n hn) (i := i - 10) (by omega)
      rw [this]
section
variable {h : Hp} {K : Value → Hp → Prop} {q q' : Nat} {r r' : Rd}
end
end Go.Proofs.YtkbiadobkheafaaDoor
