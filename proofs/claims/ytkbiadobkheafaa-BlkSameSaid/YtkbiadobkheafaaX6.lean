/-
  A device with its memory, and the document's: each act of both.
-/
import Derived.Test.YtkbiadobkheafaaX5
set_option linter.unusedSimpArgs false
set_option linter.unusedVariables false
set_option linter.unusedSectionVars false
namespace Go.Proofs.Ytkbiadobkheafaa
open Go Go.Mini Go.Proofs.Try
set_option maxRecDepth 100000

structure Nm where
  p : Nat
  pm : Nat
  b : Nat
  q : Nat
  mr : Nat
/-- Both, apart from each other and from what T tells. -/
structure PrM (h0 : Hp) (T : Nat → Prop) (h : Hp) (x : Nm) (d : Dev) (r : Rd) (M : Nat → Nat) (a : Nat) (w : Int) (v : Value) (L : Rm.By) (a' : Nat) (w' : Int) : Prop where
  ow : Ow h0 h x.p d x.pm x.b 4096 4096 M a w
  rb : h.blks x.q = some ⟨refC r, 1, true⟩
  rok : r.ok
  rf : Rm.Rf h0.next h x.mr 4096 v L a' w'
  q0 : h0.next ≤ x.q
  qlt : x.q < h.next
  qp : x.q ≠ x.p
  qm : x.q ≠ x.pm
  qb : x.q ≠ x.b
  qr : x.q ≠ x.mr
  mp : x.mr ≠ x.p
  mm : x.mr ≠ x.pm
  mb : x.mr ≠ x.b
  vq : sblk v ≠ some x.q
  vp : sblk v ≠ some x.p
  vm : sblk v ≠ some x.pm
  vb : sblk v ≠ some x.b
  tlt : ∀ i, T i → i < h.next
  tn : ∀ i, T i → i ≠ x.p ∧ i ≠ x.pm ∧ i ≠ x.b ∧ i ≠ x.q ∧ i ≠ x.mr ∧ sblk v ≠ some i
def Pr (h0 : Hp) (T : Nat → Prop) (h : Hp) (x : Nm) (d : Dev) (r : Rd) : Prop := ∃ M a w v L a' w', PrM h0 T h x d r M a w v L a' w' ∧ Rel d r M L
/-- All but what T tells may change. -/
abbrev FT (T : Nat → Prop) (h h' : Hp) : Prop := Fr h h' (fun i => ¬ T i)
theorem FT.refl (T : Nat → Prop) (h : Hp) : FT T h h := Fr.refl _ _
theorem FT.trans' {T : Nat → Prop} {h h' h'' : Hp} (x : FT T h h') (y : FT T h' h'') : FT T h h'' := Fr.trans x y fun _ _ z => z
theorem FT.of {T S : Nat → Prop} {h h' : Hp} (f : Fr h h' S) (hs : ∀ i, T i → ¬ S i) : FT T h h' := ⟨f.le, fun i h1 h2 => f.same i h1 fun z => h2 fun t => hs i t z⟩
theorem nodup_len : ∀ (N : Nat) (l : List Nat), l.Nodup → (∀ x ∈ l, x < N) → l.length ≤ N := by
  intro N
  induction N with
  | zero =>
    intro l _ h
    cases l with
    | nil => simp
    | cons x l => exact absurd (h x (by simp)) (by omega)
  | succ N ih =>
    intro l hd h
    have h1 := ih (l.erase N) (hd.erase N) fun x hx => by
      have := (hd.mem_erase_iff).1 hx
      have := h x this.2
      have := this
      omega
    have h2 : l.length ≤ (l.erase N).length + 1 := by rw [List.length_erase]; split <;> omega
    omega
theorem uniq_len {N : Nat} : ∀ {L : Rm.By}, Rm.Uniq L → (∀ e ∈ L, e.1 < N) → L.length ≤ N := by
  intro L hu hb
  have key : ∀ (L : Rm.By), Rm.Uniq L → (L.map (·.1)).Nodup := by
    intro L
    induction L with
    | nil => intro _; exact List.nodup_nil
    | cons e L ih =>
      obtain ⟨k, u⟩ := e
      intro h
      rw [List.map_cons, List.nodup_cons]
      refine ⟨fun hm => ?_, ih h.2⟩
      obtain ⟨e, he, hk⟩ := List.mem_map.1 hm
      exact h.1 e he hk
  have h1 := key L hu
  have := nodup_len N _ h1 fun x hx => by
    obtain ⟨e, he, hk⟩ := List.mem_map.1 hx
    rw [← hk]; exact hb e he
  simpa using this
section
variable {h0 : Hp} {T : Nat → Prop} {h : Hp} {x : Nm} {d : Dev} {r : Rd} {M : Nat → Nat} {a : Nat} {w : Int} {v : Value} {L : Rm.By} {a' : Nat} {w' : Int} {K : Value → Hp → Prop}
theorem PrM.len (P : PrM h0 T h x d r M a w v L a' w') : L.length ≤ 4096 := uniq_len P.rf.uq fun e he => (P.rf.ok e he).1
theorem PrM.pr (P : PrM h0 T h x d r M a w v L a' w') (E : Rel d r M L) : Pr h0 T h x d r := ⟨_, _, _, _, _, _, _, P, E⟩
/-- The program's device and memory have changed. -/
theorem PrM.real {h' : Hp} {d' : Dev} {M' : Nat → Nat} {a2 : Nat} {w2 : Int} (P : PrM h0 T h x d r M a w v L a' w') (o : Ow h0 h' x.p d' x.pm x.b 4096 4096 M' a2 w2) (f : Fr h h' (three x.p x.pm x.b)) : PrM h0 T h' x d' r M' a2 w2 v L a' w' ∧ FT T h h' :=
  have n3 : ∀ {i}, i ≠ x.p → i ≠ x.pm → i ≠ x.b → ¬ three x.p x.pm x.b i := fun h1 h2 h3 z => z.elim h1 fun z => z.elim h2 h3
  ⟨⟨o, by rw [f.same _ P.qlt (n3 P.qp P.qm P.qb)]; exact P.rb, P.rok, Rf_fr P.rf f (n3 P.mp P.mm P.mb) (fun i hi z => z.elim (fun e => P.vp (e ▸ hi)) fun z => z.elim (fun e => P.vm (e ▸ hi)) fun e => P.vb (e ▸ hi)), P.q0, Nat.lt_of_lt_of_le P.qlt f.le, P.qp, P.qm, P.qb, P.qr, P.mp, P.mm, P.mb, P.vq, P.vp, P.vm, P.vb, fun i t => Nat.lt_of_lt_of_le (P.tlt i t) f.le, P.tn⟩,
    FT.of f fun i t => n3 (P.tn i t).1 (P.tn i t).2.1 (P.tn i t).2.2.1⟩
theorem one3 {h h' : Hp} {p pm b : Nat} (f : Fr h h' (fun i => i = p)) : Fr h h' (three p pm b) := ⟨f.le, fun i h1 h2 => f.same i h1 fun z => h2 (.inl z)⟩
/-- The document's device has changed. -/
theorem PrM.refD {h' : Hp} {r' : Rd} (P : PrM h0 T h x d r M a w v L a' w') (g : h'.blks x.q = some ⟨refC r', 1, true⟩) (ok : r'.ok) (f : Fr h h' (fun i => i = x.q)) : PrM h0 T h' x d r' M a w v L a' w' ∧ FT T h h' :=
  ⟨⟨P.ow.fr (P.ow.dm.fr f (Ne.symm P.qp) (Ne.symm P.qm) (Ne.symm P.qb)) f (fun i z => z ▸ P.q0), g, ok, Rf_fr P.rf f (Ne.symm P.qr) (fun i hi z => P.vq (z ▸ hi)), P.q0, Nat.lt_of_lt_of_le P.qlt f.le, P.qp, P.qm, P.qb, P.qr, P.mp, P.mm, P.mb, P.vq, P.vp, P.vm, P.vb, fun i t => Nat.lt_of_lt_of_le (P.tlt i t) f.le, P.tn⟩,
    FT.of f fun i t => (P.tn i t).2.2.2.1⟩
/-- The document's memory, too. -/
theorem PrM.refM {h' : Hp} {r' : Rd} {v' : Value} {L' : Rm.By} {a2 : Nat} {w2 : Int} (P : PrM h0 T h x d r M a w v L a' w') (g : h'.blks x.q = some ⟨refC r', 1, true⟩) (ok : r'.ok) (rf : Rm.Rf h0.next h' x.mr 4096 v' L' a2 w2) (f : Fr h h' (fun i => i = x.q ∨ rnm x.mr v i)) (vc : Rm.VCh h v v') : PrM h0 T h' x d r' M a w v' L' a2 w2 ∧ FT T h h' :=
  have pl := P.ow.dm.plt
  have ml := P.ow.dm.ram.plt
  have bl := P.ow.dm.ram.blt
  have nS : ∀ {i}, i ≠ x.q → i ≠ x.mr → sblk v ≠ some i → ¬ (i = x.q ∨ rnm x.mr v i) := fun h1 h2 h3 z => z.elim h1 fun z => z.elim h2 h3
  ⟨⟨P.ow.fr (P.ow.dm.fr f (nS (Ne.symm P.qp) (Ne.symm P.mp) P.vp) (nS (Ne.symm P.qm) (Ne.symm P.mm) P.vm) (nS (Ne.symm P.qb) (Ne.symm P.mb) P.vb)) f (fun i z => z.elim (fun e => e ▸ P.q0) fun z => z.elim (fun e => e ▸ P.rf.mr) fun e => (P.rf.row.blk i e).1), g, ok, rf, P.q0, Nat.lt_of_lt_of_le P.qlt f.le, P.qp, P.qm, P.qb, P.qr, P.mp, P.mm, P.mb,
    fun e => (vc _ e).elim P.vq fun z => by have := P.qlt; omega, fun e => (vc _ e).elim P.vp fun z => by omega, fun e => (vc _ e).elim P.vm fun z => by omega, fun e => (vc _ e).elim P.vb fun z => by omega,
    fun i t => Nat.lt_of_lt_of_le (P.tlt i t) f.le, fun i t => ⟨(P.tn i t).1, (P.tn i t).2.1, (P.tn i t).2.2.1, (P.tn i t).2.2.2.1, (P.tn i t).2.2.2.2.1, fun e => (vc _ e).elim (P.tn i t).2.2.2.2.2 fun z => by have := P.tlt i t; omega⟩⟩,
    FT.of f fun i t => nS (P.tn i t).2.2.2.1 (P.tn i t).2.2.2.2.1 (P.tn i t).2.2.2.2.2⟩
theorem PrM.ext {h' : Hp} (P : PrM h0 T h x d r M a w v L a' w') (e : Ext h h') : PrM h0 T h' x d r M a w v L a' w' ∧ FT T h h' :=
  (P.refD (by rw [e.same _ P.qlt]; exact P.rb) P.rok ⟨e.le, fun i hi _ => e.same i hi⟩)
abbrev pairV (x : Nm) : Value := .agg #[ptr x.p, ptr x.pm, ptr x.q, ptr x.mr]
theorem pairTick_call {f : Bool} (P : PrM h0 T h x d r M a w v L a' w') (E : Rel d r M L) (hK : ∀ h' d' r', Pr h0 T h' x d' r' → FT T h h' → K (.bool true) h') : ACall prog 37 [pairV x, .bool f] h K := by
  refine acallF_of tb0 func37 rfl rfl mixed (by kernel_rfl) fun hwf => ?_
  obtain ⟨H, hH⟩ : ∃ H, H = h.alloc ⟨#[ptr x.p, ptr x.pm, ptr x.q, ptr x.mr], 1, true⟩ := ⟨_, rfl⟩
  have e1 : Ext h H := by rw [hH]; exact Ext.alloc _ _
  have hX : H.blks h.next = some ⟨#[ptr x.p, ptr x.pm, ptr x.q, ptr x.mr], 1, true⟩ := by rw [hH]; exact blks_alloc_eq _ _
  have hn : h.next < H.next := by rw [hH]; simp
  have np : h.next ≠ x.p := by have := P.ow.dm.plt; omega
  have nm : h.next ≠ x.pm := by have := P.ow.dm.ram.plt; omega
  have nb : h.next ≠ x.b := by have := P.ow.dm.ram.blt; omega
  have n3 : ¬ three x.p x.pm x.b h.next := fun z => z.elim np fun z => z.elim nm nb
  obtain ⟨P1, f1⟩ := P.ext e1
  cases f with
  | false =>
    simp -dsimp (disch := omega) [← hH, hX]
    refine tickNil_call P1.ow.dm.dev P1.ow.dm.ok P1.ow.dm.plt fun h2 g2 f2 => ?_
    have x2 := (f2.same _ hn np).trans hX
    obtain ⟨P2, f2'⟩ := P1.real (P1.ow.fr ⟨g2, tickN_ok P1.ow.dm.ok, Nat.lt_of_lt_of_le P1.ow.dm.plt f2.le, Ram_fr P1.ow.dm.ram f2 (Ne.symm P1.ow.dm.p1) (Ne.symm P1.ow.dm.p2), P1.ow.dm.p1, P1.ow.dm.p2⟩ f2 P1.ow.np') (one3 f2)
    simp -dsimp (disch := omega) [x2]
    by_cases c1 : r.st = 1
    · by_cases c2 : 1 < r.lf
      · have hE : ¬ endsB d := fun z => (E.ends.1 z).2 c2
        obtain ⟨E1, em, en⟩ := E.go c1 c2 4096
        rw [← en] at E1
        rw [decide_eq_false hE]
        refine rTick_go P2.rb P.rok c1 c2 ?_
        obtain ⟨P3, f3⟩ := P2.refD (blks_set_eq h2 x.q ⟨refC (r.wlf (r.lf - 1)), 1, true⟩) (wlf_ok P.rok (by have := P.rok.lf; omega)) (Fr.set h2 _ rfl)
        simp -dsimp (disch := omega)
        exact RetF.all (r := .bool true) (by simp) (hK _ _ _ (P3.pr E1) ((f1.trans' f2').trans' f3))
      · have hE : endsB d := E.ends.2 ⟨c1, c2⟩
        have E1 := E.endN c1 c2
        rw [decide_eq_true hE]
        refine rTick_endNil P2.rb P.rok c1 c2 P2.qlt fun h3 g3 f3 => ?_
        obtain ⟨P3, f3'⟩ := P2.refD g3 (wst_ok (wlf_ok P.rok (by omega)) (by omega)) f3
        simp -dsimp (disch := omega)
        exact RetF.all (r := .bool true) (by simp) (hK _ _ _ (P3.pr E1) ((f1.trans' f2').trans' f3'))
    · have hE : ¬ endsB d := fun z => c1 (E.ends.1 z).1
      obtain ⟨_, _, en⟩ := E.idle c1 4096
      rw [decide_eq_false hE]
      refine rTick_idle P2.rb P.rok c1 ?_
      simp -dsimp (disch := omega)
      exact RetF.all (r := .bool true) (by simp) (hK _ _ _ (P2.pr (by rw [en]; exact E)) (f1.trans' f2'))
  | true =>
    simp -dsimp (disch := omega) [← hH, hX]
    refine tick_ow P1.ow fun h2 a2 w2 o2 f2 => ?_
    have x2 := (f2.same _ hn n3).trans hX
    obtain ⟨P2, f2'⟩ := P1.real o2 f2
    simp -dsimp (disch := omega) [x2]
    by_cases c1 : r.st = 1
    · by_cases c2 : 1 < r.lf
      · have hE : ¬ endsB d := fun z => (E.ends.1 z).2 c2
        obtain ⟨E1, em, en⟩ := E.go c1 c2 4096
        rw [decide_eq_false hE]
        refine rTick_go P2.rb P.rok c1 c2 ?_
        obtain ⟨P3, f3⟩ := P2.refD (blks_set_eq h2 x.q ⟨refC (r.wlf (r.lf - 1)), 1, true⟩) (wlf_ok P.rok (by have := P.rok.lf; omega)) (Fr.set h2 _ rfl)
        simp -dsimp (disch := omega)
        exact RetF.all (r := .bool true) (by simp) (hK _ _ _ (P3.pr (by rw [em]; exact E1)) ((f1.trans' f2').trans' f3))
      · have hE : endsB d := E.ends.2 ⟨c1, c2⟩
        rw [decide_eq_true hE]
        have hl := P2.len
        refine rTick_end P2.rb P.rok c1 c2 P2.rf P2.qlt P.qr P2.vq (by omega) (fun z1 z2 h3 v3 a3 w3 g3 r3 f3 vc3 => ?_) (fun z1 z2 h3 g3 f3 => ?_) (fun z1 h3 g3 f3 => ?_)
        · obtain ⟨P3, f3'⟩ := P2.refM g3 (wst_ok (wlf_ok P.rok (by omega)) (by omega)) r3 f3 vc3
          simp -dsimp (disch := omega)
          exact RetF.all (r := .bool true) (by simp) (hK _ _ _ (P3.pr (E.end1 c1 c2 z1 z2)) ((f1.trans' f2').trans' f3'))
        · obtain ⟨P3, f3'⟩ := P2.refD g3 (wst_ok (wL_ok (wlf_ok P.rok (by omega)) (bytesM_length _ _ _)) (by omega)) f3
          obtain ⟨E1, em⟩ := E.end2 c1 c2 z1 z2
          simp -dsimp (disch := omega)
          exact RetF.all (r := .bool true) (by simp) (hK _ _ _ (P3.pr (by rw [em]; exact E1)) ((f1.trans' f2').trans' f3'))
        · obtain ⟨P3, f3'⟩ := P2.refD g3 (wst_ok (wlf_ok P.rok (by omega)) (by omega)) f3
          obtain ⟨E1, em⟩ := E.end3 c1 c2 z1
          simp -dsimp (disch := omega)
          exact RetF.all (r := .bool true) (by simp) (hK _ _ _ (P3.pr (by rw [em]; exact E1)) ((f1.trans' f2').trans' f3'))
    · have hE : ¬ endsB d := fun z => c1 (E.ends.1 z).1
      obtain ⟨et, em, en⟩ := E.idle c1 4096
      rw [decide_eq_false hE]
      refine rTick_idle P2.rb P.rok c1 ?_
      simp -dsimp (disch := omega)
      exact RetF.all (r := .bool true) (by simp) (hK _ _ _ (P2.pr (by rw [et, em]; exact E)) (f1.trans' f2'))
end
end Go.Proofs.Ytkbiadobkheafaa
