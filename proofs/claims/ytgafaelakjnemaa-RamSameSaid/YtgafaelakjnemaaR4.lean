/-
  Both memories, side by side: one act.
-/
import Derived.Test.YtgafaelakjnemaaR3
set_option linter.unusedSimpArgs false
set_option linter.unusedVariables false
namespace Go.Proofs.Ytgafaelakjnemaa
open Go Go.Mini Go.Proofs.Try

/-- A memory of the program's and one of the document's, apart. -/
structure Bt (h0 h : Hp) (p b N C : Nat) (M : Nat → Nat) (a : Nat) (w : Int) (r : Nat) (v : Value) (L : By) (a' : Nat) (w' : Int) : Prop where
  own : Own h0 h p b N C M a w
  rf : Rf h0.next h r N v L a' w'
  rp : r ≠ p
  rb : r ≠ b
  vp : sblk v ≠ some p
  vb : sblk v ≠ some b
/-- They hold the same. -/
structure Ag (N : Nat) (M : Nat → Nat) (a : Nat) (w : Int) (L : By) (a' : Nat) (w' : Int) : Prop where
  bytes : ∀ i, i < N → M i = look L i
  cw : w' = w
  ca : w ≠ 0 → a' = a
  c0 : w = 0 → a = 0
def nm (p b r : Nat) (v : Value) (i : Nat) : Prop := i = p ∨ i = b ∨ i = r ∨ sblk v = some i
structure Fr (h h' : Hp) (S : Nat → Prop) : Prop where
  le : h.next ≤ h'.next
  same : ∀ i, i < h.next → ¬ S i → h'.blks i = h.blks i
theorem Fr.refl (h : Hp) (S : Nat → Prop) : Fr h h S := ⟨Nat.le_refl _, fun _ _ _ => rfl⟩
theorem Fr.trans {h h' h'' : Hp} {S S' : Nat → Prop} (x : Fr h h' S) (y : Fr h' h'' S') (hs : ∀ i, i < h.next → S' i → S i) : Fr h h'' S :=
  ⟨Nat.le_trans x.le y.le, fun i h1 h2 => by rw [y.same i (Nat.lt_of_lt_of_le h1 x.le) fun h => h2 (hs i h1 h), x.same i h1 h2]⟩
theorem Fr.alloc (h : Hp) (c : Blk) (S : Nat → Prop) : Fr h (h.alloc c) S := ⟨by simp, fun i hi _ => blks_alloc_ne _ _ _ (by omega)⟩
theorem Fr.of_ext {h h' : Hp} (e : Ext h h') (S : Nat → Prop) : Fr h h' S := ⟨e.le, fun i hi _ => e.same i hi⟩

section
variable {h0 h : Hp} {p b N C : Nat} {M : Nat → Nat} {a : Nat} {w : Int} {r : Nat} {v : Value} {L : By} {a' : Nat} {w' : Int} {K : Value → Hp → Prop}

theorem Rf.mono {m : Nat} {h' : Hp} (q : Rf m h r N v L a w) (hn : h.next ≤ h'.next) (hr : h'.blks r = h.blks r) (hv : ∀ b, sblk v = some b → h'.blks b = h.blks b) : Rf m h' r N v L a w :=
  ⟨by rw [hr]; exact q.blk, q.row.mono hn hv, Nat.lt_of_lt_of_le q.rlt hn, q.mr, Nat.le_trans q.mh hn, q.vr, q.N1, q.a1, q.w0, q.ok, q.uq⟩
theorem Bt.real {h' : Hp} {M2 : Nat → Nat} {a2 : Nat} {w2 : Int} (t : Bt h0 h p b N C M a w r v L a' w') (o : Own h0 h' p b N C M2 a2 w2) (c : Ch h h' p b) : Bt h0 h' p b N C M2 a2 w2 r v L a' w' :=
  ⟨o, t.rf.mono (Nat.le_of_eq c.next.symm) (c.same _ t.rp t.rb) fun x hx => c.same x (fun e => t.vp (e ▸ hx)) (fun e => t.vb (e ▸ hx)), t.rp, t.rb, t.vp, t.vb⟩
theorem Bt.mono {h' : Hp} (t : Bt h0 h p b N C M a w r v L a' w') (f : Fr h h' fun i => ¬ nm p b r v i ∧ h0.next ≤ i) : Bt h0 h' p b N C M a w r v L a' w' :=
  ⟨⟨t.own.ram.mono f.le (f.same _ t.own.ram.plt fun h => h.1 (.inl rfl)) (f.same _ t.own.ram.blt fun h => h.1 (.inr (.inl rfl))), ⟨Nat.le_trans t.own.ext.le f.le, fun i hi => by rw [f.same i (Nat.lt_of_lt_of_le hi t.own.ext.le) fun h => by omega]; exact t.own.ext.same i hi⟩, t.own.pn, t.own.bn⟩,
    t.rf.mono f.le (f.same _ t.rf.rlt fun h => h.1 (.inr (.inr (.inl rfl)))) fun x hx => f.same x (t.rf.row.blk x hx).2 fun h => h.1 (.inr (.inr (.inr hx))), t.rp, t.rb, t.vp, t.vb⟩
theorem Bt.ext' {h' : Hp} (t : Bt h0 h p b N C M a w r v L a' w') (e : Ext h h') : Bt h0 h' p b N C M a w r v L a' w' := t.mono (Fr.of_ext e _)
theorem Bt.ref {h' : Hp} {v2 : Value} {L2 : By} {a2 : Nat} {w2 : Int} (t : Bt h0 h p b N C M a w r v L a' w') (q : Rf h0.next h' r N v2 L2 a2 w2) (c : RCh h h' r v) (vc : VCh h v v2) : Bt h0 h' p b N C M a w r v2 L2 a2 w2 :=
  have hp := t.own.ram.plt
  have hb := t.own.ram.blt
  ⟨⟨t.own.ram.mono c.le (c.same _ hp (Ne.symm t.rp) t.vp) (c.same _ hb (Ne.symm t.rb) t.vb), ⟨Nat.le_trans t.own.ext.le c.le, fun i hi => by
      have := t.own.ext.le
      rw [c.same i (by omega) (by have := t.rf.mr; omega) fun e => by have := (t.rf.row.blk i e).1; omega]
      exact t.own.ext.same i hi⟩, t.own.pn, t.own.bn⟩, q, t.rp, t.rb,
    fun e => (vc p e).elim (fun e => t.vp e) fun e => by omega, fun e => (vc b e).elim (fun e => t.vb e) fun e => by omega⟩
theorem Ch.fr {h' : Hp} (c : Ch h h' p b) (r : Nat) (v : Value) : Fr h h' (nm p b r v) := ⟨Nat.le_of_eq c.next.symm, fun i _ h2 => c.same i (fun e => h2 (.inl e)) (fun e => h2 (.inr (.inl e)))⟩
theorem RCh.fr {h' : Hp} (c : RCh h h' r v) (p b : Nat) : Fr h h' (nm p b r v) := ⟨c.le, fun i h1 h2 => c.same i h1 (fun e => h2 (.inr (.inr (.inl e)))) (fun e => h2 (.inr (.inr (.inr e))))⟩

theorem Ag.write {x y n : Nat} (g : Ag N M a w L a' w') (hw : w = 0 ∨ w = 4 ∨ w = 8) : Ag N (wr M x y n) (toA a x n) (toW a w x n) (setN L x (fun j => y / 256 ^ j % 256) n) a' (toW a' w' x n) := by
  refine ⟨fun i hi => ?_, ?_, fun h => ?_, fun h => ?_⟩
  · rw [look_setN]
    unfold wr
    by_cases h : x ≤ i ∧ i < x + n
    · rw [if_pos h, if_pos h]
    · rw [if_neg h, if_neg h]; exact g.bytes i hi
  · rw [g.cw]
    by_cases h : w = 0
    · unfold toW; rw [h]; split <;> split <;> rfl
    · rw [g.ca h]
  · unfold toW at h
    unfold toA
    split at h
    · exact absurd rfl h
    · rename_i hn; rw [if_neg hn]; exact g.ca h
  · unfold toW at h
    unfold toA
    split at h
    · rename_i hn; rw [if_pos hn]
    · rename_i hn; rw [if_neg hn]; exact g.c0 h
theorem Ag.put {x : Nat} {l : List UInt8} (g : Ag N M a w L a' w') (hw : w = 0 ∨ w = 4 ∨ w = 8) : Ag N (lay M x l) (toA a x l.length) (toW a w x l.length) (setN L x (fun j => ((l[j]?).getD 0).toNat) l.length) a' (toW a' w' x l.length) := by
  refine ⟨fun i hi => ?_, (g.write (x := x) (y := 0) (n := l.length) hw).cw, (g.write (x := x) (y := 0) (n := l.length) hw).ca, (g.write (x := x) (y := 0) (n := l.length) hw).c0⟩
  rw [look_setN]
  unfold lay
  by_cases h : x ≤ i ∧ i < x + l.length
  · rw [if_pos h, if_pos h]
  · rw [if_neg h, if_neg h]; exact g.bytes i hi
theorem Ag.reserve {x : Nat} {n : Int} (g : Ag N M a w L a' w') (hc : cok N x n) : Ag N M x n L x n :=
  ⟨g.bytes, rfl, fun _ => rfl, fun h => by have := hc.1; omega⟩
theorem Ag.held (g : Ag N M a w L a' w') (hw : w = 0 ∨ w = 4 ∨ w = 8) (x : Nat) (n : Int) : decide (0 < w' ∧ a' = x ∧ w' = n) = decide (n ≠ 0 ∧ a = x ∧ w = n) := by
  rw [decide_eq_decide, g.cw]
  constructor
  · rintro ⟨h1, h2, h3⟩; exact ⟨by omega, by rw [← g.ca (by omega)]; exact h2, h3⟩
  · rintro ⟨h1, h2, h3⟩; exact ⟨by omega, by rw [g.ca (by omega)]; exact h2, h3⟩
end
end Go.Proofs.Ytgafaelakjnemaa
