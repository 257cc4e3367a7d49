/-
  BlkSame.
-/
import Derived.Test.YtkbiadobkheafaaDoorXB
set_option linter.unusedSimpArgs false
set_option linter.unusedVariables false
set_option linter.unusedSectionVars false
namespace Go.Proofs.YtkbiadobkheafaaDoor
open Go Go.Mini Go.Proofs.Tryd
set_option maxRecDepth 100000

theorem zeroOf_r0 : zeroOf prog 58 = some (refC r0) := by rw [zeroOf_58]; rfl
theorem r0_one : oneAll (refC r0).toList = true := by rfl
theorem r0_ok : r0.ok := ⟨by show 0 < 4294967296; omega, by show 0 < 4294967296; omega, by show 0 < 18446744073709551616; omega, by show 0 < 4; omega, by show 0 < 4294967296; omega, by show 0 < 4294967296; omega, by show 0 < 18446744073709551616; omega, by show 0 < 4294967296; omega, by show 0 < 4294967296; omega, fun _ => .inl rfl⟩
theorem rel0 : Rel dev0 r0 (fun _ => 0) [] := ⟨rfl, rfl, rfl, rfl, rfl, fun q => by have : (0 : Nat) = 1 := q; omega, fun n hn => by
  show bytesM (fun _ => 0) (n * 64) 64 = if ([] : List UInt8) = [] then List.replicate 64 0 else []
  rw [if_pos rfl]
  apply List.ext_getElem?
  intro i
  rcases Nat.lt_or_ge i 64 with hi | hi
  · rw [bytesM_at _ _ _ _ hi, List.getElem?_replicate, if_pos hi]; rfl
  · rw [List.getElem?_eq_none (by rw [bytesM_length]; omega), List.getElem?_eq_none (by simp; omega)], fun i _ => rfl⟩
def Nm.ge (x : Nm) (n : Nat) : Prop := n ≤ x.p ∧ n ≤ x.pm ∧ n ≤ x.b ∧ n ≤ x.q ∧ n ≤ x.mr
def Nm.lt (x : Nm) (n : Nat) : Prop := x.p < n ∧ x.pm < n ∧ x.b < n ∧ x.q < n ∧ x.mr < n
def Nm.own (x : Nm) (i : Nat) : Prop := i = x.p ∨ i = x.pm ∨ i = x.b ∨ i = x.q ∨ i = x.mr
/-- All that there is but one's own. -/
def oth (x : Nm) (n : Nat) (i : Nat) : Prop := i < n ∧ ¬ x.own i
theorem mk_pr {h0 G H1 h1 H2 h3 : Hp} {p pm b q mr : Nat} (e0 : Ext h0 G) (hH1 : H1 = G.alloc ⟨devC dev0, 1, true⟩) (hp : p = G.next) (e1 : Ext H1 h1) (k1 : H1.next ≤ pm) (k2 : H1.next ≤ b) (r1 : Rm.Ram h1 pm b 4096 4096 (fun _ => 0) 0 0) (hH2 : H2 = h1.alloc ⟨refC r0, 1, true⟩) (hq : q = h1.next) (e3 : Ext H2 h3) (k3 : H2.next ≤ mr) (rf : Rm.Rf H2.next h3 mr 4096 (.slice none 0 0) [] 0 0) :
    PrM h0 (fun _ => False) h3 ⟨p, pm, b, q, mr⟩ dev0 r0 (fun _ => 0) 0 0 (.slice none 0 0) [] 0 0 ∧ Ext G h3 ∧ Nm.ge ⟨p, pm, b, q, mr⟩ G.next ∧ Nm.lt ⟨p, pm, b, q, mr⟩ h3.next := by
  subst hH1 hH2 hp hq
  have l0 := e0.le
  have l1 := e1.le
  have l3 := e3.le
  simp only [Hp.next_alloc] at k1 k2 l1 l3 k3
  have b0 : h1.blks G.next = some ⟨devC dev0, 1, true⟩ := by rw [e1.same _ (by simp)]; exact blks_alloc_eq _ _
  have bq : h3.blks h1.next = some ⟨refC r0, 1, true⟩ := by rw [e3.same _ (by simp)]; exact blks_alloc_eq _ _
  have e13 : Ext h1 h3 := (Ext.alloc _ _).trans e3
  have m1 : Dm h1 G.next dev0 pm b 4096 4096 (fun _ => 0) 0 0 := ⟨b0, dev0_ok, by omega, r1, by omega, by omega⟩
  have m3 : Dm h3 G.next dev0 pm b 4096 4096 (fun _ => 0) 0 0 := m1.fr (Fr.of_ext e13 fun _ => False) id id id
  have eG : Ext G h3 := ((Ext.alloc _ _).trans e1).trans e13
  have lpm := r1.plt
  have lb := r1.blt
  have lr := rf.rlt
  exact ⟨⟨⟨m3, e0.trans eG, by simp only; omega, by simp only; omega, by simp only; omega⟩, bq, r0_ok, ⟨rf.blk, Row.nil _ _ _, rf.rlt, by simp only; omega, by omega, rf.vr, rf.N1, rf.a1, rf.w0, rf.ok, rf.uq⟩, by simp only; omega, by simp only; omega, by simp only; omega, by simp only; omega, by simp only; omega, by simp only; omega, by simp only; omega, by simp only; omega, by simp only; omega, by simp [sblk], by simp [sblk], by simp [sblk], by simp [sblk], fun _ z => z.elim, fun _ z => z.elim⟩, eG, ⟨by simp only; omega, by simp only; omega, by simp only; omega, by simp only; omega, by simp only; omega⟩, ⟨by simp only; omega, by simp only; omega, by simp only; omega, by simp only; omega, by simp only; omega⟩⟩
theorem PrM.retag {h0 : Hp} {T : Nat → Prop} {h : Hp} {x : Nm} {d : Dev} {r : Rd} {M : Nat → Nat} {a : Nat} {w : Int} {L : Rm.By} {a' : Nat} {w' : Int} (P : PrM h0 T h x d r M a w (.slice none 0 0) L a' w') : PrM h0 (oth x h.next) h x d r M a w (.slice none 0 0) L a' w' :=
  ⟨P.ow, P.rb, P.rok, P.rf, P.q0, P.qlt, P.qp, P.qm, P.qb, P.qr, P.mp, P.mm, P.mb, P.vq, P.vp, P.vm, P.vb, fun i t => t.1, fun i t => ⟨fun e => t.2 (.inl e), fun e => t.2 (.inr (.inl e)), fun e => t.2 (.inr (.inr (.inl e))), fun e => t.2 (.inr (.inr (.inr (.inl e)))), fun e => t.2 (.inr (.inr (.inr (.inr e)))), by simp [sblk]⟩⟩
theorem PrM.frame0 {h0 : Hp} {T S : Nat → Prop} {h h' : Hp} {x : Nm} {d : Dev} {r : Rd} {M : Nat → Nat} {a : Nat} {w : Int} {L : Rm.By} {a' : Nat} {w' : Int} (P : PrM h0 T h x d r M a w (.slice none 0 0) L a' w') (f : Fr h h' S) (hS : ∀ i, S i → h0.next ≤ i) (hx : ∀ i, x.own i → ¬ S i) : PrM h0 (oth x h'.next) h' x d r M a w (.slice none 0 0) L a' w' :=
  PrM.retag (T := fun _ => False) ⟨P.ow.fr (P.ow.dm.fr f (hx _ (.inl rfl)) (hx _ (.inr (.inl rfl))) (hx _ (.inr (.inr (.inl rfl))))) f hS, by rw [f.same _ P.qlt (hx _ (.inr (.inr (.inr (.inl rfl)))))]; exact P.rb, P.rok, Rf_fr P.rf f (hx _ (.inr (.inr (.inr (.inr rfl))))) (fun i hi => by simp [sblk] at hi), P.q0, Nat.lt_of_lt_of_le P.qlt f.le, P.qp, P.qm, P.qb, P.qr, P.mp, P.mm, P.mb, P.vq, P.vp, P.vm, P.vb, fun _ z => z.elim, fun _ z => z.elim⟩
theorem FT.at_ {x : Nm} {n : Nat} {h h' : Hp} (f : FT (oth x n) h h') {i : Nat} (hi : i < h.next) (hn : i < n) (ho : ¬ x.own i) : h'.blks i = h.blks i := f.same i hi fun z => z ⟨hn, ho⟩
theorem own_lt {x : Nm} {n i : Nat} (h : x.lt n) (hi : n ≤ i) : ¬ x.own i := fun z => by
  obtain ⟨h1, h2, h3, h4, h5⟩ := h
  rcases z with z | z | z | z | z <;> omega
theorem own_ge {x : Nm} {n i : Nat} (h : x.ge n) (hi : i < n) : ¬ x.own i := fun z => by
  obtain ⟨h1, h2, h3, h4, h5⟩ := h
  rcases z with z | z | z | z | z <;> omega
def tbS : Nat → Marks := fun k => if k = 15 then ⟨[4, 6, 8, 13, 16, 1000000], fun _ => True⟩ else ⟨[], fun _ => True⟩
abbrev pairC (x : Nm) : Array Value := #[ptr x.p, ptr x.pm, ptr x.q, ptr x.mr]

theorem rfNew_one {h : Hp} {K : Value → Hp → Prop} (hK : ∀ h' r, Ext h h' → h.next ≤ r → Rm.Rf h.next h' r 4096 (.slice none 0 0) [] 0 0 → K (ptr r) h') : ACall prog 22 [.int .i64 1] h K := Rm.rfNew_call (n := 1) (by omega) fun h' r e1 e2 e3 => hK h' r e1 e2 e3
end Go.Proofs.YtkbiadobkheafaaDoor
