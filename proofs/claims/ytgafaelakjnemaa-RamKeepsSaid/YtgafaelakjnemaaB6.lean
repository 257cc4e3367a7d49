/-
  works.
-/
import Derived.Test.YtgafaelakjnemaaB5
set_option linter.unusedSimpArgs false
set_option linter.unusedVariables false
namespace Go.Proofs.Ytgafaelakjnemaa
open Go Go.Mini Go.Proofs.Try

/-- A memory that one has made. -/
structure Own (h0 h : Hp) (p b N C : Nat) (M : Nat → Nat) (a : Nat) (w : Int) : Prop where
  ram : Ram h p b N C M a w
  ext : Ext h0 h
  pn : h0.next ≤ p
  bn : h0.next ≤ b
theorem Ram.ext {h h' : Hp} {p b N C : Nat} {M : Nat → Nat} {a : Nat} {w : Int} (r : Ram h p b N C M a w) (e : Ext h h') : Ram h' p b N C M a w :=
  r.mono e.le (e.same _ r.plt) (e.same _ r.blt)
theorem Own.ext' {h0 h h' : Hp} {p b N C : Nat} {M : Nat → Nat} {a : Nat} {w : Int} (r : Own h0 h p b N C M a w) (e : Ext h h') : Own h0 h' p b N C M a w :=
  ⟨r.ram.ext e, r.ext.trans e, r.pn, r.bn⟩
section
variable {h0 h : Hp} {p b N C : Nat} {M : Nat → Nat} {a : Nat} {w : Int} {K : Value → Hp → Prop}
theorem Own.claim {a' : Nat} {w' : Int} (r : Own h0 h p b N C M a w) (ha : a' < N) : Own h0 (h.set p ⟨ramC b N C a' w', 1, true⟩) p b N C M a' w' :=
  ⟨r.ram.claim ha, r.ext.then_set _ r.pn, r.pn, r.bn⟩
theorem Own.fill {M' : Nat → Nat} (r : Own h0 h p b N C M a w) (h8 : ∀ i, M' i < 256) : Own h0 (h.set b ⟨mem N M', 1, true⟩) p b N C M' a w :=
  ⟨r.ram.fill h8, r.ext.then_set _ r.bn, r.pn, r.bn⟩
theorem own_new {n : Nat} (h1 : 1 ≤ n) (h2 : n ≤ 16) (hK : ∀ h' p b, Own h h' p b (n * 4096) (n * 4096) (fun _ => 0) 0 0 → K (ptr p) h') : ACall prog 8 [.int .i64 n] h K :=
  ramNew_call h1 h2 fun h' p b e q1 q2 r => hK h' p b ⟨r, e, q1, q2⟩
theorem own_write {x v : Nat} {n : Int} (r : Own h0 h p b N C M a w) (hv : v < 18446744073709551616) (hx : x < 18446744073709551616) (hK1 : wok n ∧ x + n.toNat ≤ N → ∀ h', Own h0 h' p b N C (wr M x v n.toNat) (toA a x n.toNat) (toW a w x n.toNat) → Ch h h' p b → K (.bool true) h') (hK2 : ¬ (wok n ∧ x + n.toNat ≤ N) → K (.bool false) h) : ACall prog 13 [ptr p, .int .u64 x, .int .u64 v, .int .i64 n] h K :=
  write_call r.ram hv hx (fun hc => hK1 hc _ ((r.fill (wr_lt r.ram.M8)).claim (toA_lt r.ram.a1)) ((Ch.setb _ _ _ _).trans (Ch.setp _ _ _ _))) hK2
theorem own_reserve {x : Nat} {n : Int} (r : Own h0 h p b N C M a w) (hK1 : cok N x n → ∀ h', Own h0 h' p b N C M x n → Ch h h' p b → K (.bool true) h') (hK2 : ¬ cok N x n → K (.bool false) h) : ACall prog 11 [ptr p, .int .u64 x, .int .i64 n] h K :=
  reserve_call r.ram (fun hc => hK1 hc _ (r.claim (by have h1 := hc.2.1; have h2 := hc.1; have h3 := r.ram.N1; omega)) (Ch.setp _ _ _ _)) hK2
theorem own_put {x : Nat} {l : List UInt8} (r : Own h0 h p b N C M a w) (hl : l.length < 9223372036854775808) (hK1 : x + l.length ≤ N → ∀ h', Own h0 h' p b N C (lay M x l) (toA a x l.length) (toW a w x l.length) → Ch h h' p b → K (.int .i64 0) h') (hK2 : ¬ x + l.length ≤ N → K (.int .i64 6) h) : ACall prog 14 [ptr p, .int .u64 x, .string (txt l)] h K :=
  put_call r.ram hl (fun hc => hK1 hc _ ((r.fill (lay_lt r.ram.M8)).claim (toA_lt r.ram.a1)) ((Ch.setb _ _ _ _).trans (Ch.setp _ _ _ _))) hK2
theorem own_drop (r : Own h0 h p b N C M a w) (hK : ∀ h', Own h0 h' p b N C M 0 0 → Ch h h' p b → K (.tuple #[]) h') : ACall prog 17 [ptr p] h K :=
  drop_call r.ram (hK _ (r.claim r.ram.N0) (Ch.setp _ _ _ _))
theorem own_clear (r : Own h0 h p b N C M a w) (hK : ∀ h', Own h0 h' p b N C (fun _ => 0) (toA a 0 N) (toW a w 0 N) → Ch h h' p b → K (.tuple #[]) h') : ACall prog 16 [ptr p] h K :=
  clear_call r.ram (hK _ ((r.fill fun _ => by omega).claim (toA_lt r.ram.a1)) ((Ch.setb _ _ _ _).trans (Ch.setp _ _ _ _)))

theorem works_call (hK : ∀ h', Ext h h' → K (.bool true) h') : ACall prog 10 [] h K := by
  refine acallF_of tb0 func10 rfl rfl mixed (by kernel_rfl) fun hwf => ?_
  simp -dsimp (disch := omega)
  refine own_new (n := 1) (by omega) (by omega) fun h1 p b r1 => ?_
  rw [Nat.one_mul] at r1
  simp -dsimp (disch := omega)
  refine own_write (x := 4) (v := 287454020) r1 (by omega) (by omega) (fun _ h2 r2 _ => ?_) (fun hc => absurd (by decide) hc)
  simp -dsimp (disch := omega)
  refine reads_call (x := 5) (m := 8755) r2.ram (by omega) (by omega) ?_
  rw [decide_eq_true (by decide +kernel)]
  simp -dsimp (disch := omega)
  refine none_call (x := 4095) r2.ram (by omega) ?_
  rw [decide_eq_true (by decide)]
  simp -dsimp (disch := omega)
  refine own_reserve (x := 8) r2 (fun _ h3 r3 _ => ?_) (fun hc => absurd (by decide) hc)
  simp -dsimp (disch := omega)
  refine own_write (x := 16) (v := 1) r3 (by omega) (by omega) (fun _ h4 r4 _ => ?_) (fun hc => absurd (by decide) hc)
  have e1 : toA 8 16 (Int.toNat 1) = 8 := by decide
  have e2 : toW 8 8 16 (Int.toNat 1) = 8 := by decide
  rw [e1, e2] at r4
  simp -dsimp (disch := omega)
  refine held_call (x := 8) r4.ram ?_
  rw [decide_eq_true (by decide)]
  simp -dsimp (disch := omega)
  refine own_write (x := 15) (v := 0) r4 (by omega) (by omega) (fun _ h5 r5 _ => ?_) (fun hc => absurd (by decide) hc)
  have e3 : toA 8 15 (Int.toNat 1) = 0 := by decide
  have e4 : toW 8 8 15 (Int.toNat 1) = 0 := by decide
  rw [e3, e4] at r5
  simp -dsimp (disch := omega)
  refine held_call (x := 8) r5.ram ?_
  rw [decide_eq_false (by decide)]
  simp -dsimp (disch := omega)
  exact RetF.all (by simp) (hK _ r5.ext)
end
end Go.Proofs.Ytgafaelakjnemaa
