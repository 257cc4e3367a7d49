/-
  RamKnown.
-/
import Derived.Test.YtgafaelakjnemaaB9
set_option linter.unusedSimpArgs false
set_option linter.unusedVariables false
namespace Go.Proofs.Ytgafaelakjnemaa
open Go Go.Mini Go.Proofs.Try

theorem Ram.ext {h h' : Hp} {p b N C : Nat} {M : Nat → Nat} {a : Nat} {w : Int} (r : Ram h p b N C M a w) (e : Ext h h') : Ram h' p b N C M a w :=
  r.mono e.le (e.same _ r.plt) (e.same _ r.blt)
theorem Own.ext' {h0 h h' : Hp} {p b N C : Nat} {M : Nat → Nat} {a : Nat} {w : Int} (r : Own h0 h p b N C M a w) (e : Ext h h') : Own h0 h' p b N C M a w :=
  ⟨r.ram.ext e, r.ext.trans e, r.pn, r.bn⟩
theorem str_lit (l : List UInt8) : ByteArray.mk l.toArray = txt l := rfl

set_option maxRecDepth 100000 in
set_option maxHeartbeats 4000000 in
theorem ramKnown_call {h : Hp} {K : Value → Hp → Prop} (hK : ∀ h', (∀ i, i < h.next → h'.blks i = h.blks i) → K (.bool true) h') : ACall prog 6 [] h K := by
  refine acallF_of tb0 func6 rfl rfl mixed (by kernel_rfl) fun hwf => ?_
  simp -dsimp (disch := omega)
  refine own_new (n := 1) (by omega) (by omega) fun h1 p b r1 => ?_
  rw [Nat.one_mul] at r1
  simp -dsimp (disch := omega)
  refine works_call fun h2 e2 => ?_
  have r2 := r1.ext' e2
  clear r1 e2
  simp -dsimp (disch := omega)
  refine own_write (x := 4) (v := 287454020) r2 (by omega) (by omega) (fun _ h3 r3 _ => ?_) (fun hc => absurd (by decide) hc)
  have e1 : toA 0 4 (Int.toNat 4) = 0 := by decide
  have e2 : toW 0 0 4 (Int.toNat 4) = 0 := by decide
  rw [e1, e2] at r3
  clear e1 e2 r2
  simp -dsimp (disch := omega)
  refine reads_call (x := 4) (m := 287454020) r3.ram (by omega) (by omega) ?_
  rw [decide_eq_true (by decide +kernel)]
  simp -dsimp (disch := omega)
  refine none_call (x := 4096) r3.ram (by omega) ?_
  rw [decide_eq_true (by decide)]
  simp -dsimp (disch := omega)
  refine none_call (x := 0) r3.ram (by omega) ?_
  rw [decide_eq_true (by decide)]
  simp -dsimp (disch := omega)
  refine none_call (x := 18446744073709551615) r3.ram (by omega) ?_
  rw [decide_eq_true (by decide +kernel)]
  simp -dsimp (disch := omega)
  refine own_write (x := 4093) (v := 0) r3 (by omega) (by omega) (fun hc => absurd hc (by decide)) (fun _ => ?_)
  simp -dsimp (disch := omega)
  refine none_call (x := 0) r3.ram (by omega) ?_
  rw [decide_eq_true (by decide)]
  simp -dsimp (disch := omega)
  refine none_call (x := 0) r3.ram (by omega) ?_
  rw [decide_eq_true (by decide)]
  simp -dsimp (disch := omega)
  refine own_write (x := 9223372036854775808) (v := 1) r3 (by omega) (by omega) (fun hc => absurd hc (by decide +kernel)) (fun _ => ?_)
  simp -dsimp (disch := omega)
  refine size_call r3.ram ?_
  simp -dsimp (disch := omega)
  refine bytes_call (x := 4) (n := 4) r3.ram (fun _ => ?_) (fun hc => absurd (by decide) hc)
  rw [show bytesM (wr (fun _ => 0) 4 287454020 (Int.toNat 4)) 4 4 = [68, 51, 34, 17] from by decide +kernel]
  simp -dsimp (disch := omega) [str_lit]
  refine own_reserve (x := 8) r3 (fun _ h4 r4 _ => ?_) (fun hc => absurd (by decide +kernel) hc)
  simp -dsimp (disch := omega)
  refine own_write (x := 16) (v := 1) r4 (by omega) (by omega) (fun _ h5 r5 _ => ?_) (fun hc => absurd (by decide +kernel) hc)
  rw [show toA 8 16 (Int.toNat 1) = 8 from by decide +kernel, show toW 8 8 16 (Int.toNat 1) = 8 from by decide +kernel] at r5
  simp -dsimp (disch := omega)
  refine held_call (x := 8) r5.ram ?_
  rw [decide_eq_false (by decide +kernel)]
  simp -dsimp (disch := omega)
  refine own_reserve (x := 12) r5 (fun hc => absurd hc (by decide +kernel)) (fun _ => ?_)
  simp -dsimp (disch := omega)
  refine held_call (x := 8) r5.ram ?_
  rw [decide_eq_true (by decide +kernel)]
  simp -dsimp (disch := omega)
  refine own_reserve (x := 4) r5 (fun _ h6 r6 _ => ?_) (fun hc => absurd (by decide +kernel) hc)
  simp -dsimp (disch := omega)
  refine held_call (x := 4) r6.ram ?_
  rw [decide_eq_true (by decide +kernel)]
  simp -dsimp (disch := omega)
  refine held_call (x := 8) r6.ram ?_
  rw [decide_eq_false (by decide +kernel)]
  simp -dsimp (disch := omega)
  refine own_write (x := 3) (v := 0) r6 (by omega) (by omega) (fun _ h7 r7 _ => ?_) (fun hc => absurd (by decide +kernel) hc)
  rw [show toA 4 3 (Int.toNat 1) = 0 from by decide +kernel, show toW 4 4 3 (Int.toNat 1) = 0 from by decide +kernel] at r7
  simp -dsimp (disch := omega)
  refine held_call (x := 4) r7.ram ?_
  rw [decide_eq_false (by decide +kernel)]
  simp -dsimp (disch := omega)
  refine bytes_call (x := 4097) (n := 0) r7.ram (fun hc => absurd hc (by decide +kernel)) (fun _ => ?_)
  simp -dsimp (disch := omega)
  refine bytes_call (x := 4096) (n := 0) r7.ram (fun _ => ?_) (fun hc => absurd (by decide +kernel) hc)
  rw [show ∀ M, bytesM M 4096 0 = [] from fun _ => rfl]
  simp -dsimp (disch := omega)
  refine bytes_call (x := 4000) (n := 18446744073709551615) r7.ram (fun hc => absurd hc (by decide +kernel)) (fun _ => ?_)
  simp -dsimp (disch := omega)
  simp only [str_lit]
  refine own_put (x := 4094) (l := [97, 98, 99]) r7 (by simp) (fun hc => absurd hc (by decide +kernel)) (fun _ => ?_)
  simp -dsimp (disch := omega)
  refine own_put (x := 4096) (l := []) r7 (by simp) (fun _ h8 r8 _ => ?_) (fun hc => absurd (by decide +kernel) hc)
  rw [show toA 0 4096 (List.length ([] : List UInt8)) = 0 from by decide +kernel, show toW 0 0 4096 (List.length ([] : List UInt8)) = 0 from by decide +kernel] at r8
  simp -dsimp (disch := omega)
  refine own_put (x := 4097) (l := []) r8 (by simp) (fun hc => absurd hc (by decide +kernel)) (fun _ => ?_)
  simp -dsimp (disch := omega)
  refine ramNew_nil (n := 0) (by omega) ?_
  simp -dsimp (disch := omega)
  refine ramNew_nil (n := 17) (by omega) ?_
  simp -dsimp (disch := omega)
  refine ramNew_nil (n := (-1)) (by omega) ?_
  simp -dsimp (disch := omega)
  refine own_new (n := 16) (by omega) (by omega) fun h9 q c s9 => ?_
  have r9 := r8.ext' s9.ext
  clear s9
  simp -dsimp (disch := omega)
  refine own_reserve (x := 8) r9 (fun _ h10 r10 _ => ?_) (fun hc => absurd (by decide +kernel) hc)
  simp -dsimp (disch := omega)
  refine own_drop r10 fun h11 r11 _ => ?_
  simp -dsimp (disch := omega)
  refine held_call (x := 8) r11.ram ?_
  rw [decide_eq_false (by decide +kernel)]
  simp -dsimp (disch := omega)
  refine held_call (x := 0) r11.ram ?_
  rw [decide_eq_false (by decide +kernel)]
  simp -dsimp (disch := omega)
  refine own_reserve (x := 4088) r11 (fun _ h12 r12 _ => ?_) (fun hc => absurd (by decide +kernel) hc)
  simp -dsimp (disch := omega)
  refine own_clear r12 fun h13 r13 _ => ?_
  rw [show toA 4088 0 4096 = 0 from by decide +kernel, show toW 4088 8 0 4096 = 0 from by decide +kernel] at r13
  simp -dsimp (disch := omega)
  obtain ⟨H, hH⟩ : ∃ H, H = h13.alloc ⟨#[.slice none 0 0, .int .u64 0, .int .i64 0], 1, true⟩ := ⟨_, rfl⟩
  have rz : Own h H p b 4096 4096 _ 0 0 := hH ▸ r13.ext' (Ext.alloc _ _)
  have nz : Nor H (ptr h13.next) := .inr ⟨_, _, _, rfl, by rw [hH]; exact blks_alloc_eq _ _⟩
  have nn : Nor H (.pointer none) := .inl rfl
  rw [← hH]
  clear hH
  refine clearN_call nn ?_
  simp -dsimp (disch := omega)
  refine dropN_call nn ?_
  simp -dsimp (disch := omega)
  refine bytesN_call (x := 0) (n := 0) nz ?_
  simp -dsimp (disch := omega)
  refine held_call (x := 4088) rz.ram ?_
  rw [decide_eq_false (by decide +kernel)]
  simp -dsimp (disch := omega)
  refine reads_call (x := 4) (m := 0) rz.ram (by omega) (by omega) ?_
  rw [decide_eq_true (by decide +kernel)]
  simp -dsimp (disch := omega)
  refine sizeN_call nn ?_
  simp -dsimp (disch := omega)
  refine noneN_call (x := 0) nn ?_
  simp -dsimp (disch := omega)
  refine writeN_call (x := 0) (y := 0) nz ?_
  simp -dsimp (disch := omega)
  refine putN_call (x := 0) (l := []) nn (by simp) ?_
  simp -dsimp (disch := omega)
  refine reserveN_call (x := 0) nz ?_
  simp -dsimp (disch := omega)
  refine heldN_call (x := 0) nn ?_
  simp -dsimp (disch := omega)
  refine copyN_call nz ?_
  simp -dsimp (disch := omega)
  refine sameNN_call nn nn ?_
  simp -dsimp (disch := omega)
  refine sameMN_call rz.ram nn ?_
  simp -dsimp (disch := omega)
  refine works_call fun h99 e99 => ?_
  simp -dsimp (disch := omega)
  exact RetF.all (by simp) (hK _ (rz.ext.trans e99).same)
end Go.Proofs.Ytgafaelakjnemaa
