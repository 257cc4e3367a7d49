/-
  What is allowed is allowed byte by byte: the law's body.
-/
import Derived.Test.YtdnjooallhdjdaaDoorA11
set_option linter.unusedSimpArgs false
set_option linter.unusedVariables false
namespace Go.Proofs.YtdnjooallhdjdaaDoor
open Go Go.Mini Go.Proofs.Tryd

def tb5 : Nat → Marks := fun k => if k = 4 then ⟨[1, 3], fun _ => True⟩ else if k = 9 then ⟨[3, 6], fun _ => True⟩ else if k = 10 then ⟨[1, 4], fun _ => True⟩ else ⟨[], fun _ => True⟩
@[simp] theorem tb5_l4 : (tb5 4).l = [1, 3] := rfl
@[simp] theorem tb5_l9 : (tb5 9).l = [3, 6] := rfl
@[simp] theorem tb5_l10 : (tb5 10).l = [1, 4] := rfl
@[simp] theorem tb5_R (k x : Nat) : (tb5 k).R x := by unfold tb5; (repeat' split) <;> trivial

def BInv (c : Nat) (A : Nat → Nat) (m kd at_ N k : Nat) (al sm : Bool) : Prop :=
  (al = true → at_ + N ≤ 18446744073709551616 ∧ ∀ j, j < k → chk c A m kd (at_ + j) 1 = true) ∧ (al = false → ¬ (at_ + N ≤ 18446744073709551616 ∧ ∀ j, j < N → chk c A m kd (at_ + j) 1 = true)) ∧ (sm = true → ∀ j, j < k → fI c A (at_ + j) (at_ + j) = fI c A at_ at_)
def BSt (c : Nat) (A : Nat → Nat) (m kd at_ N k : Nat) (t : Tm) : Prop := ∃ al sm : Bool, t 8 = .bool al ∧ t 11 = .bool sm ∧ BInv c A m kd at_ N k al sm
theorem last_one {p : Nat} (hp : p < 18446744073709551616) : lastOf p 1 = p := by
  have hfd : fits p 1 = true := by unfold fits; rw [wid_one]; simpa using hp
  unfold lastOf; rw [if_pos hfd, wid_one]; omega

theorem pmpBytes_call {c : Nat} {A : Nat → Nat} {m kd at_ : Nat} {w : Int} {h : Hp} {K : Value → Hp → Prop} (hr : Regs h c A) (ha : at_ < 18446744073709551616) (hw : w ≤ 9223372036854775807) (hkd : kd < 256) (hK : K (.bool true) h) : ACall prog 5 [.int .u64 c, .agg (adr A), accV m kd at_ w] h K := by
  have hone : ∀ {d : Nat} {h : Hp} {K : Value → Hp → Prop} {w : Int}, at_ + d < 18446744073709551616 → K (accV m kd (at_ + d) 1) h → ACall prog 15 [.agg #[.int .u8 m, .int .u8 kd, .int .u64 at_, .int .i64 w], .int .i64 d] h K := fun {d h K w} hd hK => one_call (m := m) (k := kd) (w := w) ha (by omega) (by rw [Nat.mod_eq_of_lt hd]; exact hK)
  have hchk : ∀ {h : Hp} {K : Value → Hp → Prop} {N : Nat}, N ≤ 16 → Regs h c A → K (.bool (chk c A m kd at_ N)) h → ACall prog 16 [.int .u64 c, .agg (adr A), .agg #[.int .u8 m, .int .u8 kd, .int .u64 at_, .int .i64 N]] h K := fun {h K N} hN hr hK => check_call hr ha (by omega) hkd hK
  unfold accV
  refine acallF_of tb5 func5 rfl rfl mixed (by kernel_rfl) fun hwf => ?_
  have a1 := adr_size A
  have a2 := adr_one A
  have a3 := adr_row A
  have hn : 100 < h.next := hwf.lt _ _ hr.tab
  obtain ⟨N, hN, hN1, hN2⟩ : ∃ N : Nat, (if 16 < (if w < 1 then 1 else w) then 16 else (if w < 1 then 1 else w)) = (N : Int) ∧ 1 ≤ N ∧ N ≤ 16 := by
    refine ⟨(if 16 < (if w < 1 then 1 else w) then 16 else (if w < 1 then 1 else w)).toNat, ?_, ?_, ?_⟩ <;> (repeat' split) <;> omega
  have e2 : IntKind.u64.wrap (-(N : Int)) = (18446744073709551616 - N : Nat) := by rw [wrap64]; omega
  have hl0 := last_one ha
  simp -dsimp (disch := omega) [a2, a3, hN, e2]
  refine hone (d := 0) (by omega) ?_
  rw [Nat.add_zero]
  simp -dsimp (disch := omega) [a2, a3, hN, e2]
  refine first_call ⟨by simp (disch := omega) [hr.tab], hr.cfg, hr.adr⟩ ha (by omega) ?_
  rw [hl0]
  simp -dsimp (disch := omega) [a2, a3, hN, e2]
  refine awp_loop (fun t h' => h' = (h.alloc ⟨adr A, 1, true⟩).alloc ⟨#[.int .u8 m, .int .u8 kd, .int .u64 at_, .int .i64 N], 1, true⟩ ∧ ∃ k : Nat, k ≤ N ∧ t 0 = .int .u64 c ∧ t 4 = .pointer (some ⟨h.next, 0, none⟩) ∧ t 5 = .pointer (some ⟨h.next + 1, 0, none⟩) ∧ t 7 = .int .i64 N ∧ t 9 = .int .i64 (fI c A at_ at_) ∧ t 12 = .int .i64 k ∧ BSt c A m kd at_ N k t) (fun t _ => N - ivN (t 12)) ?_ ?_
  · simp -dsimp (disch := omega)
    refine ⟨0, by omega, rfl, ?_⟩
    by_cases hb : at_ ≤ 18446744073709551616 - N
    · exact ⟨true, true, (by simp; omega), (by simp), fun _ => ⟨by omega, fun j hj => by omega⟩, (fun hf => by cases hf), fun _ j hj => by omega⟩
    · exact ⟨false, true, (by simp; omega), (by simp), (fun hf => by cases hf), fun _ hq => by omega, fun _ j hj => by omega⟩
  · rintro t _ ⟨rfl, k, hk, g0, g4, g5, g7, g9, g12, al, sm, g8, g11, i1, i2, i3⟩
    have hr' : Regs ((h.alloc ⟨adr A, 1, true⟩).alloc ⟨#[.int .u8 m, .int .u8 kd, .int .u64 at_, .int .i64 N], 1, true⟩) c A := ⟨by simp (disch := omega) [hr.tab], hr.cfg, hr.adr⟩
    refine vcF_sound mixed (tb := tb5) _ (by kernel_rfl) ?_
    have fin : ∀ (al sm : Bool), (al = false → ¬ (at_ + N ≤ 18446744073709551616 ∧ ∀ j, j < N → chk c A m kd (at_ + j) 1 = true)) → (al = true → sm = true → at_ + N ≤ 18446744073709551616 ∧ (∀ j, j < N → chk c A m kd (at_ + j) 1 = true) ∧ ∀ j, j < N → fI c A (at_ + j) (at_ + j) = fI c A at_ at_) → (chk c A m kd at_ N = true ∧ al = true) ∨ (chk c A m kd at_ N = false ∧ (al = false ∨ sm = false)) := fun al sm q1 q2 => by
      cases hb : chk c A m kd at_ N with
      | true =>
        left
        refine ⟨rfl, ?_⟩
        cases al with
        | true => rfl
        | false => exact absurd (all_bytes ha hN1 hb) (q1 rfl)
      | false =>
        right
        refine ⟨rfl, ?_⟩
        cases al with
        | false => exact .inl rfl
        | true =>
          cases sm with
          | false => exact .inr rfl
          | true =>
            obtain ⟨r1, r2, r3⟩ := q2 rfl rfl
            rw [of_bytes hN1 r1 r2 r3] at hb
            cases hb
    have last : ∀ (t' : Tm), True := fun _ => trivial
    by_cases hgo : k < N ∧ al = true
    · obtain ⟨hkN, rfl⟩ := hgo
      obtain ⟨j1, j2⟩ := i1 rfl
      have hak : at_ + k < 18446744073709551616 := by omega
      have hlk := last_one hak
      simp -dsimp (disch := omega) [a2, a3, g0, g4, g5, g7, g8, g9, g11, g12, hkN]
      refine hone hak ?_
      simp -dsimp (disch := omega) [a2, a3, g0, g4, g5, g7, g8, g9, g11, g12, hkN]
      refine check_call hr' hak (by omega) hkd ?_
      simp -dsimp (disch := omega) [a2, a3, g0, g4, g5, g7, g8, g9, g11, g12, hkN]
      refine hone hak ?_
      simp -dsimp (disch := omega) [a2, a3, g0, g4, g5, g7, g8, g9, g11, g12, hkN]
      refine first_call hr' hak (by omega) ?_
      rw [hlk]
      have al1 : chk c A m kd (at_ + k) 1 = true → at_ + N ≤ 18446744073709551616 ∧ ∀ j, j < k + 1 → chk c A m kd (at_ + j) 1 = true := fun q => ⟨j1, fun j hj => by
        by_cases hjk : j = k
        · subst hjk; exact q
        · exact j2 j (by omega)⟩
      have al0 : chk c A m kd (at_ + k) 1 = false → ¬ (at_ + N ≤ 18446744073709551616 ∧ ∀ j, j < N → chk c A m kd (at_ + j) 1 = true) := fun q hh => by
        rw [hh.2 k hkN] at q; cases q
      by_cases hI : 0 ≤ fI c A (at_ + k) (at_ + k)
      · have hwh := byte_whole hak hI
        rw [hwh]
        cases sm with
        | true =>
          simp -dsimp (disch := omega) [a2, a3, g0, g4, g5, g7, g8, g9, g11, g12, hkN, hI]
          refine ⟨⟨k + 1, by omega, by simp, chk c A m kd (at_ + k) 1, decide (fI c A (at_ + k) (at_ + k) = fI c A at_ at_), (by simp (disch := omega)), (by simp (disch := omega)), al1, al0, fun q j hj => by
            have q' := of_decide_eq_true q
            by_cases hjk : j = k
            · subst hjk; exact q'
            · exact i3 rfl j (by omega)⟩, by simp [ivN]; omega⟩
        | false =>
          simp -dsimp (disch := omega) [a2, a3, g0, g4, g5, g7, g8, g9, g11, g12, hkN, hI]
          refine ⟨⟨k + 1, by omega, by simp, chk c A m kd (at_ + k) 1, false, (by simp (disch := omega)), (by simp (disch := omega)), al1, al0, fun q => by cases q⟩, by simp [ivN]; omega⟩
      · cases sm with
        | true =>
          simp -dsimp (disch := omega) [a2, a3, g0, g4, g5, g7, g8, g9, g11, g12, hkN, hI]
          refine ⟨⟨k + 1, by omega, by simp, chk c A m kd (at_ + k) 1, decide (fI c A (at_ + k) (at_ + k) = fI c A at_ at_), (by simp (disch := omega)), (by simp (disch := omega)), al1, al0, fun q j hj => by
            have q' := of_decide_eq_true q
            by_cases hjk : j = k
            · subst hjk; exact q'
            · exact i3 rfl j (by omega)⟩, by simp [ivN]; omega⟩
        | false =>
          simp -dsimp (disch := omega) [a2, a3, g0, g4, g5, g7, g8, g9, g11, g12, hkN, hI]
          refine ⟨⟨k + 1, by omega, by simp, chk c A m kd (at_ + k) 1, false, (by simp (disch := omega)), (by simp (disch := omega)), al1, al0, fun q => by cases q⟩, by simp [ivN]; omega⟩
    · have hout : ∀ (X : Prop), (k = N → X) → (al = false → X) → X := fun X x1 x2 => by
        by_cases hkN : k < N
        · exact x2 (by cases al with | false => rfl | true => exact absurd ⟨hkN, rfl⟩ hgo)
        · exact x1 (by omega)
      have hfin := fin al sm i2 fun q1 q2 => by
        have hkN : k = N := hout _ id fun q => by rw [q1] at q; cases q
        subst hkN
        exact ⟨(i1 q1).1, (i1 q1).2, i3 q2⟩
      by_cases hkN : k < N
      · have hal : al = false := hout _ (fun q => by omega) id
        subst hal
        have hc : chk c A m kd at_ N = false := by rcases hfin with ⟨_, q⟩ | ⟨q, _⟩; cases q; exact q
        simp -dsimp (disch := omega) [a2, a3, g0, g4, g5, g7, g8, g9, g11, g12, hkN]
        refine hchk hN2 hr' ?_
        rw [hc]
        simp -dsimp (disch := omega) [a2, a3, g0, g4, g5, g7, g8, g9, g11, g12, hkN]
        refine awake_call hr'.tab ?_
        simp -dsimp (disch := omega) [a2, a3, g0, g4, g5, g7, g8, g9, g11, g12, hkN]
        exact RetF.same hwf (by simp (disch := omega)) (Nat.zero_le _) (fun i hi => by simp (disch := omega)) hK
      · simp -dsimp (disch := omega) [a2, a3, g0, g4, g5, g7, g8, g9, g11, g12, hkN]
        refine hchk hN2 hr' ?_
        rcases hfin with ⟨hc, rfl⟩ | ⟨hc, rfl | rfl⟩
        · rw [hc]
          simp -dsimp (disch := omega) [a2, a3, g0, g4, g5, g7, g8, g9, g11, g12, hkN]
          refine awake_call hr'.tab ?_
          simp -dsimp (disch := omega) [a2, a3, g0, g4, g5, g7, g8, g9, g11, g12, hkN]
          exact RetF.same hwf (by simp (disch := omega)) (Nat.zero_le _) (fun i hi => by simp (disch := omega)) hK
        · rw [hc]
          simp -dsimp (disch := omega) [a2, a3, g0, g4, g5, g7, g8, g9, g11, g12, hkN]
          refine awake_call hr'.tab ?_
          simp -dsimp (disch := omega) [a2, a3, g0, g4, g5, g7, g8, g9, g11, g12, hkN]
          exact RetF.same hwf (by simp (disch := omega)) (Nat.zero_le _) (fun i hi => by simp (disch := omega)) hK
        · rw [hc]
          cases al
          · simp -dsimp (disch := omega) [a2, a3, g0, g4, g5, g7, g8, g9, g11, g12, hkN]
            refine awake_call hr'.tab ?_
            simp -dsimp (disch := omega) [a2, a3, g0, g4, g5, g7, g8, g9, g11, g12, hkN]
            exact RetF.same hwf (by simp (disch := omega)) (Nat.zero_le _) (fun i hi => by simp (disch := omega)) hK
          · simp -dsimp (disch := omega) [a2, a3, g0, g4, g5, g7, g8, g9, g11, g12, hkN]
            refine awake_call hr'.tab ?_
            simp -dsimp (disch := omega) [a2, a3, g0, g4, g5, g7, g8, g9, g11, g12, hkN]
            exact RetF.same hwf (by simp (disch := omega)) (Nat.zero_le _) (fun i hi => by simp (disch := omega)) hK

end Go.Proofs.YtdnjooallhdjdaaDoor
