/-
  Entries behind the first one make no difference: the law's body.
-/
import Derived.Test.YtdnjooallhdjdaaDoorA14
set_option linter.unusedSimpArgs false
set_option linter.unusedVariables false
namespace Go.Proofs.YtdnjooallhdjdaaDoor
open Go Go.Mini Go.Proofs.Tryd

theorem ACallF.gen {P : Program} {f : FuncId} {args : List Value} {h : Hp} {K : Value → Hp → Prop} {u : Tag K} (H : ∀ G, G = h → ACall P f args G K) : ACallF P f args h K u := H h rfl
/-- An access, and other registers. -/
def othA (m k at_ : Nat) (w : Int) (xc : Nat) (X : Nat → Nat) : Array Value := #[.int .u8 m, .int .u8 k, .int .u64 at_, .int .i64 w, .int .u64 xc] ++ adr X
theorem oth_size (m k at_ : Nat) (w : Int) (xc : Nat) (X : Nat → Nat) : (othA m k at_ w xc X).size = 13 := by simp [othA]
theorem oth_one (m k at_ : Nat) (w : Int) (xc : Nat) (X : Nat → Nat) : oneAll (othA m k at_ w xc X).toList = true := by simp [othA, adr, List.range_succ]
theorem oth_row (m k at_ : Nat) (w : Int) (xc : Nat) (X : Nat → Nat) : (othA m k at_ w xc X).extract 0 13 = othA m k at_ w xc X := by
  apply Array.ext'; simp [othA, adr, List.range_succ]
theorem oth_acc (m k at_ : Nat) (w : Int) (xc : Nat) (X : Nat → Nat) : (othA m k at_ w xc X).extract 0 4 = #[.int .u8 m, .int .u8 k, .int .u64 at_, .int .i64 w] := by
  apply Array.ext'; simp [othA, adr, List.range_succ]
theorem oth_c (m k at_ : Nat) (w : Int) (xc : Nat) (X : Nat → Nat) : (othA m k at_ w xc X)[4]? = some (.int .u64 xc) := by simp [othA]
theorem oth_x (m k at_ : Nat) (w : Int) (xc : Nat) (X : Nat → Nat) (j : Nat) (hj : j < 8) : (othA m k at_ w xc X)[5 + j]? = some (.int .u64 (X j)) := by
  unfold othA
  rw [Array.getElem?_append_right (by simp)]
  simpa using adr_at X j hj
theorem put_adr (A : Nat → Nat) : putL #[.int .u64 0, .int .u64 0, .int .u64 0, .int .u64 0, .int .u64 0, .int .u64 0, .int .u64 0, .int .u64 0] 0 (adr A).toList = adr A := by simp [adr, List.range_succ]
theorem sh7_eq (c i : Nat) (hi : i < 8) : (c : Int).fdiv (2 ^ min (8 * (i : Int) + 7).toNat IntKind.u64.bits) = (c / 2 ^ (8 * i + 7) : Nat) := by
  rw [show min (8 * (i : Int) + 7).toNat IntKind.u64.bits = 8 * i + 7 from by show min (8 * (i : Int) + 7).toNat 64 = 8 * i + 7; omega, Int.fdiv_eq_ediv_of_nonneg _ (Int.le_of_lt (Int.pow_pos (by omega)))]
  rw [show ((2 : Int) ^ (8 * i + 7)) = ((2 ^ (8 * i + 7) : Nat) : Int) from (Int.natCast_pow 2 (8 * i + 7)).symm]
  rfl
def tb6 : Nat → Marks := fun k => if k = 15 then ⟨[1, 2, 6, 7, 1000000, 2000003, 2000004, 2000005], fun _ => True⟩ else if k = 19 then ⟨[3, 5, 6], fun _ => True⟩ else ⟨[], fun _ => True⟩
@[simp] theorem tb6_l15 : (tb6 15).l = [1, 2, 6, 7, 1000000, 2000003, 2000004, 2000005] := rfl
@[simp] theorem tb6_l19 : (tb6 19).l = [3, 5, 6] := rfl
@[simp] theorem tb6_l10 : (tb6 10).l = [] := rfl
@[simp] theorem tb6_R (k x : Nat) : (tb6 k).R x := by unfold tb6; (repeat' split) <;> trivial
set_option maxHeartbeats 1000000 in
theorem pmpBehind_call {c : Nat} {A : Nat → Nat} {m kd at_ xc : Nat} {w : Int} {X : Nat → Nat} {h : Hp} {K : Value → Hp → Prop} (hr : Regs h c A) (ha : at_ < 18446744073709551616) (hw : w ≤ 9223372036854775807) (hkd : kd < 256) (hxc : xc < 18446744073709551616) (hX : ∀ j, j < 8 → X j < 18446744073709551616)
    (hK : K (.bool true) h) : ACall prog 6 [.int .u64 c, .agg (adr A), .agg (othA m kd at_ w xc X)] h K := by
  refine acallF_of tb6 func6 rfl rfl mixed (by kernel_rfl) fun hwf => ?_
  have a1 := adr_size A
  have a2 := adr_one A
  have a3 := adr_row A
  have o1 := oth_size m kd at_ w xc X
  have o2 := oth_one m kd at_ w xc X
  have o3 := oth_row m kd at_ w xc X
  have o4 := oth_acc m kd at_ w xc X
  have o5 := oth_c m kd at_ w xc X
  have o6 := oth_x m kd at_ w xc X
  obtain ⟨O, hO⟩ : ∃ O, O = othA m kd at_ w xc X := ⟨_, rfl⟩
  rw [← hO] at o1 o2 o3 o4 o5 o6 ⊢
  have hn : 100 < h.next := hwf.lt _ _ hr.tab
  simp -dsimp (disch := omega) [a1, a2, a3, o1, o2, o3, o4]
  refine ACallF.gen fun G hG => ?_
  try rw [← hG]
  have gN : G.next = h.next + 3 := by rw [hG]; rfl
  have gA : G.blks h.next = some ⟨adr A, 1, true⟩ := by rw [hG]; simp (disch := omega)
  have gO : G.blks (h.next + 1) = some ⟨O, 1, true⟩ := by rw [hG]; simp (disch := omega)
  have gX : G.blks (h.next + 2) = some ⟨#[.int .u8 m, .int .u8 kd, .int .u64 at_, .int .i64 w], 1, true⟩ := by rw [hG]; simp (disch := omega)
  have gS : ∀ i, i < h.next → G.blks i = h.blks i := fun i hi => by rw [hG]; simp (disch := omega)
  clear hG
  have hrG : Regs G c A := ⟨by rw [gS _ hn]; exact hr.tab, hr.cfg, hr.adr⟩
  have fst := fun {H : Hp} {K' : Value → Hp → Prop} {c' : Nat} {A' : Nat → Nat} (hr : Regs H c' A') (hk : _) => first_call (m := m) (k := kd) (K := K') hr ha hw hk
  have chkC := fun {H : Hp} {K' : Value → Hp → Prop} {c' : Nat} {A' : Nat → Nat} {md : Nat} (hr : Regs H c' A') (hk : _) => check_call (m := md) (k := kd) (K := K') hr ha hw hkd hk
  unfold accV at fst chkC
  have hI1 : fI c A at_ (lastOf at_ w) = -1 ∨ ∃ i : Nat, i < 8 ∧ fI c A at_ (lastOf at_ w) = i := by
    rcases fI_cases c A at_ (lastOf at_ w) with ⟨q, _⟩ | ⟨i, q1, q2, _⟩
    · exact .inl q
    · exact .inr ⟨i, q1, q2⟩
  refine fst hrG ?_
  obtain ⟨I, hI⟩ : ∃ I, I = fI c A at_ (lastOf at_ w) := ⟨_, rfl⟩
  obtain ⟨wh, hwh⟩ : ∃ q, q = wholeF c A at_ w := ⟨_, rfl⟩
  rw [← hI] at hI1 ⊢
  rw [← hwh]
  simp -dsimp (disch := omega) [a1, a2, a3, o1, o2, o3, o4, gA, gX]
  refine chkC hrG ?_
  obtain ⟨is, his⟩ : ∃ q, q = chk c A m kd at_ w := ⟨_, rfl⟩
  rw [← his]
  simp -dsimp (disch := omega) [a1, a2, a3, o1, o2, o3, o4, gA, gX]
  refine awpF_of (awp_loop (fun t h' => ∃ (k F : Nat) (Y : Nat → Nat), k ≤ 8 ∧ I < k ∧ F < 18446744073709551616 ∧ (∀ j, j < 8 → Y j < 18446744073709551616) ∧ (∀ j : Nat, (j : Int) ≤ I → flg F j = flg c j ∧ Y j = A j) ∧
    t 0 = .int .u64 c ∧ t 4 = .pointer (some ⟨h.next, 0, none⟩) ∧ t 5 = .pointer (some ⟨h.next + 1, 0, none⟩) ∧ t 7 = .pointer (some ⟨h.next + 2, 0, none⟩) ∧ t 8 = .int .i64 I ∧ t 9 = .bool wh ∧ t 10 = .bool is ∧ t 11 = .pointer (some ⟨G.next, 0, none⟩) ∧ t 12 = .int .u64 F ∧ t 13 = .int .i64 k ∧
    G.next < h'.next ∧ h'.blks G.next = some ⟨adr Y, 1, true⟩ ∧ ∀ i, i < G.next → h'.blks i = G.blks i) (fun t _ => 8 - ivN (t 13)) ?_ ?_)
  · refine ⟨(I + 1).toNat, c, A, ?_, ?_, hr.cfg, hr.adr, fun j _ => ⟨rfl, rfl⟩, ?_⟩
    · rcases hI1 with q | ⟨i, q1, q2⟩ <;> omega
    · rcases hI1 with q | ⟨i, q1, q2⟩ <;> omega
    · have hIb : -1 ≤ I ∧ I < 8 := by rcases hI1 with q | ⟨i, q1, q2⟩ <;> omega
      simp -dsimp (disch := omega) [put_adr]
      refine ⟨by omega, fun i hi e => by omega⟩
  · rintro t h' ⟨k, F, Y, hk8, hIk, hF, hY, hFY, g0, g4, g5, g7, g8, g9, g10, g11, g12, g13, hN, hYb, hS⟩
    refine vcF_sound mixed (tb := tb6) _ (by kernel_rfl) ?_
    have b1 := adr_size Y
    have b2 := adr_one Y
    have b3 := adr_row Y
    have hO' : h'.blks (h.next + 1) = _ := (hS _ (by omega)).trans gO
    have hX' : h'.blks (h.next + 2) = _ := (hS _ (by omega)).trans gX
    have hA' : h'.blks h.next = _ := (hS _ (by omega)).trans gA
    have ht' : h'.blks 100 = some ⟨tab, 1, false⟩ := by rw [hS _ (by omega), gS _ hn]; exact hr.tab
    by_cases hgo : k < 8 ∧ 0 ≤ I
    · obtain ⟨hk, hI0⟩ := hgo
      have hkI : (k : Int) < 8 := by omega
      have m1 := mk_eq k hk
      have ml := mk_lt k hk
      have x1 := and_val xc (mkN k) (onlyN xc k) hxc ml (and_mk xc k).symm
      obtain ⟨F1, hF1⟩ : ∃ q, q = F ^^^ onlyN F k := ⟨_, rfl⟩
      have x2 := andNot_val F (mkN k) F1 hF ml (by rw [and_mk]; exact hF1)
      have hF1l : F1 < 18446744073709551616 := by rw [hF1]; exact Nat.xor_lt_two_pow (n := 64) hF (onlyN_lt F k hk)
      obtain ⟨F2, hF2⟩ : ∃ q, q = mixN F xc k := ⟨_, rfl⟩
      have x3 := or_val F1 (onlyN xc k) F2 hF1l (onlyN_lt xc k hk) (by rw [hF1, hF2]; rfl)
      have oX := o6 k hk
      have aS := adr_set Y k (X k) hk
      simp -dsimp (disch := omega) [g0, g4, g5, g7, g8, g9, g10, g11, g12, g13, hkI, hk, hI0, hO', hYb, b1, b2, b3, o1, o5, oX, m1, x1, x2, x3, aS, -abin_and, -abin_andNot, -abin_or, -getElem?_pos]
      refine ⟨⟨k + 1, by omega, by omega, F2, by rw [hF2]; exact mix_lt F xc k hF hk, fun i => if i = k then X k else Y i, fun j hj => ?_, fun j hj => ?_, rfl, rfl, hN, rfl, fun i hi => by rw [if_neg (by omega)]; exact hS i hi⟩, by simp [ivN]; omega⟩
      · by_cases hjk : j = k
        · subst hjk; simp only [if_true]; exact hX j hj
        · simp only [if_neg hjk]; exact hY j hj
      · have hjk : j ≠ k := by omega
        show flg F2 j = flg c j ∧ (if j = k then X k else Y j) = A j
        rw [hF2, flg_mix, if_neg hjk, if_neg hjk]
        exact hFY j hj
    · clear hk8
      have hrH : Regs h' c A := ⟨ht', hr.cfg, hr.adr⟩
      have hrF : Regs h' F Y := ⟨ht', hF, hY⟩
      have q1 : (if w < 1 then 1 else w) = (wid w : Int) := by have := wid_pos w; unfold wid; split <;> omega
      have q2 := wid_pos w
      have q3 : wid w ≤ 9223372036854775807 := by unfold wid; split <;> omega
      have bey : IntKind.u64.wrap ((at_ : Int) + ((wid w : Int) - 1)) = ((at_ + (wid w - 1)) % 18446744073709551616 : Nat) := by rw [wrap64]; omega
      have bey2 : 1 ≤ w → IntKind.u64.wrap ((at_ : Int) + (w - 1)) = ((at_ + (wid w - 1)) % 18446744073709551616 : Nat) := fun h1 => by
        rw [if_neg (by omega)] at q1
        have e : (at_ : Int) + (w - 1) = at_ + ((wid w : Int) - 1) := by omega
        rw [e]; exact bey
      have fin : chk c A 3 kd at_ w = true ∨ (chk c A 3 kd at_ w = false ∧ (at_ + (wid w - 1)) % 18446744073709551616 < at_) ∨ (chk c A 3 kd at_ w = false ∧ ¬ (at_ + (wid w - 1)) % 18446744073709551616 < at_ ∧ ∃ i : Nat, i < 8 ∧ I = i ∧ (wh = false ∨ (wh = true ∧ c / 2 ^ (8 * i + 7) % 2 = 1))) := by
        cases hm : chk c A 3 kd at_ w with
        | true => exact .inl rfl
        | false =>
          right
          by_cases hb : (at_ + (wid w - 1)) % 18446744073709551616 < at_
          · exact .inl ⟨rfl, hb⟩
          · refine .inr ⟨rfl, hb, ?_⟩
            rcases chk_m hm with hf | ⟨h0, hl⟩
            · exfalso
              unfold fits at hf
              have hf' : ¬ at_ + (wid w - 1) < 18446744073709551616 := by simpa using hf
              omega
            · rw [← hI] at h0 hl
              rcases hI1 with q | ⟨i, i1, i2⟩
              · omega
              · refine ⟨i, i1, i2, ?_⟩
                rw [← hwh, i2] at hl
                cases wh with
                | false => exact .inl rfl
                | true =>
                  rcases hl with hl | hl
                  · cases hl
                  · exact .inr ⟨rfl, lock_bit i1 hl⟩
      obtain ⟨B, hB⟩ : ∃ B, B = (at_ + (wid w - 1)) % 18446744073709551616 := ⟨_, rfl⟩
      rw [← hB] at bey bey2 fin
      have us := chk_us c A kd at_ w
      have um := @chk_um c A kd at_ w
      obtain ⟨cu, hcu⟩ : ∃ q, q = chk c A 0 kd at_ w := ⟨_, rfl⟩
      obtain ⟨cm, hcm⟩ : ∃ q, q = chk c A 3 kd at_ w := ⟨_, rfl⟩
      rw [← hcu] at us um
      rw [← hcm] at um fin
      have nX : h.next + 2 < h'.next := by omega
      by_cases hI0 : 0 ≤ I
      · have hkI : ¬ (k : Int) < 8 := by omega
        obtain ⟨i, i1, i2⟩ : ∃ i : Nat, i < 8 ∧ I = i := by
          rcases hI1 with q | q
          · omega
          · exact q
        obtain ⟨n1, n2, n3⟩ := behind_all (c' := F) (A' := Y) (m := m) (k := kd) (at_ := at_) (w := w) i1 (by rw [← hI]; exact i2) (fun j hj => (hFY j (by omega)).1) (fun j hj => (hFY j (by omega)).2)
        simp -dsimp (disch := omega) [g0, g4, g5, g7, g8, g9, g10, g11, g12, g13, hkI, hI0, hX', hYb, b1, b2, b3]
        refine fst hrF ?_
        rw [n1, n2, ← hwh]
        simp -dsimp (disch := omega) [g0, g4, g5, g7, g8, g9, g10, g11, g12, g13, hkI, hI0, hX', hYb, b1, b2, b3, i2]
        refine chkC hrF ?_
        rw [n3, ← his]
        simp -dsimp (disch := omega) [g0, g4, g5, g7, g8, g9, g10, g11, g12, g13, hkI, hI0, hX', hA', hYb, b1, b2, b3, a1, a2, a3, i2, nX]
        refine ⟨?_, ?_, ?_⟩
        iterate 2
          · intro j hj hR
            have hR' : j < h'.next := by simpa using hR
            simp (disch := omega)
        refine ACallF.gen fun H hH => ?_
        try rw [← hH]
        have HN : H.next = h'.next + 3 := by rw [hH]; rfl
        have HU : H.blks h'.next = some ⟨#[.int .u8 0, .int .u8 kd, .int .u64 at_, .int .i64 w], 1, true⟩ := by rw [hH]; simp (disch := omega)
        have HP : H.blks (h'.next + 1) = some ⟨#[.int .u8 1, .int .u8 kd, .int .u64 at_, .int .i64 w], 1, true⟩ := by rw [hH]; simp (disch := omega)
        have HM : H.blks (h'.next + 2) = some ⟨#[.int .u8 3, .int .u8 kd, .int .u64 at_, .int .i64 w], 1, true⟩ := by rw [hH]; simp (disch := omega)
        have HS : ∀ i, i < h'.next → H.blks i = h'.blks i := fun i hi => by rw [hH]; simp (disch := omega)
        have HA : H.blks h.next = _ := (HS _ (by omega)).trans hA'
        have HX : H.blks (h.next + 2) = _ := (HS _ (by omega)).trans hX'
        clear hH
        have hrH2 : Regs H c A := ⟨by rw [HS _ (by omega)]; exact ht', hr.cfg, hr.adr⟩
        have hs9 : ∀ i, i < h.next → H.blks i = h.blks i := fun i hi => by rw [HS i (by omega), hS i (by omega), gS i hi]
        refine chkC (md := 0) hrH2 ?_
        rw [← hcu]
        simp -dsimp (disch := omega) [g0, g4, g5, g7, g8, g9, g10, g11, g12, g13, a1, a2, a3, HA, HX, HU, HP, HM, q1, bey, bey2, hI0, i2]
        refine chkC (md := 3) hrH2 ?_
        rw [← hcm]
        simp -dsimp (disch := omega) [g0, g4, g5, g7, g8, g9, g10, g11, g12, g13, a1, a2, a3, HA, HX, HU, HP, HM, q1, bey, bey2, hI0, i2]
        refine chkC (md := 1) hrH2 ?_
        rw [us]
        have cum : cu = false ∨ (cu = true ∧ cm = true) := by
          cases cu with
          | false => exact .inl rfl
          | true => exact .inr ⟨rfl, um rfl⟩
        rcases fin with f1 | ⟨f1, f2⟩ | ⟨f1, f2, j, j1, j2, f3⟩
        · rcases cum with cu1 | ⟨cu1, _⟩
          · simp -dsimp (disch := omega) [g0, g4, g5, g7, g8, g9, g10, g11, g12, g13, a1, a2, a3, HA, HX, HU, HP, HM, q1, bey, bey2, hI0, i2, cu1, f1]
            refine awake_call hrH2.tab ?_
            simp -dsimp (disch := omega) [g0, g4, g5, g7, g8, g9, g10, g11, g12, g13, a1, a2, a3, HA, HX, HU, HP, HM, q1, bey, bey2, hI0, i2, cu1, f1]
            exact RetF.same (r := .bool true) hwf (by simp) (Nat.zero_le _) hs9 hK
          · simp -dsimp (disch := omega) [g0, g4, g5, g7, g8, g9, g10, g11, g12, g13, a1, a2, a3, HA, HX, HU, HP, HM, q1, bey, bey2, hI0, i2, cu1, f1]
            refine awake_call hrH2.tab ?_
            simp -dsimp (disch := omega) [g0, g4, g5, g7, g8, g9, g10, g11, g12, g13, a1, a2, a3, HA, HX, HU, HP, HM, q1, bey, bey2, hI0, i2, cu1, f1]
            exact RetF.same (r := .bool true) hwf (by simp) (Nat.zero_le _) hs9 hK
        · have cu1 : cu = false := by rcases cum with q | ⟨_, q⟩; exact q; rw [f1] at q; cases q
          have f2' : (B : Int) < at_ := by omega
          simp -dsimp (disch := omega) [g0, g4, g5, g7, g8, g9, g10, g11, g12, g13, a1, a2, a3, HA, HX, HU, HP, HM, q1, bey, bey2, hI0, i2, cu1, f1, f2']
          refine awake_call hrH2.tab ?_
          simp -dsimp (disch := omega) [g0, g4, g5, g7, g8, g9, g10, g11, g12, g13, a1, a2, a3, HA, HX, HU, HP, HM, q1, bey, bey2, hI0, i2, cu1, f1, f2']
          exact RetF.same (r := .bool true) hwf (by simp) (Nat.zero_le _) hs9 hK
        · have cu1 : cu = false := by rcases cum with q | ⟨_, q⟩; exact q; rw [f1] at q; cases q
          have f2' : ¬ (B : Int) < at_ := by omega
          have jI : i = j := by omega
          subst jI
          rcases f3 with f3 | ⟨f3, f4⟩
          · simp -dsimp (disch := omega) [g0, g4, g5, g7, g8, g9, g10, g11, g12, g13, a1, a2, a3, HA, HX, HU, HP, HM, q1, bey, bey2, hI0, i2, cu1, f1, f2', f3]
            refine awake_call hrH2.tab ?_
            simp -dsimp (disch := omega) [g0, g4, g5, g7, g8, g9, g10, g11, g12, g13, a1, a2, a3, HA, HX, HU, HP, HM, q1, bey, bey2, hI0, i2, cu1, f1, f2', f3]
            exact RetF.same (r := .bool true) hwf (by simp) (Nat.zero_le _) hs9 hK
          · have sh := sh7_eq c i i1
            obtain ⟨cb, hcb⟩ : ∃ q, q = c / 2 ^ (8 * i + 7) := ⟨_, rfl⟩
            rw [← hcb] at sh f4
            have f4' : (cb : Int) % 2 = 1 := by omega
            simp -dsimp (disch := omega) [g0, g4, g5, g7, g8, g9, g10, g11, g12, g13, a1, a2, a3, HA, HX, HU, HP, HM, q1, bey, bey2, hI0, i2, cu1, f1, f2', f3, sh, f4']
            refine awake_call hrH2.tab ?_
            simp -dsimp (disch := omega) [g0, g4, g5, g7, g8, g9, g10, g11, g12, g13, a1, a2, a3, HA, HX, HU, HP, HM, q1, bey, bey2, hI0, i2, cu1, f1, f2', f3, sh, f4']
            exact RetF.same (r := .bool true) hwf (by simp) (Nat.zero_le _) hs9 hK
      · have hI0' : I = -1 := by rcases hI1 with q | ⟨i, q1, q2⟩ <;> omega
        by_cases hkI : (k : Int) < 8
        · simp -dsimp (disch := omega) [g0, g4, g5, g7, g8, g9, g10, g11, g12, g13, hkI, hI0, hX', hA', hYb, b1, b2, b3, a1, a2, a3, nX]
          refine ⟨?_, ?_, ?_⟩
          iterate 2
            · intro j hj hR
              have hR' : j < h'.next := by simpa using hR
              simp (disch := omega)
          refine ACallF.gen fun H hH => ?_
          try rw [← hH]
          have HN : H.next = h'.next + 3 := by rw [hH]; rfl
          have HU : H.blks h'.next = some ⟨#[.int .u8 0, .int .u8 kd, .int .u64 at_, .int .i64 w], 1, true⟩ := by rw [hH]; simp (disch := omega)
          have HP : H.blks (h'.next + 1) = some ⟨#[.int .u8 1, .int .u8 kd, .int .u64 at_, .int .i64 w], 1, true⟩ := by rw [hH]; simp (disch := omega)
          have HM : H.blks (h'.next + 2) = some ⟨#[.int .u8 3, .int .u8 kd, .int .u64 at_, .int .i64 w], 1, true⟩ := by rw [hH]; simp (disch := omega)
          have HS : ∀ i, i < h'.next → H.blks i = h'.blks i := fun i hi => by rw [hH]; simp (disch := omega)
          have HA : H.blks h.next = _ := (HS _ (by omega)).trans hA'
          have HX : H.blks (h.next + 2) = _ := (HS _ (by omega)).trans hX'
          clear hH
          have hrH2 : Regs H c A := ⟨by rw [HS _ (by omega)]; exact ht', hr.cfg, hr.adr⟩
          have hs9 : ∀ i, i < h.next → H.blks i = h.blks i := fun i hi => by rw [HS i (by omega), hS i (by omega), gS i hi]
          refine chkC (md := 0) hrH2 ?_
          rw [← hcu]
          simp -dsimp (disch := omega) [g0, g4, g5, g7, g8, g9, g10, g11, g12, g13, a1, a2, a3, HA, HX, HU, HP, HM, q1, bey, bey2, hI0]
          refine chkC (md := 3) hrH2 ?_
          rw [← hcm]
          simp -dsimp (disch := omega) [g0, g4, g5, g7, g8, g9, g10, g11, g12, g13, a1, a2, a3, HA, HX, HU, HP, HM, q1, bey, bey2, hI0]
          refine chkC (md := 1) hrH2 ?_
          rw [us]
          have cum : cu = false ∨ (cu = true ∧ cm = true) := by
            cases cu with
            | false => exact .inl rfl
            | true => exact .inr ⟨rfl, um rfl⟩
          rcases fin with f1 | ⟨f1, f2⟩ | ⟨f1, f2, j, j1, j2, f3⟩
          · rcases cum with cu1 | ⟨cu1, _⟩
            · simp -dsimp (disch := omega) [g0, g4, g5, g7, g8, g9, g10, g11, g12, g13, a1, a2, a3, HA, HX, HU, HP, HM, q1, bey, bey2, hI0, cu1, f1]
              refine awake_call hrH2.tab ?_
              simp -dsimp (disch := omega) [g0, g4, g5, g7, g8, g9, g10, g11, g12, g13, a1, a2, a3, HA, HX, HU, HP, HM, q1, bey, bey2, hI0, cu1, f1]
              exact RetF.same (r := .bool true) hwf (by simp) (Nat.zero_le _) hs9 hK
            · simp -dsimp (disch := omega) [g0, g4, g5, g7, g8, g9, g10, g11, g12, g13, a1, a2, a3, HA, HX, HU, HP, HM, q1, bey, bey2, hI0, cu1, f1]
              refine awake_call hrH2.tab ?_
              simp -dsimp (disch := omega) [g0, g4, g5, g7, g8, g9, g10, g11, g12, g13, a1, a2, a3, HA, HX, HU, HP, HM, q1, bey, bey2, hI0, cu1, f1]
              exact RetF.same (r := .bool true) hwf (by simp) (Nat.zero_le _) hs9 hK
          · have cu1 : cu = false := by rcases cum with q | ⟨_, q⟩; exact q; rw [f1] at q; cases q
            have f2' : (B : Int) < at_ := by omega
            simp -dsimp (disch := omega) [g0, g4, g5, g7, g8, g9, g10, g11, g12, g13, a1, a2, a3, HA, HX, HU, HP, HM, q1, bey, bey2, hI0, cu1, f1, f2']
            refine awake_call hrH2.tab ?_
            simp -dsimp (disch := omega) [g0, g4, g5, g7, g8, g9, g10, g11, g12, g13, a1, a2, a3, HA, HX, HU, HP, HM, q1, bey, bey2, hI0, cu1, f1, f2']
            exact RetF.same (r := .bool true) hwf (by simp) (Nat.zero_le _) hs9 hK
          · have cu1 : cu = false := by rcases cum with q | ⟨_, q⟩; exact q; rw [f1] at q; cases q
            exact absurd j2 (by omega)
        · simp -dsimp (disch := omega) [g0, g4, g5, g7, g8, g9, g10, g11, g12, g13, hkI, hI0, hX', hA', hYb, b1, b2, b3, a1, a2, a3, nX]
          refine ⟨?_, ?_, ?_⟩
          iterate 2
            · intro j hj hR
              have hR' : j < h'.next := by simpa using hR
              simp (disch := omega)
          refine ACallF.gen fun H hH => ?_
          try rw [← hH]
          have HN : H.next = h'.next + 3 := by rw [hH]; rfl
          have HU : H.blks h'.next = some ⟨#[.int .u8 0, .int .u8 kd, .int .u64 at_, .int .i64 w], 1, true⟩ := by rw [hH]; simp (disch := omega)
          have HP : H.blks (h'.next + 1) = some ⟨#[.int .u8 1, .int .u8 kd, .int .u64 at_, .int .i64 w], 1, true⟩ := by rw [hH]; simp (disch := omega)
          have HM : H.blks (h'.next + 2) = some ⟨#[.int .u8 3, .int .u8 kd, .int .u64 at_, .int .i64 w], 1, true⟩ := by rw [hH]; simp (disch := omega)
          have HS : ∀ i, i < h'.next → H.blks i = h'.blks i := fun i hi => by rw [hH]; simp (disch := omega)
          have HA : H.blks h.next = _ := (HS _ (by omega)).trans hA'
          have HX : H.blks (h.next + 2) = _ := (HS _ (by omega)).trans hX'
          clear hH
          have hrH2 : Regs H c A := ⟨by rw [HS _ (by omega)]; exact ht', hr.cfg, hr.adr⟩
          have hs9 : ∀ i, i < h.next → H.blks i = h.blks i := fun i hi => by rw [HS i (by omega), hS i (by omega), gS i hi]
          refine chkC (md := 0) hrH2 ?_
          rw [← hcu]
          simp -dsimp (disch := omega) [g0, g4, g5, g7, g8, g9, g10, g11, g12, g13, a1, a2, a3, HA, HX, HU, HP, HM, q1, bey, bey2, hI0]
          refine chkC (md := 3) hrH2 ?_
          rw [← hcm]
          simp -dsimp (disch := omega) [g0, g4, g5, g7, g8, g9, g10, g11, g12, g13, a1, a2, a3, HA, HX, HU, HP, HM, q1, bey, bey2, hI0]
          refine chkC (md := 1) hrH2 ?_
          rw [us]
          have cum : cu = false ∨ (cu = true ∧ cm = true) := by
            cases cu with
            | false => exact .inl rfl
            | true => exact .inr ⟨rfl, um rfl⟩
          rcases fin with f1 | ⟨f1, f2⟩ | ⟨f1, f2, j, j1, j2, f3⟩
          · rcases cum with cu1 | ⟨cu1, _⟩
            · simp -dsimp (disch := omega) [g0, g4, g5, g7, g8, g9, g10, g11, g12, g13, a1, a2, a3, HA, HX, HU, HP, HM, q1, bey, bey2, hI0, cu1, f1]
              refine awake_call hrH2.tab ?_
              simp -dsimp (disch := omega) [g0, g4, g5, g7, g8, g9, g10, g11, g12, g13, a1, a2, a3, HA, HX, HU, HP, HM, q1, bey, bey2, hI0, cu1, f1]
              exact RetF.same (r := .bool true) hwf (by simp) (Nat.zero_le _) hs9 hK
            · simp -dsimp (disch := omega) [g0, g4, g5, g7, g8, g9, g10, g11, g12, g13, a1, a2, a3, HA, HX, HU, HP, HM, q1, bey, bey2, hI0, cu1, f1]
              refine awake_call hrH2.tab ?_
              simp -dsimp (disch := omega) [g0, g4, g5, g7, g8, g9, g10, g11, g12, g13, a1, a2, a3, HA, HX, HU, HP, HM, q1, bey, bey2, hI0, cu1, f1]
              exact RetF.same (r := .bool true) hwf (by simp) (Nat.zero_le _) hs9 hK
          · have cu1 : cu = false := by rcases cum with q | ⟨_, q⟩; exact q; rw [f1] at q; cases q
            have f2' : (B : Int) < at_ := by omega
            simp -dsimp (disch := omega) [g0, g4, g5, g7, g8, g9, g10, g11, g12, g13, a1, a2, a3, HA, HX, HU, HP, HM, q1, bey, bey2, hI0, cu1, f1, f2']
            refine awake_call hrH2.tab ?_
            simp -dsimp (disch := omega) [g0, g4, g5, g7, g8, g9, g10, g11, g12, g13, a1, a2, a3, HA, HX, HU, HP, HM, q1, bey, bey2, hI0, cu1, f1, f2']
            exact RetF.same (r := .bool true) hwf (by simp) (Nat.zero_le _) hs9 hK
          · have cu1 : cu = false := by rcases cum with q | ⟨_, q⟩; exact q; rw [f1] at q; cases q
            exact absurd j2 (by omega)
end Go.Proofs.YtdnjooallhdjdaaDoor
