/-
  The program's Text, Copy.
-/
import Derived.Test.YtfdhahnnhaeibaaDoorQ5
set_option linter.unusedSimpArgs false
set_option linter.unusedVariables false
set_option linter.unusedSectionVars false
namespace Go.Proofs.YtfdhahnnhaeibaaDoor
open Go Go.Mini Go.Proofs.Tryd
set_option maxRecDepth 100000

theorem src_at (s : St) {k : Nat} (hk : k < 7) : (stC s).extract (5 + k * 4) (5 + k * 4 + 4) = #[.int .u8 (s.pr (k + 1)), .bool (s.hi (k + 1)), .bool (s.pe (k + 1)), .bool (s.se (k + 1))] := by
  apply Array.ext_getElem?
  intro i
  rw [Array.getElem?_extract]
  by_cases hi : i < 4
  · rw [if_pos (by simp; omega)]
    have e : i = 0 ∨ i = 1 ∨ i = 2 ∨ i = 3 := by omega
    rcases e with rfl | rfl | rfl | rfl
    · rw [show 5 + k * 4 + 0 = 1 + (k + 1) * 4 by omega, stC_pr s (by omega)]; rfl
    · rw [show 5 + k * 4 + 1 = 1 + (k + 1) * 4 + 1 by omega, stC_hi s (by omega)]; rfl
    · rw [show 5 + k * 4 + 2 = 1 + (k + 1) * 4 + 2 by omega, stC_pe s (by omega)]; rfl
    · rw [show 5 + k * 4 + 3 = 1 + (k + 1) * 4 + 3 by omega, stC_se s (by omega)]; rfl
  · rw [if_neg (by omega)]
    symm
    simp
    omega
theorem ctx_cells (s : St) : (stC s).extract 33 37 = #[.int .u8 (s.en 0), .int .u8 (s.th 0), .int .u8 (s.en 1), .int .u8 (s.th 1)] := by
  apply Array.ext_getElem?
  intro i
  rw [Array.getElem?_extract]
  by_cases hi : i < 4
  · rw [if_pos (by simp; omega)]
    have e : i = 0 ∨ i = 1 ∨ i = 2 ∨ i = 3 := by omega
    rcases e with rfl | rfl | rfl | rfl
    · exact stC_en s (c := 0) (by omega)
    · exact stC_th s (c := 0) (by omega)
    · exact stC_en s (c := 1) (by omega)
    · exact stC_th s (c := 1) (by omega)
  · rw [if_neg (by omega)]
    symm
    simp
    omega
theorem shr16 (y : Nat) (ty : TypeId) (xo yo : Operand) : abin prog .shr ty xo yo (.int .u8 (y : Nat)) (.int .u64 4) = some (.int .u8 ((y / 16 : Nat) : Int)) := by
  have e : ((y : Int).fdiv (2 ^ (min (4 : Int).toNat IntKind.u8.bits))) = ((y / 16 : Nat) : Int) := by
    rw [show min (4 : Int).toNat IntKind.u8.bits = 4 from rfl, Int.fdiv_eq_ediv_of_nonneg _ (Int.le_of_lt (Int.pow_pos (by omega))), Int.natCast_ediv]
    rfl
  have h1 := abin_shr (P := prog) (ty := ty) (xo := xo) (yo := yo) (k := .u8) (k' := .u64) (a := (y : Int)) (b := 4) (by omega)
  rw [e] at h1
  exact h1
theorem and15 (y : Nat) (hy : y < 256) (ty : TypeId) (xo yo : Operand) : abin prog .and ty xo yo (.int .u8 (y : Nat)) (.int .u8 15) = some (.int .u8 ((y % 16 : Nat) : Int)) := by
  rw [abin_and]
  have e : (BitVec.ofInt IntKind.u8.bits (y : Int) &&& BitVec.ofInt IntKind.u8.bits 15).toNat = y % 16 := by
    rw [BitVec.toNat_and, show IntKind.u8.bits = 8 from rfl, bv8_of y hy, show (BitVec.ofInt 8 15).toNat = 2 ^ 4 - 1 from rfl, Nat.and_two_pow_sub_one_eq_mod]
  rw [e, IntWalk.u8_in _ (by omega)]
theorem bAt_dig (n : Nat) : bAt (txt [48, 49, 50, 51, 52, 53, 54, 55, 56, 57, 97, 98, 99, 100, 101, 102]) n = (dig n).toNat := by
  rw [bAt_txt]
  unfold dig digitL
  rw [List.getD_eq_getElem?_getD]
theorem ixS_dig (n : Nat) (hn : n < 16) : ixS true (txt [48, 49, 50, 51, 52, 53, 54, 55, 56, 57, 97, 98, 99, 100, 101, 102]) (.int .u8 (n : Nat)) = some (.int .u8 ((dig n).toNat : Nat)) := by
  rw [ixS_true _ _ _ ⟨by omega, by show (n : Int) < 16; omega⟩, Int.toNat_natCast, bAt_dig]
def ctxsK (s : St) (c : Nat) : List (List UInt8) := [ctxT s 0, ctxT s 1].take c
def strV (l : List UInt8) : Value := .string (txt l)
theorem piecesK_succ (s : St) (k : Nat) : piecesK s (k + 1) = piecesK s k ++ [srcT s (k + 1)] := by
  simp [piecesK, List.range_succ]
theorem piecesK_len (s : St) (k : Nat) : (piecesK s k).length = k := by simp [piecesK]
section
variable {h : Hp} {K : Value → Hp → Prop} {p : Nat} {s : St}
set_option maxHeartbeats 2000000 in
theorem text_call (q : Inv2 s) (hb : h.blks p = some ⟨stC s, 1, true⟩) (hp : p < h.next) (hK : K (.string (txt (textS s))) h) : ACall prog 14 [ptr p] h K := by
  refine acallF_of tb0 func14 rfl rfl mixed (by kernel_rfl) fun hwf => ?_
  simp -dsimp (disch := omega)
  refine is_call hb ?_
  simp -dsimp (disch := omega)
  refine awp_loop (fun t h' => ∃ k : Nat, k ≤ 7 ∧ Ext h h' ∧ Row h.next h' 1 k ((piecesK s k).map strV) (t 3) ∧ t 0 = ptr p ∧ t 17 = .slice (some ⟨p, 5, none⟩) 7 14 ∧ t 18 = .int .i64 7 ∧ t 19 = .int .i64 k) (fun t _ => 7 - ivN (t 19)) ?_ ?_
  · simp -dsimp (disch := omega)
    exact ⟨0, by omega, Ext.refl _, Row.nil _ _ _, rfl⟩
  · rintro t h' ⟨k, hk, he, hrow, t0, t17, t18, t19⟩
    refine vcF_sound mixed (tb := tb0) _ (by kernel_rfl) ?_
    have hle := he.le
    have hb' : h'.blks p = some ⟨stC s, 1, true⟩ := by rw [he.same p hp]; exact hb
    by_cases hk7 : k < 7
    · have hk7' : (k : Int) < 7 := by omega
      have sa := src_at s hk7
      have pl := q.pr (k + 1)
      obtain ⟨n, hn⟩ : ∃ n, n = k + 1 := ⟨_, rfl⟩
      rw [← hn] at sa pl
      have szz : (stC s).size = 37 := stC_size s
      have kb : 5 + k * 4 + 4 ≤ 37 := by omega
      simp -dsimp (disch := omega) [t0, t17, t18, t19, hk7, hk7', hb', sa, kb]
      refine itoa_call (by omega) ?_
      simp -dsimp (disch := omega) [t0, t17, t18, t19]
      obtain ⟨b1, hb1⟩ : ∃ b, b = s.hi n := ⟨_, rfl⟩
      obtain ⟨b2, hb2⟩ : ∃ b, b = s.pe n := ⟨_, rfl⟩
      obtain ⟨b3, hb3⟩ : ∃ b, b = s.se n := ⟨_, rfl⟩
      have hf : srcT s n = dig (s.pr n) :: flagK s n 3 := rfl
      have f1 : flagK s n 1 = flagK s n 0 ++ if b1 = true then [104] else [] := by rw [hb1]; rfl
      have f2 : flagK s n 2 = flagK s n 1 ++ if b2 = true then [112] else [] := by rw [hb2]; rfl
      have f3 : flagK s n 3 = flagK s n 2 ++ if b3 = true then [115] else [] := by rw [hb3]; rfl
      have g1 := flagK_len s n 0
      have g2 := flagK_len s n 1
      have g3 := flagK_len s n 2
      rw [← hb1, ← hb2, ← hb3]
      have x0 : (txt [104, 112, 115]).extract 0 1 = txt [104] := by kernel_rfl
      have x1 : (txt [104, 112, 115]).extract 1 2 = txt [112] := by kernel_rfl
      have x2 : (txt [104, 112, 115]).extract 2 3 = txt [115] := by kernel_rfl
      refine awp_loop (fun t2 h2 => ∃ j : Nat, j ≤ 3 ∧ h2.next = h'.next + 2 ∧ (∀ i, i < h'.next → h2.blks i = h'.blks i) ∧ h2.blks (h'.next + 1) = some ⟨#[.bool b1, .bool b2, .bool b3], 1, true⟩ ∧ t2 0 = ptr p ∧ t2 3 = t 3 ∧ t2 17 = .slice (some ⟨p, 5, none⟩) 7 14 ∧ t2 18 = .int .i64 7 ∧ t2 19 = .int .i64 k ∧ t2 6 = .string (txt (dig (s.pr n) :: flagK s n j)) ∧ t2 33 = .slice (some ⟨h'.next + 1, 0, none⟩) 3 6 ∧ t2 34 = .int .i64 3 ∧ t2 35 = .int .i64 j) (fun t2 _ => 3 - ivN (t2 35)) ?_ ?_
      · simp -dsimp (disch := omega) [t0, t17, t18, t19]
        refine ⟨0, by omega, fun i hi => by simp (disch := omega), rfl, rfl⟩
      · rintro t2 h2 ⟨j, hj, hn2, hs2, hbb, u0, u3, u17, u18, u19, u6, u33, u34, u35⟩
        refine vcF_sound mixed (tb := tb0) _ (by kernel_rfl) ?_
        rcases (by omega : j = 0 ∨ j = 1 ∨ j = 2 ∨ j = 3) with rfl | rfl | rfl | rfl
        · have u35' : t2 35 = .int .i64 0 := u35
          cases b1
          · simp only [Bool.false_eq_true, if_false, List.append_nil] at f1
            rw [← f1] at u6
            simp -dsimp (disch := omega) [u0, u3, u17, u18, u19, u6, u33, u34, u35', hbb]
            exact ⟨⟨1, by omega, hn2, hs2, by rw [f1], rfl⟩, by simp [ivN]⟩
          · simp only [if_true] at f1
            simp -dsimp (disch := first | omega | (simp; omega)) [u0, u3, u17, u18, u19, u6, u33, u34, u35', hbb, x0]
            exact ⟨⟨1, by omega, hn2, hs2, by rw [f1], rfl⟩, by simp [ivN]⟩
        · have u35' : t2 35 = .int .i64 1 := u35
          cases b2
          · simp only [Bool.false_eq_true, if_false, List.append_nil] at f2
            rw [← f2] at u6
            simp -dsimp (disch := omega) [u0, u3, u17, u18, u19, u6, u33, u34, u35', hbb]
            exact ⟨⟨2, by omega, hn2, hs2, by rw [f2], rfl⟩, by simp [ivN]⟩
          · simp only [if_true] at f2
            simp -dsimp (disch := first | omega | (simp; omega)) [u0, u3, u17, u18, u19, u6, u33, u34, u35', hbb, x1]
            exact ⟨⟨2, by omega, hn2, hs2, by rw [f2], rfl⟩, by simp [ivN]⟩
        · have u35' : t2 35 = .int .i64 2 := u35
          cases b3
          · simp only [Bool.false_eq_true, if_false, List.append_nil] at f3
            rw [← f3] at u6
            simp -dsimp (disch := omega) [u0, u3, u17, u18, u19, u6, u33, u34, u35', hbb]
            exact ⟨⟨3, by omega, hn2, hs2, by rw [f3], rfl⟩, by simp [ivN]⟩
          · simp only [if_true] at f3
            simp -dsimp (disch := first | omega | (simp; omega)) [u0, u3, u17, u18, u19, u6, u33, u34, u35', hbb, x2]
            exact ⟨⟨3, by omega, hn2, hs2, by rw [f3], rfl⟩, by simp [ivN]⟩
        · have u35' : t2 35 = .int .i64 3 := u35
          have hrow2 : Row h.next h2 1 k ((piecesK s k).map strV) (t 3) := hrow.mono (by omega) fun b hb => hs2 b (hrow.blk b hb).2
          have he2 : Ext h h2 := ⟨by omega, fun i hi => by rw [hs2 i (by omega)]; exact he.same i hi⟩
          simp -dsimp (disch := omega) [u0, u3, u17, u18, u19, u6, u33, u34, u35']
          refine app_row (hrow2.alloc _) (by simp; omega) (src_slice _ _ _ _ _ #[strV (srcT s n)] (by simp [strV, hf])) (by omega) (by simp) (by unfold ROOM; omega) fun v' h3 r1 r2 r3 r4 => ?_
          simp -dsimp (disch := omega) [u0, u3, u17, u18, u19]
          refine ⟨⟨k + 1, by omega, ⟨by rw [r2]; simp; omega, fun i hi => ?_⟩, ?_, by simp⟩, by simp [ivN, t19]; omega⟩
          · rw [r4 i (by simp; omega) (fun e => by have := (hrow.blk i e).1; omega)]
            rw [blks_alloc_ne _ _ _ (by omega)]
            exact he2.same i hi
          · rw [piecesK_succ, List.map_append]
            rw [hn] at r1
            exact r1
    · obtain rfl : k = 7 := by omega
      have t19' : t 19 = .int .i64 7 := t19
      simp -dsimp (disch := omega) [t0, t17, t18, t19', hb', ctx_cells]
      refine awp_loop (fun t2 h2 => ∃ c : Nat, c ≤ 2 ∧ Ext h h2 ∧ Row h.next h2 1 (7 + c) ((piecesK s 7 ++ ctxsK s c).map strV) (t2 3) ∧ t2 56 = .agg #[.int .u8 (s.en 0), .int .u8 (s.th 0), .int .u8 (s.en 1), .int .u8 (s.th 1)] ∧ t2 57 = .int .i64 c) (fun t2 _ => 2 - ivN (t2 57)) ?_ ?_
      · simp -dsimp (disch := omega)
        exact ⟨0, by omega, he, by simpa [ctxsK] using hrow, rfl⟩
      · rintro t2 h2 ⟨c, hc, he2, hrow2, t56, t57⟩
        refine vcF_sound mixed (tb := tb0) _ (by kernel_rfl) ?_
        have hle2 := he2.le
        by_cases hc2 : c < 2
        · have hc2' : (c : Int) < 2 := by omega
          have el := q.en c
          have tl := q.th c
          have part : (#[Value.int .u8 (s.en 0), .int .u8 (s.th 0), .int .u8 (s.en 1), .int .u8 (s.th 1)] : Array Value).extract (c * 2) (c * 2 + 2) = #[.int .u8 (s.en c), .int .u8 (s.th c)] := by
            obtain rfl | rfl : c = 0 ∨ c = 1 := by omega
            · rfl
            · rfl
          have hctx : ctxsK s (c + 1) = ctxsK s c ++ [[dig (s.en c / 16), dig (s.en c % 16), 47, dig (s.th c)]] := by
            obtain rfl | rfl : c = 0 ∨ c = 1 := by omega
            · rfl
            · rfl
          have hc4 : c * 2 + 2 ≤ 4 := by omega
          have th48 : (48 + (s.th c : Int)).toNat = 48 + s.th c := by omega
          have dg := dig_add (n := s.th c) (by omega)
          have sh := shr16 (s.en c)
          have an := and15 (s.en c) el
          have q1 : s.en c / 16 < 16 := by omega
          have q2 : s.en c % 16 < 16 := by omega
          generalize s.en c / 16 = n1 at *
          generalize s.en c % 16 = n2 at *
          have As : (#[Value.int .u8 (s.en 0), .int .u8 (s.th 0), .int .u8 (s.en 1), .int .u8 (s.th 1)] : Array Value).size = 4 := rfl
          generalize (#[Value.int .u8 (s.en 0), .int .u8 (s.th 0), .int .u8 (s.en 1), .int .u8 (s.th 1)] : Array Value) = A at *
          simp -dsimp (disch := omega) [t56, t57, hc2, hc2', part, hc4, As, sh, an, ixS_dig, th48, dg, -abin_shr, -abin_and]
          refine app_row (((hrow2.alloc _).alloc _).alloc _) (by simp; omega) (src_slice _ _ _ _ _ #[strV [dig n1, dig n2, 47, dig (s.th c)]] (by simp [strV])) (by omega) (by simp) (by unfold ROOM; omega) fun v' h3 r1 r2 r3 r4 => ?_
          simp -dsimp (disch := omega) [t56, t57]
          refine ⟨⟨c + 1, by omega, ⟨by rw [r2]; simp; omega, fun i hi => ?_⟩, ?_, by simp⟩, by simp [ivN]; omega⟩
          · rw [r4 i (by simp; omega) (fun e => by have := (hrow2.blk i e).1; omega)]
            rw [blks_alloc_ne _ _ _ (by simp; omega), blks_alloc_ne _ _ _ (by simp; omega), blks_alloc_ne _ _ _ (by omega)]
            exact he2.same i hi
          · rw [hctx, ← Nat.add_assoc]
            simpa [strV] using r1
        · obtain rfl : c = 2 := by omega
          have t57' : t2 57 = .int .i64 2 := t57
          simp -dsimp (disch := omega) [t56, t57']
          have hp9 : pieces s = piecesK s 7 ++ ctxsK s 2 := rfl
          have hjl := textS_len s
          rw [← hp9] at hrow2
          refine join_call (xs := pieces s) (m := h.next) hrow2 (by simp [pieces]) (by simp [pieces, piecesK]) (by rw [join_pieces]; omega) ?_
          rw [join_pieces]
          simp -dsimp (disch := omega)
          exact RetF.same hwf (by simp) (Nat.zero_le _) he2.same hK
theorem copy_call (hb : h.blks p = some ⟨stC s, 1, true⟩) (hK : K (ptr h.next) (h.alloc ⟨stC s, 1, true⟩)) : ACall prog 9 [ptr p] h K := by
  refine acallF_of tb0 func9 rfl rfl mixed (by kernel_rfl) fun hwf => ?_
  simp -dsimp (disch := omega)
  refine is_call hb ?_
  have szz : (stC s).size = 37 := stC_size s
  have hone : oneAll (stC s).toList = true := by
    rw [← oneAll_eq]
    simp only [stC, List.all_eq_true]
    intro v hv
    simp only [List.mem_map] at hv
    obtain ⟨i, _, rfl⟩ := hv
    unfold cell
    repeat' split
    all_goals rfl
  have ext : (stC s).extract 0 37 = stC s := by
    apply Array.ext_getElem?
    intro i
    rw [Array.getElem?_extract]
    by_cases hi : i < 37
    · rw [if_pos (by rw [szz]; omega), Nat.zero_add]
    · rw [if_neg (by rw [szz]; omega), Array.getElem?_eq_none (by rw [szz]; omega)]
  have pf : putL #[.bool false, .int .u8 0, .bool false, .bool false, .bool false, .int .u8 0, .bool false, .bool false, .bool false, .int .u8 0, .bool false, .bool false, .bool false, .int .u8 0, .bool false, .bool false, .bool false, .int .u8 0, .bool false, .bool false, .bool false, .int .u8 0, .bool false, .bool false, .bool false, .int .u8 0, .bool false, .bool false, .bool false, .int .u8 0, .bool false, .bool false, .bool false, .int .u8 0, .int .u8 0, .int .u8 0, .int .u8 0] 0 (stC s).toList = stC s := putL_full (by rw [szz]; rfl)
  simp -dsimp (disch := omega) [hb, szz, ext, hone, pf]
  exact RetF.all (r := ptr h.next) (by simp) hK
end
end Go.Proofs.YtfdhahnnhaeibaaDoor
