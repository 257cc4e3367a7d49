/-
  WalkAgain.
-/
import Derived.Test.YtkddajmfljlhiaaW6
import Derived.Test.YtkddajmfljlhiaaV2
set_option linter.unusedSimpArgs false
set_option linter.unusedVariables false
namespace Go.Proofs.Ytkddajmfljlhiaa
open Go Go.Mini Go.Proofs.Try

theorem xor_n (a b d : Nat) (ha : a < 18446744073709551616) (hb : b < 18446744073709551616) (hd : d = a ^^^ b) (ty : TypeId) (xo yo : Operand) : abin prog .xor ty xo yo (.int .u64 (a : Nat)) (.int .u64 (b : Nat)) = some (.int .u64 (d : Nat)) := by
  have hl : d < 2 ^ 64 := by rw [hd]; exact Nat.xor_lt_two_pow ha hb
  have hl' : d < 18446744073709551616 := hl
  rw [abin_xor, show IntKind.u64.bits = 64 from rfl, BitVec.toNat_xor, bv_of a ha, bv_of b hb, ← hd]
  simp (disch := omega)
theorem andNot_n (a b : Nat) (ha : a < 18446744073709551616) (hb : b < 18446744073709551616) (hd : a &&& b = a) (ty : TypeId) (xo yo : Operand) : abin prog .andNot ty xo yo (.int .u64 (a : Nat)) (.int .u64 (b : Nat)) = some (.int .u64 0) := by
  have e : BitVec.ofInt 64 (a : Int) &&& BitVec.ofInt 64 (b : Int) = BitVec.ofInt 64 (a : Int) := by
    apply BitVec.eq_of_toNat_eq
    rw [BitVec.toNat_and, bv_of a ha, bv_of b hb, hd]
  rw [abin_andNot, show IntKind.u64.bits = 64 from rfl, ← e, BitVec.and_assoc, BitVec.and_not_self]
  simp [IntKind.wrap, IntKind.bits, IntKind.signed]
theorem wrote_at {L M : List Wd} {x : Ask} {r : Res} {w i : Nat} {d : Wd} (ww : Wrote L x r M w) (hd : L[i]? = some d) : ∃ d1, M[i]? = some d1 ∧ (d1.v = d.v ∨ (0 < r.n ∧ d.a = lastA r.a0 r.a1 r.a2 r.n ∧ d1.v = nowN x d.v)) := by
  rcases ww with ⟨_, rfl⟩ | ⟨_, _, h0, _, _, hM⟩
  · exact ⟨d, hd, .inl rfl⟩
  · obtain ⟨y, hy⟩ : ∃ y, y = lastA r.a0 r.a1 r.a2 r.n := ⟨_, rfl⟩
    rw [← hy] at hM ⊢
    rcases put1_at (x := y) (v := nowN x (rdV L y)) hd with h | ⟨h1, h2, h3⟩
    · exact ⟨d, by rw [hM]; exact h, .inl rfl⟩
    · refine ⟨_, by rw [hM]; exact h3, .inr ⟨h0, h1, ?_⟩⟩
      unfold rdV
      rw [h2]
theorem wrote_len {L M : List Wd} {x : Ask} {r : Res} {w : Nat} (ww : Wrote L x r M w) : M.length = L.length ∧ (w = 0 ∨ (w = 1 ∧ r.f = 0)) := by
  rcases ww with ⟨h, rfl⟩ | ⟨h, hf, _, _, _, hM⟩
  · exact ⟨rfl, .inl h⟩
  · exact ⟨by rw [hM, put1_length], .inr ⟨h, hf⟩⟩
theorem sl_wd {h : Hp} {l : List Wd} {v : Value} {k : Nat} {d : Wd} (hv : Sl h 4 l.length (wdsC l) v) (hk : l[k]? = some d) :
    ∃ a c b, v = .slice (some a) l.length c ∧ h.blks a.block = some b ∧ b.cells[a.off + k * 4]? = some (.int .u64 d.a) ∧ b.cells[a.off + k * 4 + 1]? = some (.int .u64 d.v) := by
  have hlt : k < l.length := (List.getElem?_eq_some_iff.1 hk).1
  obtain ⟨h0, ⟨_, _, _, h1⟩ | ⟨a, c, b, rfl, h2, h3, h4⟩⟩ := hv
  · omega
  · have e0 := flat_at wdC_len l k d hk 0 (by omega)
    have e1 := flat_at wdC_len l k d hk 1 (by omega)
    have f0 := h4 (k * 4) (by omega)
    have f1 := h4 (k * 4 + 1) (by omega)
    rw [← Nat.add_assoc] at f1
    exact ⟨a, c, b, rfl, h2, f0.trans e0, f1.trans e1⟩
/-- Appending to a full one of known capacity. -/
theorem app_full {h : Hp} {esz bytes b0 n : Nat} {cs : Array Value} {x : Value} {k c : Nat} {new : Array Value} {K : Value → Hp → Prop} {u : Tag K} {e0 : Nat} {ow : Bool} (hb : h.blks b0 = some ⟨cs, e0, ow⟩) (hcs : cs.size = n * esz) (hc : c = 2 * n) (hx : srcCells h esz x = some (k, new)) (hsz : new.size = k * esz) (room : (n + k) * bytes ≤ ROOM ∧ n + k ≤ ROOM)
    (hK : ∀ v' h', Ext h h' → Sl h' esz (n + k) (cs ++ new).toList v' → (∀ b, sblk v' = some b → b = b0 ∨ (h.next ≤ b ∧ b < h'.next)) → K v' h') : OptF (aappend h esz bytes (.slice (some ⟨b0, 0, none⟩) n c) x) K u := by
  have hr0 : Mini.rowAt h ⟨b0, 0, none⟩ (n * esz) = some cs := by
    unfold Mini.rowAt
    rw [hb]
    simp only
    rw [if_pos (by rw [Nat.zero_add, hcs]; exact Nat.le_refl _)]
    simp [← hcs]
  subst hc
  rcases Nat.eq_zero_or_pos k with rfl | hk
  · have hnew : new = #[] := Array.size_eq_zero_iff.1 (by simpa using hsz)
    subst hnew
    unfold aappend
    simp only [hx]
    rw [if_pos (by omega), if_pos trivial]
    refine hK _ _ (Ext.refl h) ⟨by simpa using hcs, .inr ⟨_, _, _, by rw [Nat.add_zero], hb, by simp [hcs], fun j hj => by simp⟩⟩ fun b hb => .inl ?_
    simp [sblk] at hb
    exact hb.symm
  · unfold aappend
    simp only [hx]
    rw [if_neg (by omega), if_pos (by omega), hr0]
    simp only
    unfold agrown
    rw [if_pos room]
    refine hK _ _ (Ext.alloc h _) ⟨by simp [hcs, hsz, Nat.add_mul], .inr ⟨_, _, _, rfl, blks_alloc_eq _ _, by simp [hcs, hsz, Nat.add_mul], fun j hj => by rw [Nat.zero_add, Array.getElem?_toList]⟩⟩ fun b hb => .inr ?_
    simp [sblk] at hb
    subst hb
    simp
def tb5 : Nat → Marks := fun k => if k = 22 then ⟨[1, 3, 4, 5, 1000000], fun _ => True⟩ else ⟨[], fun _ => True⟩
@[simp] theorem tb5_l22 : (tb5 22).l = [1, 3, 4, 5, 1000000] := rfl
@[simp] theorem tb5_l12 : (tb5 12).l = [] := rfl
@[simp] theorem tb5_l13 : (tb5 13).l = [] := rfl
@[simp] theorem tb5_l18 : (tb5 18).l = [] := rfl
@[simp] theorem tb5_R (k x : Nat) : (tb5 k).R x := by unfold tb5; split <;> trivial
section
variable {h : Hp} {K : Value → Hp → Prop} {x : Ask}
set_option maxRecDepth 100000 in
set_option maxHeartbeats 4000000 in
theorem walkAgain_call {l : List Wd} {v : Value} {o : Wd} (hv : Sl h 4 l.length (wdsC l) v) (hok : ∀ e ∈ l, e.ok) (ox : x.ok) (oo : o.ok) (hmax : l.length < 9223372036854775808)
    (hK : K (.bool true) h) : ACall prog 5 [v, askV x, .agg #[.int .u64 o.a, .int .u64 o.v, .bool o.r, .bool o.w]] h K := by
  refine acallF_of tb5 func5 rfl rfl mixed (by kernel_rfl) fun hwf => ?_
  have hvb : ∀ b, sblk v = some b → b < h.next := sblk_lt (hwf.args v (by simp))
  obtain ⟨va, vc, rfl⟩ := hv.slice
  obtain ⟨G, hG⟩ : ∃ G, G = (h.alloc ⟨#[.int .u64 x.va, .int .u64 x.satp, .int .u8 x.kind, .int .u8 x.mode, .bool x.sum, .bool x.mxr], 1, true⟩).alloc ⟨#[.int .u64 o.a, .int .u64 o.v, .bool o.r, .bool o.w], 1, true⟩ := ⟨_, rfl⟩
  have EG : Ext h G := by rw [hG]; exact (Ext.alloc h _).then_alloc _
  have gN : G.next = h.next + 2 := by rw [hG]; rfl
  have gA : G.blks h.next = some ⟨#[.int .u64 x.va, .int .u64 x.satp, .int .u8 x.kind, .int .u8 x.mode, .bool x.sum, .bool x.mxr], 1, true⟩ := by
    rw [hG, blks_alloc_ne _ _ _ (by simp), blks_alloc_eq]
  have gB : G.blks (h.next + 1) = some ⟨#[.int .u64 o.a, .int .u64 o.v, .bool o.r, .bool o.w], 1, true⟩ := by
    rw [hG]; exact blks_alloc_eq _ _
  unfold askV
  by_cases hl : 60 < l.length
  · have hl' : (60 : Int) < l.length := by omega
    simp -dsimp (disch := omega) [← hG, hl, hl']
    refine awake_call ?_
    simp -dsimp (disch := omega)
    exact RetF.same (r := .bool true) hwf (by simp) (Nat.zero_le _) EG.same hK
  · have hl' : ¬ (60 : Int) < l.length := by omega
    simp -dsimp (disch := omega) [← hG, hl, hl']
    refine of_call (l := l) (hv.mono fun b hb => EG.same _ (hvb b hb)) (fun b e => by have := hvb b e; omega) (by omega) hok fun h1 mp v1 E1 q1 => ?_
    have a1 : h1.blks h.next = _ := (E1.same _ (by omega)).trans gA
    simp -dsimp (disch := omega) [a1]
    have w3 := walk_n l x
    have wa := walk_again l x
    have ww := walk_wrote l x
    have we := walk_else l x o
    refine walk_call q1 (by omega) (by omega) ox fun h2 q2 n2 s2 => ?_
    obtain ⟨W, hW⟩ : ∃ W, W = walkF l x := ⟨_, rfl⟩
    rw [← hW] at w3 wa ww we q2 ⊢
    obtain ⟨r, M, w⟩ := W
    simp only [Nat.zero_add] at w3 wa ww we q2 ⊢
    obtain ⟨hML, hw01⟩ := wrote_len ww
    have mpG : G.next ≤ mp := q1.mm
    have mpl : mp < h1.next := q1.lt
    have v1G : ∀ b, sblk v1 = some b → G.next ≤ b ∧ b < h1.next := fun b e => q1.row.blk b e
    have le1 := E1.le
    have same2 : ∀ i, i < G.next → h2.blks i = h1.blks i := fun i hi => s2 i (by omega) (by omega) fun e => by have := v1G _ e; omega
    have a2 : h2.blks h.next = _ := (same2 _ (by omega)).trans a1
    obtain ⟨H, hH⟩ : ∃ H, H = h2.alloc ⟨#[.int .u8 r.f, .int .u64 r.pa, .int .i64 r.lv, .int .u64 r.pte, .int .u64 r.a0, .int .u64 r.a1, .int .u64 r.a2, .int .i64 r.n], 1, true⟩ := ⟨_, rfl⟩
    have EH : Ext h2 H := by rw [hH]; exact Ext.alloc _ _
    have hN : H.next = h2.next + 1 := by rw [hH]; rfl
    have hR : H.blks h2.next = some ⟨#[.int .u8 r.f, .int .u64 r.pa, .int .i64 r.lv, .int .u64 r.pte, .int .u64 r.a0, .int .u64 r.a1, .int .u64 r.a2, .int .i64 r.n], 1, true⟩ := by rw [hH]; exact blks_alloc_eq _ _
    have a3 : H.blks h.next = _ := (EH.same _ (by omega)).trans a2
    have qH : Mem G.next H mp v1 M w := ⟨by rw [EH.same _ q2.lt]; exact q2.blk, q2.row.mono EH.le fun b hb => EH.same _ (q2.row.blk b hb).2, Nat.lt_of_lt_of_le q2.lt EH.le, q2.mm, Nat.le_trans q2.mh EH.le, q2.vr, q2.ok⟩
    have mb := qH.blk
    simp -dsimp (disch := omega) [← hH, mb, a3]
    refine walk_call qH (by rw [hML]; omega) (by omega) ox fun h3 q3 n3 s3 => ?_
    rw [wa] at q3 ⊢
    simp only [Nat.add_zero] at q3 ⊢
    have hv1 : ∀ i, i < H.next → (i < G.next ∨ h1.next ≤ i) → h3.blks i = H.blks i := fun i hi hi2 => s3 i hi (by omega) fun e => by have := v1G _ e; omega
    obtain ⟨J, hJ⟩ : ∃ J, J = h3.alloc ⟨#[.int .u8 r.f, .int .u64 r.pa, .int .i64 r.lv, .int .u64 r.pte, .int .u64 r.a0, .int .u64 r.a1, .int .u64 r.a2, .int .i64 r.n], 1, true⟩ := ⟨_, rfl⟩
    have EJ : Ext h3 J := by rw [hJ]; exact Ext.alloc _ _
    have jN : J.next = h3.next + 1 := by rw [hJ]; rfl
    have jR2 : J.blks h3.next = some ⟨#[.int .u8 r.f, .int .u64 r.pa, .int .i64 r.lv, .int .u64 r.pte, .int .u64 r.a0, .int .u64 r.a1, .int .u64 r.a2, .int .i64 r.n], 1, true⟩ := by rw [hJ]; exact blks_alloc_eq _ _
    have jR : J.blks h2.next = _ := ((EJ.same _ (by omega)).trans (hv1 _ (by omega) (by omega))).trans hR
    have jsame : ∀ i, i < G.next → J.blks i = G.blks i := fun i hi => by
      rw [EJ.same _ (by omega), hv1 i (by omega) (by omega), EH.same _ (by omega), same2 i hi, E1.same _ hi]
    have jA : J.blks h.next = _ := (jsame _ (by omega)).trans gA
    have jB : J.blks (h.next + 1) = _ := (jsame _ (by omega)).trans gB
    have qJ : Mem G.next J mp v1 M w := ⟨by rw [EJ.same _ q3.lt]; exact q3.blk, q3.row.mono EJ.le fun b hb => EJ.same _ (q3.row.blk b hb).2, Nat.lt_of_lt_of_le q3.lt EJ.le, q3.mm, Nat.le_trans q3.mh EJ.le, q3.vr, q3.ok⟩
    have jM := qJ.blk
    have hsame : ∀ i, i < h.next → J.blks i = h.blks i := fun i hi => by rw [jsame i (by omega), EG.same i hi]
    have hn0 : ¬ (r.n : Int) < 0 := by omega
    have hn3 : ¬ (3 : Int) < r.n := by omega
    have hw1 : ¬ (1 : Int) < w := by omega
    clear mb a1 a2 a3 hR
    have vJ : Sl J 4 l.length (wdsC l) (.slice va l.length vc) := hv.mono fun b hb => by
      have := hvb b hb
      rw [jsame _ (by omega), EG.same _ this]
    simp -dsimp (disch := omega) [← hJ]
    rcases (by omega : ((w : Int) = 0 ∧ (r.f : Int) = 0 ∧ r.f = 0) ∨ ((w : Int) = 0 ∧ ¬ (r.f : Int) = 0 ∧ ¬ r.f = 0) ∨ ((w : Int) = 1 ∧ (r.f : Int) = 0 ∧ r.f = 0)) with ⟨hw', hf', hf2⟩ | ⟨hw', hf', hf2⟩ | ⟨hw', hf', hf2⟩
    all_goals
      simp -dsimp (disch := omega) [jM, jR, jR2, hw', hf', hf2, hn0, hn3, hw1]
      refine awpF_of (awp_loop (fun t h' => h' = J ∧ ∃ k : Nat, k ≤ l.length ∧ t 0 = .slice va l.length vc ∧ t 4 = ptr h.next ∧ t 5 = ptr (h.next + 1) ∧ t 7 = ptr mp ∧ t 8 = ptr h2.next ∧ t 11 = .int .i64 k) (fun t _ => l.length - ivN (t 11)) ?_ ?_)
      · exact ⟨rfl, 0, by omega, by simp, by simp, by simp, by simp, by simp, by simp⟩
      · rintro t h' ⟨rfl, k, hk, g0, g4, g5, g7, g8, g11⟩
        refine vcF_sound mixed (tb := tb5) _ (by kernel_rfl) ?_
        by_cases hc : k < l.length
        · obtain ⟨d, hd⟩ : ∃ d, l[k]? = some d := ⟨_, List.getElem?_eq_getElem hc⟩
          obtain ⟨d1, hd1, hdd⟩ := wrote_at ww hd
          obtain ⟨a, c, b, e1, e2, e3, e4⟩ := sl_wd vJ hd
          cases e1
          obtain ⟨b1, f1, f2, f3, f4, f5, f6⟩ := row_el qJ.row hd1
          subst f1
          have hdl : d.v < 18446744073709551616 := (hok d (List.mem_of_getElem? hd)).2
          have hd1l : d1.v < 18446744073709551616 := (qJ.ok d1 (List.mem_of_getElem? hd1)).2
          obtain ⟨s, hs⟩ : ∃ s, s = d.v ^^^ d1.v := ⟨_, rfl⟩
          have aX := xor_n d.v d1.v s hdl hd1l hs
          by_cases hs0 : s = 0
          · have hs0' : (s : Int) = 0 := by omega
            simp -dsimp (disch := omega) [g0, g4, g5, g7, g8, g11, jM, hc, e2, e3, e4, f2, f3, f4, aX, hs0', -abin_xor, -getElem?_pos]
            exact ⟨⟨k + 1, by omega, by simp⟩, by simp [ivN]; omega⟩
          · have hs0' : ¬ (s : Int) = 0 := by omega
            rcases hdd with hdd | ⟨n0, da, dv⟩
            · rw [hdd, Nat.xor_self] at hs; exact absurd hs hs0
            · obtain ⟨st1, st2⟩ := @set_now x d.v
              rw [← dv, ← hs] at st1 st2
              have hsl : s < 18446744073709551616 := by rw [hs]; exact Nat.xor_lt_two_pow (n := 64) hdl hd1l
              have aN := andNot_n s 192 hsl (by omega) st1
              have aA : ∀ (ty : TypeId) (xo yo : Operand), abin prog .and ty xo yo (.int .u64 (d.v : Nat)) (.int .u64 (s : Nat)) = some (.int .u64 (0 : Nat)) := and_n d.v s 0 hdl hsl st2.symm
              have aN' : ∀ (ty : TypeId) (xo yo : Operand), abin prog .andNot ty xo yo (.int .u64 (s : Nat)) (.int .u64 192) = some (.int .u64 0) := aN
              rcases (by omega : r.n = 1 ∨ r.n = 2 ∨ r.n = 3) with hn | hn | hn
              all_goals
                rw [hn] at da
                simp only [lastA] at da
                have da' : (d.a : Int) = _ := congrArg Int.ofNat da
                have hn' : (r.n : Int) = _ := congrArg Int.ofNat hn
                simp only [Int.ofNat_eq_natCast] at da' hn'
                simp -dsimp (disch := omega) [g0, g4, g5, g7, g8, g11, jM, jR, hc, e2, e3, e4, f2, f3, f4, aX, aN', aA, hs0, hs0', hn', da, da', -abin_xor, -abin_and, -abin_andNot, -getElem?_pos]
                exact ⟨⟨k + 1, by omega, by simp⟩, by simp [ivN]; omega⟩
        · simp -dsimp (disch := omega) [g0, g4, g5, g7, g8, g11, hc]
          refine awpF_of (awp_loop (fun t h'' => h'' = h' ∧ ∃ k : Nat, k ≤ r.n ∧ t 0 = .slice va l.length vc ∧ t 4 = ptr h.next ∧ t 5 = ptr (h.next + 1) ∧ t 7 = ptr mp ∧ t 8 = ptr h2.next ∧ t 13 = .int .i64 k ∧ ∀ i, i < k → r.at i ≠ o.a) (fun t _ => r.n - ivN (t 13)) ?_ ?_)
          · exact ⟨rfl, 0, by omega, by simp [g0], by simp [g4], by simp [g5], by simp [g7], by simp [g8], by simp, fun i hi => by omega⟩
          · clear g0 g4 g5 g7 g8 g11 hc hk
            rintro t h'' ⟨rfl, k, hk, g0, g4, g5, g7, g8, g13, hall⟩
            refine vcF_sound mixed (tb := tb5) _ (by kernel_rfl) ?_
            by_cases hc : k < r.n
            · rcases (by omega : k = 0 ∨ k = 1 ∨ k = 2) with hk3 | hk3 | hk3
              all_goals
                obtain ⟨y, hy⟩ : ∃ y, y = r.at k := ⟨_, rfl⟩
                have hyk := hy
                rw [hk3] at hy
                unfold Res.at atN at hy
                simp at hy
                have hk3' : (k : Int) = _ := congrArg Int.ofNat hk3
                simp only [Int.ofNat_eq_natCast] at hk3'
                have hcI : (k : Int) < r.n := by omega
                rw [hk3'] at hcI
                simp at hcI
                by_cases hyo : y = o.a
                · rw [hy] at hyo
                  have hyo' : (_ : Int) = o.a := congrArg Int.ofNat hyo
                  simp only [Int.ofNat_eq_natCast] at hyo'
                  simp -dsimp (disch := omega) [g0, g4, g5, g7, g8, g13, jM, jR, jB, hc, hcI, hk3', hyo, hyo']
                  refine awake_call ?_
                  simp -dsimp (disch := omega)
                  exact RetF.same (r := .bool true) hwf (by simp) (Nat.zero_le _) hsame hK
                · have hyo2 := hyo
                  rw [hy] at hyo2
                  have hyo' : ¬ ((y : Nat) : Int) = o.a := by omega
                  rw [hy] at hyo'
                  simp -dsimp (disch := omega) [g0, g4, g5, g7, g8, g13, jM, jR, jB, hc, hcI, hk3', hyo2, hyo']
                  refine ⟨⟨k + 1, by omega, by omega, fun i hi e => ?_⟩, by simp [ivN]; omega⟩
                  rcases Nat.lt_or_ge i k with hik | hik
                  · exact hall i hik e
                  · obtain rfl : i = k := by omega
                    exact hyo (hyk.trans e)
            · have hcI : ¬ (k : Int) < r.n := by omega
              have hkn : k = r.n := by omega
              rw [hkn] at hall
              have we2 := we hall
              obtain ⟨new, hs, hn⟩ := sl_src (vJ.mono (h' := h''.alloc ⟨#[.int .u64 o.a, .int .u64 o.v, .bool o.r, .bool o.w], 4, true⟩) fun b hb => blks_alloc_ne _ _ _ (by have := hvb b hb; omega))
              have hsz : new.size = l.length * 4 := by rw [← Array.length_toList, hn, wdsC_length]
              simp -dsimp (disch := omega) [g0, g4, g5, g7, g8, g13, jM, jR, jB, hc, hcI]
              refine app_full (blks_alloc_eq _ _) rfl rfl hs hsz (by unfold ROOM; omega) fun v4 h4 E4 sl4 b4 => ?_
              have E4' : Ext h'' h4 := ⟨by have := E4.le; simp only [Hp.next_alloc] at this; omega, fun i hi => by rw [E4.same i (by simp; omega), blks_alloc_ne _ _ _ (by omega)]⟩
              have sl5 : Sl h4 4 (o :: l).length (wdsC (o :: l)) v4 := by
                have e1 : ((#[.int .u64 o.a, .int .u64 o.v, .bool o.r, .bool o.w] : Array Value) ++ new).toList = wdsC (o :: l) := by
                  rw [Array.toList_append, hn]; rfl
                have e2 : 1 + l.length = (o :: l).length := by rw [List.length_cons]; omega
                rw [e1, e2] at sl4
                exact sl4
              obtain ⟨va4, vc4, rfl⟩ := sl5.slice
              simp -dsimp (disch := omega) [g0, g4, g5, g7, g8, g13]
              have l4 := E4'.le
              refine of_call (l := o :: l) sl5 (fun b e => ?_) (by rw [List.length_cons]; omega) (fun e he => ?_) fun h5 mp5 v5 E5 q5 => ?_
              · rcases b4 b e with rfl | ⟨_, h⟩
                · have := E4.le; simp only [Hp.next_alloc] at this; omega
                · exact h
              · rcases List.mem_cons.1 he with rfl | he
                · exact oo
                · exact hok e he
              · have a5 : h5.blks h.next = _ := (E5.same _ (by omega)).trans ((E4'.same _ (by omega)).trans jA)
                have r5 : h5.blks h2.next = _ := (E5.same _ (by omega)).trans ((E4'.same _ (by omega)).trans jR)
                have s5 : ∀ R, SameR R h4.next h4 h5 := fun R j hj _ => E5.same j hj
                have l5 := E5.le
                have lt1 : h.next < h4.next := by omega
                have lt2 : h2.next < h4.next := by omega
                simp -dsimp (disch := omega) [a5, s5, g4, g8, lt1]
                refine walk_new q5 (by rw [List.length_cons]; omega) (by omega) ox fun h6 q6 n6 s6 => ?_
                rw [we2]
                have r6 : h6.blks h2.next = _ := (s6 _ (by omega)).trans r5
                have t6 : SameR ((tb5 22).at h4.next).R h5.next h5 h6 := fun j hj hR => s6 j (by simpa using hR)
                simp -dsimp (disch := omega) [r6, t6, g4, g8, lt2]
                refine awake_call ?_
                simp -dsimp (disch := omega)
                exact RetF.same (r := .bool true) hwf (by simp) (Nat.zero_le _) (fun i hi => by rw [s6 i (by omega), E5.same i (by omega), E4'.same i (by omega), hsame i hi]) hK
end
end Go.Proofs.Ytkddajmfljlhiaa
