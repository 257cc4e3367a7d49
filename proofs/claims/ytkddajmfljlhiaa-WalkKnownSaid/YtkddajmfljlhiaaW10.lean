/-
  WalkKnown's parts: a walk over no words; a walk of which the leaf is another one; faults.
-/
import Derived.Test.YtkddajmfljlhiaaW6
set_option linter.unusedSimpArgs false
set_option linter.unusedVariables false
namespace Go.Proofs.Ytkddajmfljlhiaa
open Go Go.Mini Go.Proofs.Try

theorem ACallF.gen {P : Program} {f : FuncId} {args : List Value} {h : Hp} {K : Value → Hp → Prop} {u : Tag K} (H : ∀ G, G = h → ACall P f args G K) : ACallF P f args h K u := H h rfl
@[simp] theorem if_nil (xo : Operand) : abin prog .eql 61 xo (.const .nilIface) .nilIface .nilIface = some (.bool true) :=
  abin_eql_run (b := true) rfl rfl Try.underlying61 (by cases xo <;> rfl) rfl (by rw [Op.equalIn, pure_und, Try.underlying61]; rfl)
def leafL (pte : Nat) (w : Bool) : List Wd := [⟨2147483648, 536871937, true, true⟩, ⟨2147487752, 536872961, true, true⟩, ⟨2147491856, pte, true, w⟩]
theorem leaf_ok {pte : Nat} {w : Bool} (hp : pte < 18446744073709551616) : ∀ e ∈ leafL pte w, e.ok := by
  intro e he
  simp only [leafL, List.mem_cons, List.not_mem_nil, or_false] at he
  unfold Wd.ok
  rcases he with rfl | rfl | rfl
  · decide
  · decide
  · exact ⟨by show 2147491856 < 18446744073709551616; omega, hp⟩
section
variable {h : Hp} {K : Value → Hp → Prop} {x : Ask}
theorem readNil_call {wp y : Nat} (hw : h.blks wp = some ⟨wkA .nilIface x 0 0 0 0, 1, true⟩)
    (hK : K (.tuple #[.int .u64 0, .bool false]) (h.set wp ⟨wkA .nilIface x y 0 0 1, 1, true⟩)) : ACall prog 24 [ptr wp, .int .u64 y] h K := by
  refine acallF_of tb0 func24 rfl rfl mixed (by kernel_rfl) fun hwf => ?_
  simp -dsimp (disch := omega) [hw]
  exact RetF.all (r := .tuple #[.int .u64 0, .bool false]) (by simp) hK
set_option maxRecDepth 100000 in
theorem walkNil_call (hK : K (resV (failR 2 2147483648 0 0 1)) h) : ACall prog 10 [.nilIface, askV (askN 2105635 1)] h K := by
  refine acallF_of tb10 func10 rfl rfl mixed (by kernel_rfl) fun hwf => ?_
  unfold askV askN
  obtain ⟨H, hH⟩ : ∃ H, H = ((h.alloc ⟨#[.int .u64 2105635, .int .u64 9223372036855300096, .int .u8 1, .int .u8 1, .bool false, .bool false], 1, true⟩).alloc ⟨#[.int .u8 0, .int .u64 0, .int .i64 0, .int .u64 0, .int .u64 0, .int .u64 0, .int .u64 0, .int .i64 0], 1, true⟩).alloc ⟨wkA .nilIface (askN 2105635 1) 0 0 0 0, 1, true⟩ := ⟨_, rfl⟩
  have hN : H.next = h.next + 3 := by rw [hH]; rfl
  have hA : H.blks h.next = some ⟨#[.int .u64 2105635, .int .u64 9223372036855300096, .int .u8 1, .int .u8 1, .bool false, .bool false], 1, true⟩ := by rw [hH]; simp (disch := omega)
  have hB : H.blks (h.next + 1) = some ⟨#[.int .u8 0, .int .u64 0, .int .i64 0, .int .u64 0, .int .u64 0, .int .u64 0, .int .u64 0, .int .i64 0], 1, true⟩ := by rw [hH]; simp (disch := omega)
  have hW : H.blks (h.next + 2) = some ⟨wkA .nilIface (askN 2105635 1) 0 0 0 0, 1, true⟩ := by rw [hH]; simp (disch := omega)
  have hS : ∀ i, i < h.next → H.blks i = h.blks i := fun i hi => by rw [hH]; simp (disch := omega)
  simp -dsimp (disch := omega)
  refine bare_call (x := askN 2105635 1) (ask_ok (by decide) (by decide)) ?_
  rw [show bareB (askN 2105635 1) = false from rfl]
  simp -dsimp (disch := omega)
  refine can_call (va := 2105635) (by decide) ?_
  rw [show canB 2105635 = true from rfl]
  simp -dsimp (disch := omega)
  refine low_call (n := 44) (by omega) ?_
  rw [show ((2 ^ 44 - 1 : Nat) : Int) = 17592186044415 from rfl]
  simp -dsimp (disch := omega)
  refine awpF_of (awp_loop (fun t h' => h' = H ∧ t 3 = ptr h.next ∧ t 4 = ptr (h.next + 1) ∧ t 5 = ptr (h.next + 2) ∧ t 6 = .int .u64 2147483648 ∧ t 8 = .int .i64 3) (fun _ _ => 0) ?_ ?_)
  · exact ⟨by rw [hH]; rfl, by simp, by simp, by simp, by simp; rfl, by simp⟩
  · rintro t h' ⟨rfl, g3, g4, g5, g6, g8⟩
    refine vcF_sound mixed (tb := tb10) _ (by kernel_rfl) ?_
    have n1 : h.next < h'.next := by omega
    simp -dsimp (disch := omega) [g3, g4, g5, g6, g8, hA]
    refine low_call (n := 9) (by omega) ?_
    rw [show ((2 ^ 9 - 1 : Nat) : Int) = 511 from rfl]
    simp -dsimp (disch := omega) [g3, g4, g5, g6, g8, hA]
    refine readNil_call (y := 2147483648) hW ?_
    simp -dsimp (disch := omega) [g3, g4, g5, g6, g8, hA]
    refine fail_call (f := 2) (blks_set_eq _ _ _) (by simp; omega) ?_
    unfold failR
    simp -dsimp (disch := omega) [g3, g4, g5, g6, g8, hB]
    refine RetF.same (r := resV (failR 2 2147483648 0 0 1)) hwf (by simp [failR, g4]) (by simp [vtop, vtopL]) (fun j hj => ?_) hK
    simp (disch := omega) [hS j hj]
def tbL (p : Nat) : Nat → Marks := fun k => if k = 6 then ⟨[4, 8, 11, 12], fun j => j ≠ p⟩ else ⟨[], fun _ => True⟩
@[simp] theorem tbL_l6 (p : Nat) : (tbL p 6).l = [4, 8, 11, 12] := rfl
@[simp] theorem tbL_R6 (p x : Nat) : (tbL p 6).R x = (x ≠ p) := rfl
set_option maxRecDepth 100000 in
theorem leafK_call {pte : Nat} {wb : Bool} {r : Res} {M : List Wd} {n : Nat} {d : Wd} (ox : x.ok) (hp : pte < 18446744073709551616) (hw : walkF (leafL pte wb) x = (r, M, n)) (hd : M[2]? = some d) (hn : n ≤ 1)
    (hK : K (.tuple #[resV r, .int .i64 n, .int .u64 d.v]) h) : ACall prog 19 [.int .u64 pte, .bool wb, askV x] h K := by
  refine acallF_of (tbL (h.next + 1)) func19 rfl rfl mixed (by kernel_rfl) fun hwf => ?_
  unfold askV
  simp -dsimp (disch := omega)
  refine ACallF.gen fun G hG => ?_
  try rw [← hG]
  have gN : G.next = h.next + 2 := by rw [hG]; rfl
  have gX : G.blks h.next = some ⟨#[.int .u64 x.va, .int .u64 x.satp, .int .u8 x.kind, .int .u8 x.mode, .bool x.sum, .bool x.mxr], 1, true⟩ := by rw [hG]; simp (disch := omega)
  have gR : G.blks (h.next + 1) = some ⟨#[.int .u8 0, .int .u64 0, .int .i64 0, .int .u64 0, .int .u64 0, .int .u64 0, .int .u64 0, .int .i64 0], 1, true⟩ := by rw [hG]; simp (disch := omega)
  have gS : ∀ i, i < h.next → G.blks i = h.blks i := fun i hi => by rw [hG]; simp (disch := omega)
  refine given_call fun h1 b1 E1 l1 u1 s1 => ?_
  have s2 : h1.blks b1 = some ⟨#[.int .u64 2147483648, .int .u64 536871937, .bool true, .bool true, .int .u64 2147487752, .int .u64 536872961, .bool true, .bool true, .int .u64 2147491856, .int .u64 536871119, .bool true, .bool true], 4, true⟩ := by rw [s1]; rfl
  have e1 := E1.le
  simp -dsimp (disch := omega) [s2]
  refine ACallF.gen fun J hJ => ?_
  try rw [← hJ]
  have jN : J.next = h1.next := by rw [hJ]; rfl
  have jS0 : ∀ i, i < G.next → J.blks i = G.blks i := fun i hi => by rw [hJ, blks_set_ne _ _ _ _ (by omega), E1.same _ (by omega)]
  have jX : J.blks h.next = _ := (jS0 _ (by omega)).trans gX
  have jR : J.blks (h.next + 1) = _ := (jS0 _ (by omega)).trans gR
  have jS : ∀ i, i < h.next → J.blks i = h.blks i := fun i hi => by rw [jS0 i (by omega), gS i hi]
  have jB : J.blks b1 = some ⟨(wdsC (leafL pte wb)).toArray, 4, true⟩ := by rw [hJ, blks_set_eq]; rfl
  clear hG hJ
  refine of_call (l := leafL pte wb) ⟨rfl, .inr ⟨_, _, _, rfl, jB, by simp [wdsC_length, leafL], fun i hi => by simp⟩⟩ (fun b e => by simp [sblk] at e; omega) (by simp [leafL]) (leaf_ok hp) fun h2 mp v2 E2 q2 => ?_
  have e2 := E2.le
  have x2 : h2.blks h.next = _ := (E2.same _ (by omega)).trans jX
  simp -dsimp (disch := omega) [x2]
  refine walk_new q2 (by simp [leafL]) (by omega) ox fun h3 q3 n3 s3 => ?_
  rw [hw] at q3 ⊢
  obtain ⟨b3, rfl, r1, r2, r3, r4, r5⟩ := row_el q3.row hd
  have m3 := q3.blk
  have r3R : h3.blks (h.next + 1) = _ := ((s3 _ (by omega)).trans (E2.same _ (by omega))).trans jR
  have mpG : G.next ≤ mp := by have := q3.mm; omega
  have mpl := q3.lt
  have b3l := (q3.row.blk b3 rfl)
  have nm1 : ¬ mp = h.next + 1 := by omega
  have nb1 : ¬ b3 = h.next + 1 := by omega
  have nm2 : ¬ mp = h3.next := by omega
  have nb2 : ¬ b3 = h3.next := by omega
  have nr2 : ¬ h.next + 1 = h3.next := by omega
  have hM : 2 < M.length := (List.getElem?_eq_some_iff.1 hd).1
  have r3' : (wdsC M).toArray[9]? = some (.int .u64 d.v) := r3
  simp -dsimp (disch := omega) [m3, r1, r3', r3R, nm1, nb1, nm2, nb2, nr2, hM, -getElem?_pos]
  refine ⟨fun j hj hR => ?_, RetF.same (r := .tuple #[resV r, .int .i64 n, .int .u64 d.v]) hwf (by simp (disch := omega)) (by simp [vtop, vtopL]) (fun j hj => ?_) hK⟩
  · have hR' : j ≠ h.next + 1 := by simpa using hR
    simp [Hp.blks_alloc, Hp.blks_set, hR']
  · rw [blks_alloc_ne _ _ _ (by simp; omega), blks_set_ne _ _ _ _ (by omega), s3 j (by omega), E2.same j (by omega), jS j hj]
theorem faults_call {pte want : Nat} {wb : Bool} {r : Res} {M : List Wd} {d : Wd} (ox : x.ok) (hp : pte < 18446744073709551616) (hw : walkF (leafL pte wb) x = (r, M, 0)) (hd : M[2]? = some d) (h1 : r.f = want) (h2 : r.pa = 0) (h4 : d.v = pte)
    (hK : K (.bool true) h) : ACall prog 20 [.int .u64 pte, .bool wb, askV x, .int .u8 want] h K := by
  refine acallF_of tb0 func20 rfl rfl mixed (by kernel_rfl) fun hwf => ?_
  have lK := fun (H : Hp) (K' : Value → Hp → Prop) (hk : _) => leafK_call (h := H) (K := K') ox hp hw hd (by omega) hk
  unfold askV at lK ⊢
  rw [h4] at lK
  simp -dsimp (disch := omega)
  refine lK _ _ ?_
  have h1' : (r.f : Int) = want := by omega
  have h2' : (r.pa : Int) = 0 := by omega
  simp -dsimp (disch := omega) [h1, h1', h2, h2']
  exact RetF.same (r := .bool true) hwf (by simp) (Nat.zero_le _) (fun j hj => by simp (disch := omega)) hK
end
end Go.Proofs.Ytkddajmfljlhiaa
