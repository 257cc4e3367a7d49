/-
  WalkKnown: the chapter's examples. (Printed by a program of ours.)
-/
import Derived.Test.YtkddajmfljlhiaaW10
set_option linter.unusedSimpArgs false
set_option linter.unusedVariables false
namespace Go.Proofs.Ytkddajmfljlhiaa
open Go Go.Mini Go.Proofs.Try

def bigL (pte : Nat) : List Wd := [⟨2147483648, 536871937, true, true⟩, ⟨2147487752, pte, true, true⟩, ⟨2147491856, 536871119, true, true⟩]
theorem big_ok {pte : Nat} (hp : pte < 18446744073709551616) : ∀ e ∈ bigL pte, e.ok := by
  intro e he
  simp only [bigL, List.mem_cons, List.not_mem_nil, or_false] at he
  unfold Wd.ok
  rcases he with rfl | rfl | rfl
  · decide
  · exact ⟨by show 2147487752 < 18446744073709551616; omega, hp⟩
  · decide
theorem okA {k m : Nat} {s x : Bool} (hk : k < 256) (hm : m < 256) : Ask.ok ⟨2105635, 9223372036855300096, k, m, s, x⟩ := ⟨by show 2105635 < 18446744073709551616; omega, by show 9223372036855300096 < 18446744073709551616; omega, hk, hm⟩
def tbK : Nat → Marks := fun k => if k = 9 then ⟨[1, 2, 3, 8, 9, 10, 1000000, 2000004, 2000005, 2000006, 2000007], fun _ => True⟩ else ⟨[], fun _ => True⟩
@[simp] theorem tbK_l9 : (tbK 9).l = [1, 2, 3, 8, 9, 10, 1000000, 2000004, 2000005, 2000006, 2000007] := rfl
section
variable {h : Hp} {K : Value → Hp → Prop}
set_option maxRecDepth 100000 in
set_option maxHeartbeats 4000000 in
theorem walkKnown_call (hK : K (.bool true) h) : ACall prog 4 [] h K := by
  refine acallF_of tbK func4 rfl rfl mixed (by kernel_rfl) fun hwf => ?_
  have w1 : (walkF givenL (askN 2109440 1)).1 = ⟨2, 0, 0, 0, 2147483648, 2147487752, 2147491864, 3⟩ := by rfl
  have w2 : (walkF givenL (askN 549755813888 1)).1 = ⟨1, 0, 0, 0, 0, 0, 0, 0⟩ := by rfl
  have w3 : (walkF givenL (askN 2105635 3)).1 = ⟨0, 2105635, 0, 0, 0, 0, 0, 0⟩ := by rfl
  simp -dsimp (disch := omega)
  refine path_call ?_
  simp -dsimp (disch := omega)
  refine ACallF.gen fun G1 hG => ?_
  try rw [← hG]
  have G1n : G1.next = h.next + 1 := by rw [hG]; rfl
  have farG1 : G1.blks h.next = some ⟨#[.int .u64 2147483648, .int .u64 2147487752, .int .u64 2147491864], 1, true⟩ := by rw [hG]; simp (disch := omega)
  have G1s : ∀ i, i < h.next → G1.blks i = h.blks i := fun i hi => by rw [hG]; simp (disch := omega)
  clear hG
  refine given_call fun p1 b E1a l1 u1 s1 => ?_
  have E1l := E1a.le
  simp -dsimp (disch := omega)
  refine of_call (l := givenL) (given_sl s1) (fun b e => by simp [sblk] at e; omega) (by decide) given_ok fun q1 mp v2 E1b q2 => ?_
  have E1m := E1b.le
  simp -dsimp (disch := omega)
  refine ask_call (va := 2109440) (mode := 1) ?_
  simp -dsimp (disch := omega)
  refine walk_new q2 (by decide) (by decide) (ask_ok (by decide) (by decide)) fun r1 q3 n1 s3 => ?_
  rw [w1]
  clear q2 q3 s1
  simp -dsimp (disch := omega)
  refine ACallF.gen fun G2 hG => ?_
  try rw [← hG]
  have G2n : G2.next = r1.next + 1 := by rw [hG]; rfl
  have raG2 : G2.blks r1.next = some ⟨#[.int .u8 2, .int .u64 0, .int .i64 0, .int .u64 0, .int .u64 2147483648, .int .u64 2147487752, .int .u64 2147491864, .int .i64 3], 1, true⟩ := by rw [hG]; simp (disch := omega)
  have G2s : ∀ i, i < G1.next → G2.blks i = G1.blks i := fun i hi => by rw [hG]; rw [blks_alloc_ne _ _ _ (by omega), s3 i (by omega), E1b.same i (by omega), E1a.same i (by omega)]
  have farG2 : G2.blks h.next = _ := (G2s _ (by omega)).trans farG1
  clear hG
  clear s3 E1a E1b
  refine given_call fun p2 b E2a l1 u1 s1 => ?_
  have E2l := E2a.le
  simp -dsimp (disch := omega)
  refine of_call (l := givenL) (given_sl s1) (fun b e => by simp [sblk] at e; omega) (by decide) given_ok fun q2 mp v2 E2b q2 => ?_
  have E2m := E2b.le
  simp -dsimp (disch := omega)
  refine ask_call (va := 549755813888) (mode := 1) ?_
  simp -dsimp (disch := omega)
  refine walk_new q2 (by decide) (by decide) (ask_ok (by decide) (by decide)) fun r2 q3 n2 s3 => ?_
  rw [w2]
  clear q2 q3 s1
  simp -dsimp (disch := omega)
  refine ACallF.gen fun G3 hG => ?_
  try rw [← hG]
  have G3n : G3.next = r2.next + 1 := by rw [hG]; rfl
  have rbG3 : G3.blks r2.next = some ⟨#[.int .u8 1, .int .u64 0, .int .i64 0, .int .u64 0, .int .u64 0, .int .u64 0, .int .u64 0, .int .i64 0], 1, true⟩ := by rw [hG]; simp (disch := omega)
  have G3s : ∀ i, i < G2.next → G3.blks i = G2.blks i := fun i hi => by rw [hG]; rw [blks_alloc_ne _ _ _ (by omega), s3 i (by omega), E2b.same i (by omega), E2a.same i (by omega)]
  have farG3 : G3.blks h.next = _ := (G3s _ (by omega)).trans farG2
  have raG3 : G3.blks r1.next = _ := (G3s _ (by omega)).trans raG2
  clear hG
  clear s3 E2a E2b
  refine given_call fun p3 b E3a l1 u1 s1 => ?_
  have E3l := E3a.le
  simp -dsimp (disch := omega)
  refine of_call (l := givenL) (given_sl s1) (fun b e => by simp [sblk] at e; omega) (by decide) given_ok fun q3 mp v2 E3b q2 => ?_
  have E3m := E3b.le
  simp -dsimp (disch := omega)
  refine ask_call (va := 2105635) (mode := 3) ?_
  simp -dsimp (disch := omega)
  refine walk_new q2 (by decide) (by decide) (ask_ok (by decide) (by decide)) fun r3 q3 n3 s3 => ?_
  rw [w3]
  clear q2 q3 s1
  simp -dsimp (disch := omega)
  refine ACallF.gen fun G4 hG => ?_
  try rw [← hG]
  have G4n : G4.next = r3.next + 1 := by rw [hG]; rfl
  have rcG4 : G4.blks r3.next = some ⟨#[.int .u8 0, .int .u64 2105635, .int .i64 0, .int .u64 0, .int .u64 0, .int .u64 0, .int .u64 0, .int .i64 0], 1, true⟩ := by rw [hG]; simp (disch := omega)
  have G4s : ∀ i, i < G3.next → G4.blks i = G3.blks i := fun i hi => by rw [hG]; rw [blks_alloc_ne _ _ _ (by omega), s3 i (by omega), E3b.same i (by omega), E3a.same i (by omega)]
  have farG4 : G4.blks h.next = _ := (G4s _ (by omega)).trans farG3
  have raG4 : G4.blks r1.next = _ := (G4s _ (by omega)).trans raG3
  have rbG4 : G4.blks r2.next = _ := (G4s _ (by omega)).trans rbG3
  clear hG
  clear s3 E3a E3b
  refine awake_call ?_
  simp -dsimp (disch := omega) [farG4, raG4, rbG4, rcG4]
  refine ask_call (va := 2105635) (mode := 1) ?_
  simp -dsimp (disch := omega) [farG4, raG4, rbG4, rcG4]
  unfold askV askN
  simp -dsimp (disch := omega) [farG4, raG4, rbG4, rcG4]
  refine ⟨?_, ?_, ?_, ?_⟩
  iterate 3
    · intro j hj hR
      have hR' : j < G4.next + 1 := by simpa using hR
      simp (disch := omega)
  refine ACallF.gen fun G5 hG => ?_
  try rw [← hG]
  have G5n : G5.next = G4.next + 5 := by rw [hG]; rfl
  have sG5 : G5.blks G4.next = some ⟨#[.int .u64 2105635, .int .u64 9223372036855300096, .int .u8 1, .int .u8 1, .bool false, .bool false], 1, true⟩ := by rw [hG]; simp (disch := omega)
  have stG5 : G5.blks (G4.next + 1) = some ⟨#[.int .u64 2105635, .int .u64 9223372036855300096, .int .u8 2, .int .u8 1, .bool false, .bool false], 1, true⟩ := by rw [hG]; simp (disch := omega)
  have feG5 : G5.blks (G4.next + 2) = some ⟨#[.int .u64 2105635, .int .u64 9223372036855300096, .int .u8 0, .int .u8 1, .bool false, .bool false], 1, true⟩ := by rw [hG]; simp (disch := omega)
  have suG5 : G5.blks (G4.next + 3) = some ⟨#[.int .u64 2105635, .int .u64 9223372036855300096, .int .u8 1, .int .u8 1, .bool true, .bool false], 1, true⟩ := by rw [hG]; simp (disch := omega)
  have mxG5 : G5.blks (G4.next + 4) = some ⟨#[.int .u64 2105635, .int .u64 9223372036855300096, .int .u8 1, .int .u8 1, .bool false, .bool true], 1, true⟩ := by rw [hG]; simp (disch := omega)
  have G5s : ∀ i, i < G4.next → G5.blks i = G4.blks i := fun i hi => by rw [hG]; simp (disch := omega)
  have farG5 : G5.blks h.next = _ := (G5s _ (by omega)).trans farG4
  have raG5 : G5.blks r1.next = _ := (G5s _ (by omega)).trans raG4
  have rbG5 : G5.blks r2.next = _ := (G5s _ (by omega)).trans rbG4
  have rcG5 : G5.blks r3.next = _ := (G5s _ (by omega)).trans rcG4
  clear hG
  refine leafK_call (x := ⟨2105635, 9223372036855300096, 2, 1, false, false⟩) (pte := 536870919) (wb := true) (r := ⟨0, 2147483939, 0, 536871111, 2147483648, 2147487752, 2147491856, 3⟩) (M := leafL 536871111 true) (n := 1) (d := ⟨2147491856, 536871111, true, true⟩) (okA (by omega) (by omega)) (by omega) (by rfl) rfl (by omega) ?_
  simp -dsimp (disch := omega) [farG5, raG5, rbG5, rcG5, sG5, stG5, feG5, suG5, mxG5]
  refine ACallF.gen fun G6 hG => ?_
  try rw [← hG]
  have G6n : G6.next = G5.next + 1 := by rw [hG]; rfl
  have lrG6 : G6.blks G5.next = some ⟨#[.int .u8 0, .int .u64 2147483939, .int .i64 0, .int .u64 536871111, .int .u64 2147483648, .int .u64 2147487752, .int .u64 2147491856, .int .i64 3], 1, true⟩ := by rw [hG]; simp (disch := omega)
  have G6s : ∀ i, i < G5.next → G6.blks i = G5.blks i := fun i hi => by rw [hG]; simp (disch := omega)
  have farG6 : G6.blks h.next = _ := (G6s _ (by omega)).trans farG5
  have raG6 : G6.blks r1.next = _ := (G6s _ (by omega)).trans raG5
  have rbG6 : G6.blks r2.next = _ := (G6s _ (by omega)).trans rbG5
  have rcG6 : G6.blks r3.next = _ := (G6s _ (by omega)).trans rcG5
  have sG6 : G6.blks G4.next = _ := (G6s _ (by omega)).trans sG5
  have stG6 : G6.blks (G4.next + 1) = _ := (G6s _ (by omega)).trans stG5
  have feG6 : G6.blks (G4.next + 2) = _ := (G6s _ (by omega)).trans feG5
  have suG6 : G6.blks (G4.next + 3) = _ := (G6s _ (by omega)).trans suG5
  have mxG6 : G6.blks (G4.next + 4) = _ := (G6s _ (by omega)).trans mxG5
  clear hG
  refine leafK_call (x := ⟨2105635, 9223372036855300096, 1, 1, false, false⟩) (pte := 536870915) (wb := true) (r := ⟨0, 2147483939, 0, 536870979, 2147483648, 2147487752, 2147491856, 3⟩) (M := leafL 536870979 true) (n := 1) (d := ⟨2147491856, 536870979, true, true⟩) (okA (by omega) (by omega)) (by omega) (by rfl) rfl (by omega) ?_
  simp -dsimp (disch := omega) [farG6, raG6, rbG6, rcG6, sG6, stG6, feG6, suG6, mxG6, lrG6]
  refine ACallF.gen fun G7 hG => ?_
  try rw [← hG]
  have G7n : G7.next = G6.next + 1 := by rw [hG]; rfl
  have lqG7 : G7.blks G6.next = some ⟨#[.int .u8 0, .int .u64 2147483939, .int .i64 0, .int .u64 536870979, .int .u64 2147483648, .int .u64 2147487752, .int .u64 2147491856, .int .i64 3], 1, true⟩ := by rw [hG]; simp (disch := omega)
  have G7s : ∀ i, i < G6.next → G7.blks i = G6.blks i := fun i hi => by rw [hG]; simp (disch := omega)
  have farG7 : G7.blks h.next = _ := (G7s _ (by omega)).trans farG6
  have raG7 : G7.blks r1.next = _ := (G7s _ (by omega)).trans raG6
  have rbG7 : G7.blks r2.next = _ := (G7s _ (by omega)).trans rbG6
  have rcG7 : G7.blks r3.next = _ := (G7s _ (by omega)).trans rcG6
  have sG7 : G7.blks G4.next = _ := (G7s _ (by omega)).trans sG6
  have stG7 : G7.blks (G4.next + 1) = _ := (G7s _ (by omega)).trans stG6
  have feG7 : G7.blks (G4.next + 2) = _ := (G7s _ (by omega)).trans feG6
  have suG7 : G7.blks (G4.next + 3) = _ := (G7s _ (by omega)).trans suG6
  have mxG7 : G7.blks (G4.next + 4) = _ := (G7s _ (by omega)).trans mxG6
  have lrG7 : G7.blks G5.next = _ := (G7s _ (by omega)).trans lrG6
  clear hG
  simp -dsimp (disch := omega) [farG7, raG7, rbG7, rcG7, sG7, stG7, feG7, suG7, mxG7, lrG7, lqG7]
  refine faults_call (x := ⟨2105635, 9223372036855300096, 2, 1, false, false⟩) (pte := 536870919) (want := 2) (wb := false) (r := ⟨2, 0, 0, 0, 2147483648, 2147487752, 2147491856, 3⟩) (M := leafL 536870919 false) (d := ⟨2147491856, 536870919, true, false⟩) (okA (by omega) (by omega)) (by omega) (by rfl) rfl rfl rfl rfl ?_
  simp -dsimp (disch := omega) [farG7, raG7, rbG7, rcG7, sG7, stG7, feG7, suG7, mxG7, lrG7, lqG7]
  refine faults_call (x := ⟨2105635, 9223372036855300096, 2, 1, false, false⟩) (pte := 536871107) (want := 1) (wb := true) (r := ⟨1, 0, 0, 0, 2147483648, 2147487752, 2147491856, 3⟩) (M := leafL 536871107 true) (d := ⟨2147491856, 536871107, true, true⟩) (okA (by omega) (by omega)) (by omega) (by rfl) rfl rfl rfl rfl ?_
  simp -dsimp (disch := omega) [farG7, raG7, rbG7, rcG7, sG7, stG7, feG7, suG7, mxG7, lrG7, lqG7]
  refine faults_call (x := ⟨2105635, 9223372036855300096, 0, 1, false, false⟩) (pte := 536871111) (want := 1) (wb := true) (r := ⟨1, 0, 0, 0, 2147483648, 2147487752, 2147491856, 3⟩) (M := leafL 536871111 true) (d := ⟨2147491856, 536871111, true, true⟩) (okA (by omega) (by omega)) (by omega) (by rfl) rfl rfl rfl rfl ?_
  simp -dsimp (disch := omega) [farG7, raG7, rbG7, rcG7, sG7, stG7, feG7, suG7, mxG7, lrG7, lqG7]
  refine faults_call (x := ⟨2105635, 9223372036855300096, 1, 1, false, false⟩) (pte := 536871135) (want := 1) (wb := true) (r := ⟨1, 0, 0, 0, 2147483648, 2147487752, 2147491856, 3⟩) (M := leafL 536871135 true) (d := ⟨2147491856, 536871135, true, true⟩) (okA (by omega) (by omega)) (by omega) (by rfl) rfl rfl rfl rfl ?_
  simp -dsimp (disch := omega) [farG7, raG7, rbG7, rcG7, sG7, stG7, feG7, suG7, mxG7, lrG7, lqG7]
  refine faults_call (x := ⟨2105635, 9223372036855300096, 1, 1, false, false⟩) (pte := 536871113) (want := 1) (wb := true) (r := ⟨1, 0, 0, 0, 2147483648, 2147487752, 2147491856, 3⟩) (M := leafL 536871113 true) (d := ⟨2147491856, 536871113, true, true⟩) (okA (by omega) (by omega)) (by omega) (by rfl) rfl rfl rfl rfl ?_
  simp -dsimp (disch := omega) [farG7, raG7, rbG7, rcG7, sG7, stG7, feG7, suG7, mxG7, lrG7, lqG7]
  refine faults_call (x := ⟨2105635, 9223372036855300096, 1, 1, false, false⟩) (pte := 536870913) (want := 1) (wb := true) (r := ⟨1, 0, 0, 0, 2147483648, 2147487752, 2147491856, 3⟩) (M := leafL 536870913 true) (d := ⟨2147491856, 536870913, true, true⟩) (okA (by omega) (by omega)) (by omega) (by rfl) rfl rfl rfl rfl ?_
  simp -dsimp (disch := omega) [farG7, raG7, rbG7, rcG7, sG7, stG7, feG7, suG7, mxG7, lrG7, lqG7]
  refine faults_call (x := ⟨2105635, 9223372036855300096, 1, 1, false, false⟩) (pte := 536871109) (want := 1) (wb := true) (r := ⟨1, 0, 0, 0, 2147483648, 2147487752, 2147491856, 3⟩) (M := leafL 536871109 true) (d := ⟨2147491856, 536871109, true, true⟩) (okA (by omega) (by omega)) (by omega) (by rfl) rfl rfl rfl rfl ?_
  simp -dsimp (disch := omega) [farG7, raG7, rbG7, rcG7, sG7, stG7, feG7, suG7, mxG7, lrG7, lqG7]
  refine faults_call (x := ⟨2105635, 9223372036855300096, 1, 1, false, false⟩) (pte := 18014399046353103) (want := 1) (wb := true) (r := ⟨1, 0, 0, 0, 2147483648, 2147487752, 2147491856, 3⟩) (M := leafL 18014399046353103 true) (d := ⟨2147491856, 18014399046353103, true, true⟩) (okA (by omega) (by omega)) (by omega) (by rfl) rfl rfl rfl rfl ?_
  simp -dsimp (disch := omega) [farG7, raG7, rbG7, rcG7, sG7, stG7, feG7, suG7, mxG7, lrG7, lqG7]
  refine faults_call (x := ⟨2105635, 9223372036855300096, 1, 1, false, false⟩) (pte := 536871118) (want := 1) (wb := true) (r := ⟨1, 0, 0, 0, 2147483648, 2147487752, 2147491856, 3⟩) (M := leafL 536871118 true) (d := ⟨2147491856, 536871118, true, true⟩) (okA (by omega) (by omega)) (by omega) (by rfl) rfl rfl rfl rfl ?_
  simp -dsimp (disch := omega) [farG7, raG7, rbG7, rcG7, sG7, stG7, feG7, suG7, mxG7, lrG7, lqG7]
  refine leafK_call (x := ⟨2105635, 9223372036855300096, 1, 1, true, false⟩) (pte := 536871135) (wb := true) (r := ⟨0, 2147483939, 0, 536871135, 2147483648, 2147487752, 2147491856, 3⟩) (M := leafL 536871135 true) (n := 0) (d := ⟨2147491856, 536871135, true, true⟩) (okA (by omega) (by omega)) (by omega) (by rfl) rfl (by omega) ?_
  simp -dsimp (disch := omega) [farG7, raG7, rbG7, rcG7, sG7, stG7, feG7, suG7, mxG7, lrG7, lqG7]
  refine ACallF.gen fun G8 hG => ?_
  try rw [← hG]
  have G8n : G8.next = G7.next + 1 := by rw [hG]; rfl
  have ldG8 : G8.blks G7.next = some ⟨#[.int .u8 0, .int .u64 2147483939, .int .i64 0, .int .u64 536871135, .int .u64 2147483648, .int .u64 2147487752, .int .u64 2147491856, .int .i64 3], 1, true⟩ := by rw [hG]; simp (disch := omega)
  have G8s : ∀ i, i < G7.next → G8.blks i = G7.blks i := fun i hi => by rw [hG]; simp (disch := omega)
  have farG8 : G8.blks h.next = _ := (G8s _ (by omega)).trans farG7
  have raG8 : G8.blks r1.next = _ := (G8s _ (by omega)).trans raG7
  have rbG8 : G8.blks r2.next = _ := (G8s _ (by omega)).trans rbG7
  have rcG8 : G8.blks r3.next = _ := (G8s _ (by omega)).trans rcG7
  have sG8 : G8.blks G4.next = _ := (G8s _ (by omega)).trans sG7
  have stG8 : G8.blks (G4.next + 1) = _ := (G8s _ (by omega)).trans stG7
  have feG8 : G8.blks (G4.next + 2) = _ := (G8s _ (by omega)).trans feG7
  have suG8 : G8.blks (G4.next + 3) = _ := (G8s _ (by omega)).trans suG7
  have mxG8 : G8.blks (G4.next + 4) = _ := (G8s _ (by omega)).trans mxG7
  have lrG8 : G8.blks G5.next = _ := (G8s _ (by omega)).trans lrG7
  have lqG8 : G8.blks G6.next = _ := (G8s _ (by omega)).trans lqG7
  clear hG
  refine leafK_call (x := ⟨2105635, 9223372036855300096, 1, 1, false, true⟩) (pte := 536871113) (wb := true) (r := ⟨0, 2147483939, 0, 536871113, 2147483648, 2147487752, 2147491856, 3⟩) (M := leafL 536871113 true) (n := 0) (d := ⟨2147491856, 536871113, true, true⟩) (okA (by omega) (by omega)) (by omega) (by rfl) rfl (by omega) ?_
  simp -dsimp (disch := omega) [farG8, raG8, rbG8, rcG8, sG8, stG8, feG8, suG8, mxG8, lrG8, lqG8, ldG8]
  refine ACallF.gen fun G9 hG => ?_
  try rw [← hG]
  have G9n : G9.next = G8.next + 1 := by rw [hG]; rfl
  have leG9 : G9.blks G8.next = some ⟨#[.int .u8 0, .int .u64 2147483939, .int .i64 0, .int .u64 536871113, .int .u64 2147483648, .int .u64 2147487752, .int .u64 2147491856, .int .i64 3], 1, true⟩ := by rw [hG]; simp (disch := omega)
  have G9s : ∀ i, i < G8.next → i ≠ (G4.next + 2) → G9.blks i = G8.blks i := fun i hi hi2 => by rw [hG]; simp (disch := omega)
  have farG9 : G9.blks h.next = _ := (G9s _ (by omega) (by omega)).trans farG8
  have raG9 : G9.blks r1.next = _ := (G9s _ (by omega) (by omega)).trans raG8
  have rbG9 : G9.blks r2.next = _ := (G9s _ (by omega) (by omega)).trans rbG8
  have rcG9 : G9.blks r3.next = _ := (G9s _ (by omega) (by omega)).trans rcG8
  have sG9 : G9.blks G4.next = _ := (G9s _ (by omega) (by omega)).trans sG8
  have stG9 : G9.blks (G4.next + 1) = _ := (G9s _ (by omega) (by omega)).trans stG8
  have feG9 : G9.blks (G4.next + 2) = some ⟨#[.int .u64 2105635, .int .u64 9223372036855300096, .int .u8 0, .int .u8 1, .bool true, .bool false], 1, true⟩ := by rw [hG]; simp (disch := omega)
  have suG9 : G9.blks (G4.next + 3) = _ := (G9s _ (by omega) (by omega)).trans suG8
  have mxG9 : G9.blks (G4.next + 4) = _ := (G9s _ (by omega) (by omega)).trans mxG8
  have lrG9 : G9.blks G5.next = _ := (G9s _ (by omega) (by omega)).trans lrG8
  have lqG9 : G9.blks G6.next = _ := (G9s _ (by omega) (by omega)).trans lqG8
  have ldG9 : G9.blks G7.next = _ := (G9s _ (by omega) (by omega)).trans ldG8
  have G9h : ∀ i, i < h.next → G9.blks i = h.blks i := fun i hi => by rw [G9s i (by omega) (by omega), G8s i (by omega), G7s i (by omega), G6s i (by omega), G5s i (by omega), G4s i (by omega), G3s i (by omega), G2s i (by omega), G1s i (by omega)]
  clear hG
  refine given_call fun p9 b9 E9a l9 u9 s9 => ?_
  have E9l := E9a.le
  have s9' : p9.blks b9 = some ⟨#[.int .u64 2147483648, .int .u64 536871937, .bool true, .bool true, .int .u64 2147487752, .int .u64 536872961, .bool true, .bool true, .int .u64 2147491856, .int .u64 536871119, .bool true, .bool true], 4, true⟩ := by rw [s9]; rfl
  simp -dsimp (disch := omega) [s9']
  refine ACallF.gen fun B9 hB => ?_
  try rw [← hB]
  have B9n : B9.next = p9.next := by rw [hB]; rfl
  have B9b : B9.blks b9 = some ⟨(wdsC (bigL 536871119)).toArray, 4, true⟩ := by rw [hB, blks_set_eq]; rfl
  have B9s : ∀ i, i < p9.next → i ≠ b9 → B9.blks i = p9.blks i := fun i hi hi2 => by rw [hB, blks_set_ne _ _ _ _ (by omega)]
  clear hB
  refine of_call (l := bigL 536871119) ⟨rfl, .inr ⟨_, _, _, rfl, B9b, by simp [wdsC_length, bigL], fun i hi => by simp⟩⟩ (fun b e => by simp [sblk] at e; omega) (by simp [bigL]) (big_ok (by omega)) fun q9 mp v2 E9b q2 => ?_
  have E9m := E9b.le
  simp -dsimp (disch := omega)
  refine ask_call (va := 2105635) (mode := 1) ?_
  simp -dsimp (disch := omega)
  refine walk_new q2 (by simp [bigL]) (by decide) (ask_ok (by decide) (by decide)) fun r9 q3 n9 s3 => ?_
  rw [show (walkF (bigL 536871119) (askN 2105635 1)).1 = ⟨0, 2147492131, 1, 536871119, 2147483648, 2147487752, 0, 2⟩ from rfl]
  have r9b : r9.blks b9 = _ := ((s3 _ (by omega)).trans (E9b.same _ (by omega))).trans B9b
  have r9s : ∀ i, i < p9.next → i ≠ b9 → r9.blks i = p9.blks i := fun i hi hi2 => by rw [s3 i (by omega), E9b.same i (by omega), B9s i hi hi2]
  clear q2 q3
  have r9b' : r9.blks b9 = some ⟨#[.int .u64 2147483648, .int .u64 536871937, .bool true, .bool true, .int .u64 2147487752, .int .u64 536871119, .bool true, .bool true, .int .u64 2147491856, .int .u64 536871119, .bool true, .bool true], 4, true⟩ := by rw [r9b]; rfl
  simp -dsimp (disch := omega) [r9b']
  refine ACallF.gen fun B10 hB => ?_
  try rw [← hB]
  have B10n : B10.next = r9.next + 1 := by rw [hB]; rfl
  have B10r : B10.blks r9.next = some ⟨#[.int .u8 0, .int .u64 2147492131, .int .i64 1, .int .u64 536871119, .int .u64 2147483648, .int .u64 2147487752, .int .u64 0, .int .i64 2], 1, true⟩ := by rw [hB]; simp (disch := omega)
  have B10b : B10.blks b9 = some ⟨(wdsC (bigL 536872143)).toArray, 4, true⟩ := by rw [hB, blks_alloc_ne _ _ _ (by simp; omega), blks_set_eq]; rfl
  have B10s : ∀ i, i < p9.next → i ≠ b9 → B10.blks i = p9.blks i := fun i hi hi2 => by rw [hB, blks_alloc_ne _ _ _ (by simp; omega), blks_set_ne _ _ _ _ (by omega), r9s i hi hi2]
  clear hB
  refine of_call (l := bigL 536872143) ⟨rfl, .inr ⟨_, _, _, rfl, B10b, by simp [wdsC_length, bigL], fun i hi => by simp⟩⟩ (fun b e => by simp [sblk] at e; omega) (by simp [bigL]) (big_ok (by omega)) fun q10 mp v2 E10b q2 => ?_
  have E10m := E10b.le
  simp -dsimp (disch := omega)
  refine ask_call (va := 2105635) (mode := 1) ?_
  simp -dsimp (disch := omega)
  refine walk_new q2 (by simp [bigL]) (by decide) (ask_ok (by decide) (by decide)) fun r10 q3 n10 s3 => ?_
  rw [show (walkF (bigL 536872143) (askN 2105635 1)).1 = ⟨1, 0, 0, 0, 2147483648, 2147487752, 0, 2⟩ from rfl]
  obtain ⟨Z, hZ⟩ : ∃ Z, Z = r10.alloc ⟨#[.int .u8 1, .int .u64 0, .int .i64 0, .int .u64 0, .int .u64 2147483648, .int .u64 2147487752, .int .u64 0, .int .i64 2], 1, true⟩ := ⟨_, rfl⟩
  have Zn : Z.next = r10.next + 1 := by rw [hZ]; rfl
  have Zg : Z.blks r10.next = some ⟨#[.int .u8 1, .int .u64 0, .int .i64 0, .int .u64 0, .int .u64 2147483648, .int .u64 2147487752, .int .u64 0, .int .i64 2], 1, true⟩ := by rw [hZ]; exact blks_alloc_eq _ _
  have Zs0 : ∀ i, i < B10.next → Z.blks i = B10.blks i := fun i hi => by rw [hZ, blks_alloc_ne _ _ _ (by omega), s3 i (by omega), E10b.same i (by omega)]
  have Zf : Z.blks r9.next = _ := (Zs0 _ (by omega)).trans B10r
  have Zs : ∀ i, i < G9.next → Z.blks i = G9.blks i := fun i hi => by rw [Zs0 i (by omega), B10s i (by omega) (by omega), E9a.same i (by omega)]
  have farZ : Z.blks h.next = _ := (Zs _ (by omega)).trans farG9
  have raZ : Z.blks r1.next = _ := (Zs _ (by omega)).trans raG9
  have rbZ : Z.blks r2.next = _ := (Zs _ (by omega)).trans rbG9
  have rcZ : Z.blks r3.next = _ := (Zs _ (by omega)).trans rcG9
  have sZ : Z.blks G4.next = _ := (Zs _ (by omega)).trans sG9
  have stZ : Z.blks (G4.next + 1) = _ := (Zs _ (by omega)).trans stG9
  have feZ : Z.blks (G4.next + 2) = _ := (Zs _ (by omega)).trans feG9
  have suZ : Z.blks (G4.next + 3) = _ := (Zs _ (by omega)).trans suG9
  have mxZ : Z.blks (G4.next + 4) = _ := (Zs _ (by omega)).trans mxG9
  have lrZ : Z.blks G5.next = _ := (Zs _ (by omega)).trans lrG9
  have lqZ : Z.blks G6.next = _ := (Zs _ (by omega)).trans lqG9
  have ldZ : Z.blks G7.next = _ := (Zs _ (by omega)).trans ldG9
  have leZ : Z.blks G8.next = _ := (Zs _ (by omega)).trans leG9
  clear q2 q3 r9b r9b' B10b
  simp -dsimp (disch := omega) [← hZ, farZ, raZ, rbZ, rcZ, sZ, stZ, feZ, suZ, mxZ, lrZ, lqZ, ldZ, leZ, Zg, Zf]
  refine faults_call (x := ⟨2105635, 9223372036855300096, 0, 1, true, false⟩) (pte := 536871135) (want := 1) (wb := true) (r := ⟨1, 0, 0, 0, 2147483648, 2147487752, 2147491856, 3⟩) (M := leafL 536871135 true) (d := ⟨2147491856, 536871135, true, true⟩) (okA (by omega) (by omega)) (by omega) (by rfl) rfl rfl rfl rfl ?_
  simp -dsimp (disch := omega) [farZ, raZ, rbZ, rcZ, sZ, stZ, feZ, suZ, mxZ, lrZ, lqZ, ldZ, leZ, Zg, Zf]
  refine walkNil_call ?_
  unfold failR
  simp -dsimp (disch := omega) [farZ, raZ, rbZ, rcZ, sZ, stZ, feZ, suZ, mxZ, lrZ, lqZ, ldZ, leZ, Zg, Zf]
  refine allowed_call (e := 207) (x := ⟨0, 0, 3, 1, false, false⟩) (by omega) ⟨by show 0 < _; omega, by show 0 < _; omega, by show 3 < _; omega, by show 1 < _; omega⟩ ?_
  rw [show allowedB 207 ⟨0, 0, 3, 1, false, false⟩ = false from rfl]
  simp -dsimp (disch := omega) [farZ, raZ, rbZ, rcZ, sZ, stZ, feZ, suZ, mxZ, lrZ, lqZ, ldZ, leZ, Zg, Zf]
  refine awake_call ?_
  simp -dsimp (disch := omega) [farZ, raZ, rbZ, rcZ, sZ, stZ, feZ, suZ, mxZ, lrZ, lqZ, ldZ, leZ, Zg, Zf]
  exact RetF.same (r := .bool true) hwf (by simp) (Nat.zero_le _) (fun i hi => by rw [Zs i (by omega), G9h i hi]) hK
end
end Go.Proofs.Ytkddajmfljlhiaa
