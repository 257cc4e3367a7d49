/-
  ConfigKnown: the walk, the texts.
-/
import Derived.Test.YtmnemfeofhinaaaDoorK3
import Derived.Test.YtmnemfeofhinaaaDoorP5
set_option linter.unusedSimpArgs false
set_option linter.unusedVariables false
set_option linter.unusedSectionVars false
namespace Go.Proofs.YtmnemfeofhinaaaDoor
set_option maxRecDepth 100000
open Go Go.Mini Go.Proofs.Tryd

theorem lapp_cons {α : Type} (a : α) (l m : List α) : (a :: l).append m = a :: l.append m := rfl
theorem lapp_nil {α : Type} (m : List α) : ([] : List α).append m = m := rfl
theorem aops_app {P : Program} {L M l' : List Oper} {K : Tm → Hp → Prop} {t : Tm} {h : Hp} {u : Tag ((L.append M).toArray, L.append M, K, t, h)} (hl : L.append M = l') (H : aopsF P l'.toArray l' K t h (.mk _)) : aopsF P (L.append M).toArray (L.append M) K t h u := by
  subst hl
  exact H
section
variable {h : Hp} {K : Value → Hp → Prop}
set_option maxHeartbeats 16000000 in
theorem configKnown_call (hE : HasErr h) (h100 : 100 < h.next) (hK : ∀ h', K (.bool true) h') : ACall prog 7 [] h K := by
  refine acallF_of tb0 func7 rfl rfl mixed (by kernel_rfl) fun hwf => ?_
  obtain ⟨RR, hR1⟩ : ∃ RR, RR = (sndC (sndC (sndC (sndC (bodyC f7))))) := ⟨_, rfl⟩
  have hR2 := hR1
  conv at hR2 => rhs; whnf
  rw [← hR2]
  clear hR2
  simp -dsimp (disch := omega)
  refine given_call fun h1 x1 n1 b1 b2 => ?_
  simp -dsimp (disch := omega)
  refine build_call (given_cfv b1 b2) fun h2 v x2 he => ?_
  rw [show List.map (·.1) ([] : List (Ch × Value)) = [] from rfl, chk_given] at he
  obtain rfl : v = .nilIface := he
  rw [show List.map (·.1) ([] : List (Ch × Value)) = [] from rfl, bld_given]
  have E2 := x1.trans x2
  simp -dsimp (disch := omega)
  refine aops_app (by simp only [lapp_cons, lapp_nil]; rfl) ?_
  simp -dsimp (disch := omega)
  refine awake_call (hE.ext E2 h100) (Nat.lt_of_lt_of_le h100 E2.le) ?_
  have hsz : (txt gB).size = 37 := rfl
  have hl : gB.length = 37 := rfl
  have e11 : (txt gB).extract 0 11 = txt [65, 76, 67, 49, 1, 1, 5, 0, 0, 0, 2] := by kernel_rfl
  have e5 : (txt gB).extract 28 33 = txt [1, 0, 3, 0, 0] := by kernel_rfl
  have e36 : (txt gB).extract 0 36 = txt (gB.take 36) := ext_take
  have e20 : (txt gB).extract 0 20 = txt (gB.take 20) := ext_take
  have e28 : (txt gB).extract 0 28 = txt (gB.take 28) := ext_take
  have e30 : (txt gB).extract 0 30 = txt (gB.take 30) := ext_take
  have e32 : (txt gB).extract 0 32 = txt (gB.take 32) := ext_take
  simp -dsimp (disch := first | omega | (simp only [txt_size, List.length_cons, List.length_nil, List.length_append, List.length_take, hl]; omega)) [hsz, e11, e5, e36, e20, e28, e30, e32, hl]
  refine parses_call (S := gB.take 36) (by decide) fun h3 v3 x3 he3 => ?_
  rw [pr_bad d36] at he3
  have E3 := E2.trans x3
  simp -dsimp (disch := first | omega | (simp only [txt_size, List.length_cons, List.length_nil, List.length_append, List.length_take, hl]; omega)) [hsz, e11, e5, e36, e20, e28, e30, e32, hl]
  refine faults_call (f := sSum) (a := 0) (n := 4) he3 (hE.ext E3 h100) (Nat.lt_of_lt_of_le h100 E3.le) ?_
  simp -dsimp (disch := first | omega | (simp only [txt_size, List.length_cons, List.length_nil, List.length_append, List.length_take, hl]; omega)) [hsz, e11, e5, e36, e20, e28, e30, e32, hl]
  refine parses_call (S := gB ++ [120]) (by decide) fun h4 v4 x4 he4 => ?_
  rw [pr_bad dx] at he4
  have E4 := E3.trans x4
  simp -dsimp (disch := first | omega | (simp only [txt_size, List.length_cons, List.length_nil, List.length_append, List.length_take, hl]; omega)) [hsz, e11, e5, e36, e20, e28, e30, e32, hl]
  refine faults_call (f := sEnd) (a := 0) (n := 5) he4 (hE.ext E4 h100) (Nat.lt_of_lt_of_le h100 E4.le) ?_
  simp -dsimp (disch := first | omega | (simp only [txt_size, List.length_cons, List.length_nil, List.length_append, List.length_take, hl]; omega)) [hsz, e11, e5, e36, e20, e28, e30, e32, hl]
  refine parses_call (S := [65, 76, 67]) (by decide) fun h5 v5 x5 he5 => ?_
  rw [pr_bad d3] at he5
  have E5 := E4.trans x5
  simp -dsimp (disch := first | omega | (simp only [txt_size, List.length_cons, List.length_nil, List.length_append, List.length_take, hl]; omega)) [hsz, e11, e5, e36, e20, e28, e30, e32, hl]
  refine faults_call (f := sMagic) (a := 0) (n := 4) he5 (hE.ext E5 h100) (Nat.lt_of_lt_of_le h100 E5.le) ?_
  simp -dsimp (disch := first | omega | (simp only [txt_size, List.length_cons, List.length_nil, List.length_append, List.length_take, hl]; omega)) [hsz, e11, e5, e36, e20, e28, e30, e32, hl]
  refine parses_call (S := [65, 76, 67, 50]) (by decide) fun h6 v6 x6 he6 => ?_
  rw [pr_bad dm] at he6
  have E6 := E5.trans x6
  simp -dsimp (disch := first | omega | (simp only [txt_size, List.length_cons, List.length_nil, List.length_append, List.length_take, hl]; omega)) [hsz, e11, e5, e36, e20, e28, e30, e32, hl]
  refine faults_call (f := sMagic) (a := 0) (n := 3) he6 (hE.ext E6 h100) (Nat.lt_of_lt_of_le h100 E6.le) ?_
  simp -dsimp (disch := first | omega | (simp only [txt_size, List.length_cons, List.length_nil, List.length_append, List.length_take, hl]; omega)) [hsz, e11, e5, e36, e20, e28, e30, e32, hl]
  refine parses_call (S := gB.take 20) (by decide) fun h7 v7 x7 he7 => ?_
  rw [pr_bad d20] at he7
  have E7 := E6.trans x7
  simp -dsimp (disch := first | omega | (simp only [txt_size, List.length_cons, List.length_nil, List.length_append, List.length_take, hl]; omega)) [hsz, e11, e5, e36, e20, e28, e30, e32, hl]
  refine faults_call (f := sGuest) (a := 0) (n := 4) he7 (hE.ext E7 h100) (Nat.lt_of_lt_of_le h100 E7.le) ?_
  simp -dsimp (disch := first | omega | (simp only [txt_size, List.length_cons, List.length_nil, List.length_append, List.length_take, hl]; omega)) [hsz, e11, e5, e36, e20, e28, e30, e32, hl]
  refine parses_call (S := gB.take 28) (by decide) fun h8 v8 x8 he8 => ?_
  rw [pr_bad d28] at he8
  have E8 := E7.trans x8
  simp -dsimp (disch := first | omega | (simp only [txt_size, List.length_cons, List.length_nil, List.length_append, List.length_take, hl]; omega)) [hsz, e11, e5, e36, e20, e28, e30, e32, hl]
  refine faults_call (f := sWindows) (a := 0) (n := 4) he8 (hE.ext E8 h100) (Nat.lt_of_lt_of_le h100 E8.le) ?_
  simp -dsimp (disch := first | omega | (simp only [txt_size, List.length_cons, List.length_nil, List.length_append, List.length_take, hl]; omega)) [hsz, e11, e5, e36, e20, e28, e30, e32, hl]
  refine parses_call (S := gB.take 30) (by decide) fun h9 v9 x9 he9 => ?_
  rw [pr_bad d30] at he9
  have E9 := E8.trans x9
  simp -dsimp (disch := first | omega | (simp only [txt_size, List.length_cons, List.length_nil, List.length_append, List.length_take, hl]; omega)) [hsz, e11, e5, e36, e20, e28, e30, e32, hl]
  refine faults_call (f := sWindow) (a := 0) (n := 4) he9 (hE.ext E9 h100) (Nat.lt_of_lt_of_le h100 E9.le) ?_
  simp -dsimp (disch := first | omega | (simp only [txt_size, List.length_cons, List.length_nil, List.length_append, List.length_take, hl]; omega)) [hsz, e11, e5, e36, e20, e28, e30, e32, hl]
  refine parses_call (S := gB.take 32) (by decide) fun h10 v10 x10 he10 => ?_
  rw [pr_bad d32] at he10
  have E10 := E9.trans x10
  simp -dsimp (disch := first | omega | (simp only [txt_size, List.length_cons, List.length_nil, List.length_append, List.length_take, hl]; omega)) [hsz, e11, e5, e36, e20, e28, e30, e32, hl]
  refine faults_call (f := sChannels) (a := 0) (n := 4) he10 (hE.ext E10 h100) (Nat.lt_of_lt_of_le h100 E10.le) ?_
  simp -dsimp (disch := first | omega | (simp only [txt_size, List.length_cons, List.length_nil, List.length_append, List.length_take, hl]; omega)) [hsz, e11, e5, e36, e20, e28, e30, e32, hl]
  refine parses_call (S := gB.take 32 ++ [1, 0]) (by decide) fun h11 v11 x11 he11 => ?_
  rw [pr_bad d34] at he11
  have E11 := E10.trans x11
  simp -dsimp (disch := first | omega | (simp only [txt_size, List.length_cons, List.length_nil, List.length_append, List.length_take, hl]; omega)) [hsz, e11, e5, e36, e20, e28, e30, e32, hl]
  refine faults_call (f := sChannel) (a := 0) (n := 4) he11 (hE.ext E11 h100) (Nat.lt_of_lt_of_le h100 E11.le) ?_
  simp -dsimp (disch := first | omega | (simp only [txt_size, List.length_cons, List.length_nil, List.length_append, List.length_take, hl]; omega)) [hsz, e11, e5, e36, e20, e28, e30, e32, hl]
  refine parses_call (S := gB.take 32 ++ [0, 0, 0, 0, 0]) (by decide) fun h12 v12 x12 he12 => ?_
  rw [pr_bad d37] at he12
  have E12 := E11.trans x12
  simp -dsimp (disch := first | omega | (simp only [txt_size, List.length_cons, List.length_nil, List.length_append, List.length_take, hl]; omega)) [hsz, e11, e5, e36, e20, e28, e30, e32, hl]
  refine faults_call (f := sSum) (a := 0) (n := 7) he12 (hE.ext E12 h100) (Nat.lt_of_lt_of_le h100 E12.le) ?_
  simp -dsimp (disch := first | omega | (simp only [txt_size, List.length_cons, List.length_nil, List.length_append, List.length_take, hl]; omega)) [hsz, e11, e5, e36, e20, e28, e30, e32, hl]
  refine given_call fun h13 x13 n13 p13 q13 => ?_
  rw [gCells_eq] at p13
  simp -dsimp (disch := omega)
  refine given_call fun h14 x14 n14 p14 q14 => ?_
  rw [gCells_eq] at p14
  simp -dsimp (disch := omega)
  refine given_call fun h15 x15 n15 p15 q15 => ?_
  rw [gCells_eq] at p15
  simp -dsimp (disch := omega)
  refine given_call fun h16 x16 n16 p16 q16 => ?_
  rw [gCells_eq] at p16
  simp -dsimp (disch := omega)
  refine given_call fun h17 x17 n17 p17 q17 => ?_
  rw [gCells_eq] at p17
  simp -dsimp (disch := omega)
  rw [hR1]
  have u13 := ((((x14.trans x15).trans x16).trans x17).same _ (by omega)).trans p13
  have u14 := (((x15.trans x16).trans x17).same _ (by omega)).trans p14
  have u15 := ((x16.trans x17).same _ (by omega)).trans p15
  have u16 := (x17.same _ (by omega)).trans p16
  have w13 := ((((x14.trans x15).trans x16).trans x17).same _ (by omega)).trans q13
  have w14 := (((x15.trans x16).trans x17).same _ (by omega)).trans q14
  have w15 := ((x16.trans x17).same _ (by omega)).trans q15
  have w16 := (x17.same _ (by omega)).trans q16
  obtain ⟨N, hN⟩ : ∃ N, N = h12.next := ⟨_, rfl⟩
  have E17 := ((((E12.trans x13).trans x14).trans x15).trans x16).trans x17
  have E12n := E12.le
  refine known_tail (N := N) (((((E17.then_alloc _).then_alloc _).then_alloc _).then_alloc _).then_alloc _) hE h100 (by omega) (by simp; omega) (fun i hi => ?_) (fun i hi => ?_) (fun i hi => ?_) (by simp -dsimp (disch := omega)) (by simp -dsimp (disch := omega)) (by simp -dsimp (disch := omega)) (by simp -dsimp (disch := omega)) (by simp -dsimp (disch := omega)) hK
  · have h5 : i = 0 ∨ i = 1 ∨ i = 2 ∨ i = 3 ∨ i = 4 := by omega
    rcases h5 with rfl | rfl | rfl | rfl | rfl
    · rw [show N + 3 * 0 + 1 = h12.next + 1 by omega]; simp (disch := omega) [u13]
    · rw [show N + 3 * 1 + 1 = h13.next + 1 by omega]; simp (disch := omega) [u14]
    · rw [show N + 3 * 2 + 1 = h14.next + 1 by omega]; simp (disch := omega) [u15]
    · rw [show N + 3 * 3 + 1 = h15.next + 1 by omega]; simp (disch := omega) [u16]
    · rw [show N + 3 * 4 + 1 = h16.next + 1 by omega]; simp (disch := omega) [p17]
  · have h5 : i = 0 ∨ i = 1 ∨ i = 2 ∨ i = 3 ∨ i = 4 := by omega
    rcases h5 with rfl | rfl | rfl | rfl | rfl
    · rw [show N + 3 * 0 + 2 = h12.next + 2 by omega]; simp (disch := omega) [w13]
    · rw [show N + 3 * 1 + 2 = h13.next + 2 by omega]; simp (disch := omega) [w14]
    · rw [show N + 3 * 2 + 2 = h14.next + 2 by omega]; simp (disch := omega) [w15]
    · rw [show N + 3 * 3 + 2 = h15.next + 2 by omega]; simp (disch := omega) [w16]
    · rw [show N + 3 * 4 + 2 = h16.next + 2 by omega]; simp (disch := omega) [q17]
  · have h5 : i = 0 ∨ i = 1 ∨ i = 2 ∨ i = 3 ∨ i = 4 := by omega
    unfold cfgAt
    rcases h5 with rfl | rfl | rfl | rfl | rfl
    · rw [show N + 15 + 0 = h17.next by omega, show N + 3 * 0 + 1 = h12.next + 1 by omega, show N + 3 * 0 + 2 = h12.next + 2 by omega]; simp (disch := omega)
    · rw [show N + 15 + 1 = h17.next + 1 by omega, show N + 3 * 1 + 1 = h13.next + 1 by omega, show N + 3 * 1 + 2 = h13.next + 2 by omega]; simp (disch := omega)
    · rw [show N + 15 + 2 = h17.next + 2 by omega, show N + 3 * 2 + 1 = h14.next + 1 by omega, show N + 3 * 2 + 2 = h14.next + 2 by omega]; simp (disch := omega)
    · rw [show N + 15 + 3 = h17.next + 3 by omega, show N + 3 * 3 + 1 = h15.next + 1 by omega, show N + 3 * 3 + 2 = h15.next + 2 by omega]; simp (disch := omega)
    · rw [show N + 15 + 4 = h17.next + 4 by omega, show N + 3 * 4 + 1 = h16.next + 1 by omega, show N + 3 * 4 + 2 = h16.next + 2 by omega]; simp (disch := omega)
end
end Go.Proofs.YtmnemfeofhinaaaDoor
