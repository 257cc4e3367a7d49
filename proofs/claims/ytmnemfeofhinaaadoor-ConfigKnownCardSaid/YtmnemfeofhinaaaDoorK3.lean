/-
  ConfigKnown: the walk, the configurations.
-/
import Derived.Test.YtmnemfeofhinaaaDoorK1
set_option linter.unusedSimpArgs false
set_option linter.unusedVariables false
set_option linter.unusedSectionVars false
namespace Go.Proofs.YtmnemfeofhinaaaDoor
set_option maxRecDepth 100000
open Go Go.Mini Go.Proofs.Tryd

/-- A configuration of a guest, a window and no channels, as it lies. -/
theorem cfv_at {h : Hp} {p q : Nat} {g : Gu} {w : Win} (hp : h.blks p = some ⟨(guC g).toArray, 20, true⟩) (hq : h.blks q = some ⟨(winC w).toArray, 2, true⟩) (hg : g.ok) (hw : w.ok) : CfV h [g] [w] [] (.slice (some ⟨p, 0, none⟩) 1 2) (.slice (some ⟨q, 0, none⟩) 1 2) (.slice none 0 0) := by
  have hl := Gu.len hg
  refine ⟨⟨by simp [guesC, hl], .inr ⟨_, _, _, rfl, hp, by simp [hl], fun j hj => by simp [guesC]⟩⟩, ⟨rfl, .inr ⟨_, _, _, rfl, hq, by simp [winC], fun j hj => by simp [winsC]⟩⟩, ⟨⟨rfl, .inl ⟨_, _, rfl, rfl⟩⟩, fun x hx => by cases hx⟩, ?_, ?_, by simp, by simp, by simp⟩
  · intro x hx
    rw [List.mem_singleton] at hx
    subst hx
    exact hg
  · intro x hx
    rw [List.mem_singleton] at hx
    subst hx
    exact hw
theorem okA : gGa.ok := ⟨by decide, by decide, by decide, by decide, by decide⟩
theorem okB : gGb.ok := ⟨by decide, by decide, by decide, by decide, by decide⟩
theorem okU : gGu.ok := ⟨by decide, by decide, by decide, by decide, by decide⟩
theorem okW : gWi.ok := ⟨by decide, by decide⟩
section
variable {h0 hh : Hp} {K : Value → Hp → Prop} {t : Tm} {N : Nat}
def gCells : Array Value := #[.int .u8 1, .int .u32 5, .int .u8 2, .int .u8 0, .int .u8 0, .int .u8 0, .int .u8 0, .int .u8 0, .int .u8 0, .int .u8 0, .int .u8 0, .int .u8 0, .int .u8 0, .int .u8 0, .int .u8 0, .int .u8 0, .int .u8 0, .int .u8 0, .int .u8 0, .int .u8 0]
theorem gCells_eq : (guC gGu).toArray = gCells := rfl
def cfgAt (a b : Nat) : Blk := ⟨#[.slice (some ⟨a, 0, none⟩) 1 2, .slice (some ⟨b, 0, none⟩) 1 2, .slice none 0 0], 1, true⟩
theorem acallF_gen {P : Program} {f : FuncId} {args : List Value} {h : Hp} {K : Value → Hp → Prop} {u : Tag K} (H : ∀ G, G = h → ACallF P f args G K u) : ACallF P f args h K u := H h rfl
set_option maxHeartbeats 16000000 in
theorem known_tail (E : Ext h0 hh) (hE : HasErr h0) (h100 : 100 < h0.next) (hN : h0.next ≤ N) (hn : hh.next = N + 20)
    (P : ∀ i, i < 5 → hh.blks (N + 3 * i + 1) = some ⟨gCells, 20, true⟩) (Q : ∀ i, i < 5 → hh.blks (N + 3 * i + 2) = some ⟨#[.int .u8 0, .int .u16 3], 2, true⟩) (C : ∀ i, i < 5 → hh.blks (N + 15 + i) = some (cfgAt (N + 3 * i + 1) (N + 3 * i + 2)))
    (t3 : t 3 = ptr (N + 15)) (t4 : t 4 = ptr (N + 16)) (t5 : t 5 = ptr (N + 17)) (t6 : t 6 = ptr (N + 18)) (t7 : t 7 = ptr (N + 19)) (hK : ∀ h', K (.bool true) h') :
    vcF prog f7.ntmps tb0 (sndC (sndC (sndC (sndC (bodyC f7))))) (FnQ prog f7.results.toList h0 K) t hh (.mk _) := by
  have e0 : (sndC (sndC (sndC (sndC (bodyC f7))))) = (sndC (sndC (sndC (sndC (bodyC f7))))) := rfl
  conv at e0 => rhs; whnf
  rw [e0]
  clear e0
  have P0 : hh.blks (N + 1) = some ⟨gCells, 20, true⟩ := P 0 (by omega)
  have P1 : hh.blks (N + 4) = some ⟨gCells, 20, true⟩ := P 1 (by omega)
  have P2 : hh.blks (N + 7) = some ⟨gCells, 20, true⟩ := P 2 (by omega)
  have P3 : hh.blks (N + 10) = some ⟨gCells, 20, true⟩ := P 3 (by omega)
  have P4 : hh.blks (N + 13) = some ⟨gCells, 20, true⟩ := P 4 (by omega)
  have Q0 : hh.blks (N + 2) = some ⟨#[.int .u8 0, .int .u16 3], 2, true⟩ := Q 0 (by omega)
  have Q1 : hh.blks (N + 5) = some ⟨#[.int .u8 0, .int .u16 3], 2, true⟩ := Q 1 (by omega)
  have Q2 : hh.blks (N + 8) = some ⟨#[.int .u8 0, .int .u16 3], 2, true⟩ := Q 2 (by omega)
  have Q3 : hh.blks (N + 11) = some ⟨#[.int .u8 0, .int .u16 3], 2, true⟩ := Q 3 (by omega)
  have Q4 : hh.blks (N + 14) = some ⟨#[.int .u8 0, .int .u16 3], 2, true⟩ := Q 4 (by omega)
  have C0 : hh.blks (N + 15) = some ⟨#[.slice (some ⟨N + 1, 0, none⟩) 1 2, .slice (some ⟨N + 2, 0, none⟩) 1 2, .slice none 0 0], 1, true⟩ := C 0 (by omega)
  have C1 : hh.blks (N + 16) = some ⟨#[.slice (some ⟨N + 4, 0, none⟩) 1 2, .slice (some ⟨N + 5, 0, none⟩) 1 2, .slice none 0 0], 1, true⟩ := C 1 (by omega)
  have C2 : hh.blks (N + 17) = some ⟨#[.slice (some ⟨N + 7, 0, none⟩) 1 2, .slice (some ⟨N + 8, 0, none⟩) 1 2, .slice none 0 0], 1, true⟩ := C 2 (by omega)
  have C3 : hh.blks (N + 18) = some ⟨#[.slice (some ⟨N + 10, 0, none⟩) 1 2, .slice (some ⟨N + 11, 0, none⟩) 1 2, .slice none 0 0], 1, true⟩ := C 3 (by omega)
  have C4 : hh.blks (N + 19) = some ⟨#[.slice (some ⟨N + 13, 0, none⟩) 1 2, .slice (some ⟨N + 14, 0, none⟩) 1 2, .slice none 0 0], 1, true⟩ := C 4 (by omega)
  simp -dsimp (disch := omega) [t3, t4, t5, t6, t7, P0, P1, C0, C1, C2, C3, C4, gCells]
  rw [hn]
  refine acallF_gen fun G hG => ?_
  have GN : G.next = N + 23 := by rw [hG]; simp [hn]
  have Gs : ∀ j, j < N → G.blks j = hh.blks j := fun j hj => by rw [hG]; simp (disch := omega) [hn]
  have EG : Ext h0 G := ⟨by omega, fun j hj => (Gs j (by omega)).trans (E.same j hj)⟩
  have A1 : G.blks (N + 1) = some ⟨(guC gGa).toArray, 20, true⟩ := by rw [hG]; simp (disch := omega) [hn]; rfl
  have A2 : G.blks (N + 2) = some ⟨(winC gWi).toArray, 2, true⟩ := by rw [hG]; simp (disch := omega) [hn, Q0]; rfl
  have B1 : G.blks (N + 4) = some ⟨(guC gGb).toArray, 20, true⟩ := by rw [hG]; simp (disch := omega) [hn]; rfl
  have B2 : G.blks (N + 5) = some ⟨(winC gWi).toArray, 2, true⟩ := by rw [hG]; simp (disch := omega) [hn, Q1]; rfl
  have D1 : G.blks (N + 7) = some ⟨(guC gGu).toArray, 20, true⟩ := by rw [hG]; simp (disch := omega) [hn, P2]; rfl
  have F1 : G.blks (N + 10) = some ⟨(guC gGu).toArray, 20, true⟩ := by rw [hG]; simp (disch := omega) [hn, P3]; rfl
  have F2 : G.blks (N + 11) = some ⟨(winC gWi).toArray, 2, true⟩ := by rw [hG]; simp (disch := omega) [hn, Q3]; rfl
  have F3 : G.blks (N + 20) = some ⟨#[.int .u8 1, .int .u8 0], 2, true⟩ := by rw [hG]; simp (disch := omega) [hn]
  have F4 : G.blks (N + 21) = some ⟨(chC gCh (.slice (some ⟨N + 20, 0, none⟩) 1 2)).toArray, 7, true⟩ := by rw [hG]; simp (disch := omega) [hn]; rfl
  have H2 : G.blks (N + 14) = some ⟨(winC gWi).toArray, 2, true⟩ := by rw [hG]; simp (disch := omega) [hn, Q4]; rfl
  have X : G.blks (N + 22) = some (faultB (txt [103, 117, 101, 115, 116]) 3 6) := by rw [hG]; simp (disch := omega) [hn]; rfl
  have K1 : G.blks (N + 16) = some ⟨#[.slice (some ⟨N + 4, 0, none⟩) 1 2, .slice (some ⟨N + 5, 0, none⟩) 1 2, .slice none 0 0], 1, true⟩ := by rw [hG]; simp (disch := omega) [hn, C1]
  have K2 : G.blks (N + 17) = some ⟨#[.slice (some ⟨N + 7, 0, none⟩) 1 2, .slice none 0 0, .slice none 0 0], 1, true⟩ := by rw [hG]; simp (disch := omega) [hn]
  have K3 : G.blks (N + 18) = some ⟨#[.slice (some ⟨N + 10, 0, none⟩) 1 2, .slice (some ⟨N + 11, 0, none⟩) 1 2, .slice (some ⟨N + 21, 0, none⟩) 1 2], 1, true⟩ := by rw [hG]; simp (disch := omega) [hn]
  have K4 : G.blks (N + 19) = some ⟨#[.slice none 0 0, .slice (some ⟨N + 14, 0, none⟩) 1 2, .slice none 0 0], 1, true⟩ := by rw [hG]; simp (disch := omega) [hn]
  clear hG
  have okC : gCh.ok := ⟨by decide, by decide, by decide, by decide, by decide, by decide, by decide, by decide⟩
  have ca : CfT G [gGa] [gWi] [] (.slice (some ⟨N + 1, 0, none⟩) 1 2) (.slice (some ⟨N + 2, 0, none⟩) 1 2) (.slice none 0 0) := ⟨cfv_at A1 A2 okA okW, fun b hb => by simp [sblk] at hb; omega, fun b hb => by simp [sblk] at hb; omega, (fun b hb => by cases hb), fun x hx => by cases hx⟩
  have cb : CfT G [gGb] [gWi] [] (.slice (some ⟨N + 4, 0, none⟩) 1 2) (.slice (some ⟨N + 5, 0, none⟩) 1 2) (.slice none 0 0) := ⟨cfv_at B1 B2 okB okW, fun b hb => by simp [sblk] at hb; omega, fun b hb => by simp [sblk] at hb; omega, (fun b hb => by cases hb), fun x hx => by cases hx⟩
  have c0 := cfv_at D1 A2 okU okW
  have cc : CfT G [gGu] [] [] (.slice (some ⟨N + 7, 0, none⟩) 1 2) (.slice none 0 0) (.slice none 0 0) := ⟨⟨c0.g, ⟨rfl, .inl ⟨_, _, rfl, rfl⟩⟩, c0.c, c0.gok, (fun w hw => by cases hw), by simp, by simp, by simp⟩, fun b hb => by simp [sblk] at hb; omega, (fun b hb => by cases hb), (fun b hb => by cases hb), fun x hx => by cases hx⟩
  have c1 := cfv_at F1 F2 okU okW
  have cd : CfT G [gGu] [gWi] [(gCh, .slice (some ⟨N + 20, 0, none⟩) 1 2)] (.slice (some ⟨N + 10, 0, none⟩) 1 2) (.slice (some ⟨N + 11, 0, none⟩) 1 2) (.slice (some ⟨N + 21, 0, none⟩) 1 2) := by
    refine ⟨⟨c1.g, c1.w, ⟨⟨rfl, .inr ⟨_, _, _, rfl, F4, by simp [chC], fun j hj => by simp [chsC]⟩⟩, fun x hx => ?_⟩, c1.gok, c1.wok, by simp, by simp, by simp⟩, fun b hb => by simp [sblk] at hb; omega, fun b hb => by simp [sblk] at hb; omega, fun b hb => by simp [sblk] at hb; omega, fun x hx b hb => ?_⟩
    · rw [List.mem_singleton] at hx
      subst hx
      exact ⟨okC, .inl ⟨rfl, .inr ⟨_, _, _, rfl, F3, by simp [gCh], fun j hj => by rw [show endsC gCh.to = [.int .u8 1, .int .u8 0] from rfl]; simp⟩⟩⟩
    · rw [List.mem_singleton] at hx
      subst hx
      simp [sblk] at hb
      omega
  have ce : CfT G [] [gWi] [] (.slice none 0 0) (.slice (some ⟨N + 14, 0, none⟩) 1 2) (.slice none 0 0) := ⟨⟨⟨rfl, .inl ⟨_, _, rfl, rfl⟩⟩, (cfv_at D1 H2 okU okW).w, c0.c, (fun w hw => by cases hw), c0.wok, by simp, by simp, by simp⟩, (fun b hb => by cases hb), fun b hb => by simp [sblk] at hb; omega, (fun b hb => by cases hb), fun x hx => by cases hx⟩
  refine check_call' ca.v fun g1 v1 x1 he1 => ?_
  have he1 := (congrArg (fun o => IsEr g1 (erOf o) v1) ka).mp he1
  have y1 := x1
  have z1 := EG.trans y1
  have w1 := y1.le
  simp -dsimp (disch := omega)
  refine faults_call (f := sGuest) (a := 0) (n := 6) he1 (hE.ext z1 h100) (Nat.lt_of_lt_of_le h100 z1.le) ?_
  have k1 := (y1.same _ (by omega)).trans K1
  simp -dsimp (disch := omega) [k1, t4, t5, t6, t7]
  refine check_call' (cb.ext y1).v fun g2 v2 x2 he2 => ?_
  have he2 := (congrArg (fun o => IsEr g2 (erOf o) v2) kb).mp he2
  have y2 := y1.trans x2
  have z2 := EG.trans y2
  have w2 := y2.le
  simp -dsimp (disch := omega)
  refine faults_call (f := sGuest) (a := 0) (n := 3) he2 (hE.ext z2 h100) (Nat.lt_of_lt_of_le h100 z2.le) ?_
  have k2 := (y2.same _ (by omega)).trans K2
  simp -dsimp (disch := omega) [k2, t4, t5, t6, t7]
  refine check_call' (cc.ext y2).v fun g3 v3 x3 he3 => ?_
  have he3 := (congrArg (fun o => IsEr g3 (erOf o) v3) kc).mp he3
  have y3 := y2.trans x3
  have z3 := EG.trans y3
  have w3 := y3.le
  simp -dsimp (disch := omega)
  refine faults_call (f := sWindows) (a := 0) (n := 11) he3 (hE.ext z3 h100) (Nat.lt_of_lt_of_le h100 z3.le) ?_
  have k3 := (y3.same _ (by omega)).trans K3
  simp -dsimp (disch := omega) [k3, t4, t5, t6, t7]
  refine check_call' (cd.ext y3).v fun g4 v4 x4 he4 => ?_
  have he4 := (congrArg (fun o => IsEr g4 (erOf o) v4) kd).mp he4
  have y4 := y3.trans x4
  have z4 := EG.trans y4
  have w4 := y4.le
  simp -dsimp (disch := omega)
  refine faults_call (f := sChannels) (a := 0) (n := 6) he4 (hE.ext z4 h100) (Nat.lt_of_lt_of_le h100 z4.le) ?_
  have k4 := (y4.same _ (by omega)).trans K4
  simp -dsimp (disch := omega) [k4, t4, t5, t6, t7]
  refine check_call' (ce.ext y4).v fun g5 v5 x5 he5 => ?_
  have he5 := (congrArg (fun o => IsEr g5 (erOf o) v5) ke).mp he5
  have y5 := y4.trans x5
  have z5 := EG.trans y5
  have w5 := y5.le
  simp -dsimp (disch := omega)
  refine faults_call (f := sGuests) (a := 0) (n := 6) he5 (hE.ext z5 h100) (Nat.lt_of_lt_of_le h100 z5.le) ?_
  have X5 := (y5.same _ (by omega)).trans X
  simp -dsimp (disch := omega) [hn]
  refine error_call X5 ?_
  simp -dsimp (disch := omega)
  refine error_nil ?_
  simp -dsimp (disch := omega)
  refine unwrap_nil ?_
  simp -dsimp (disch := omega)
  refine code_call (e := .nil) rfl (hE.ext z5 h100) (Nat.lt_of_lt_of_le h100 z5.le) ?_
  simp -dsimp (disch := omega) [Er.code]
  refine errNew_call ?_
  simp -dsimp (disch := omega)
  refine code_new_call (hE.ext (z5.then_alloc _) h100) (Nat.lt_of_lt_of_le h100 (z5.then_alloc _).le) ?_
  simp -dsimp (disch := omega)
  refine awake_call (hE.ext (z5.then_alloc _) h100) (Nat.lt_of_lt_of_le h100 (z5.then_alloc _).le) ?_
  simp -dsimp (disch := omega)
  exact RetF.all (by simp) (hK _)
end
end Go.Proofs.YtmnemfeofhinaaaDoor
