/-
  given, works.
-/
import Derived.Test.YtfdhahnnhaeibaaDoorG10
set_option linter.unusedSimpArgs false
set_option linter.unusedVariables false
set_option linter.unusedSectionVars false
namespace Go.Proofs.YtfdhahnnhaeibaaDoor
open Go Go.Mini Go.Proofs.Tryd
set_option maxRecDepth 100000

theorem St.ok.gate {s : St} (hs : s.ok) (n : Nat) : (gateS s n).ok := by
  unfold gateS; split
  · exact ⟨hs.pr, hs.en, hs.th⟩
  · exact hs
theorem St.ok.raise {s : St} (hs : s.ok) (n : Nat) (x : Bool) : (raiseS s n x).ok := by
  unfold raiseS
  exact St.ok.gate (s := { s with hi := upd1 s.hi n x }) ⟨hs.pr, hs.en, hs.th⟩ n
theorem St.ok.claim {s : St} (hs : s.ok) (c : Nat) : (claimS s c).ok := by
  unfold claimS; split
  · exact ⟨hs.pr, hs.en, hs.th⟩
  · exact hs
theorem St.ok.complete {s : St} (hs : s.ok) (c n : Nat) : (completeS s c n).ok := by
  unfold completeS; split
  · exact hs
  · exact St.ok.gate (s := { s with se := upd1 s.se n false }) ⟨hs.pr, hs.en, hs.th⟩ n
theorem upd1_lt {f : Nat → Nat} {n v m : Nat} (h : ∀ i, f i < m) (hv : v < m) : ∀ i, upd1 f n v i < m := by
  intro i; unfold upd1; split
  · exact hv
  · exact h i
theorem St.ok.write {s : St} (hs : s.ok) (off v : Nat) : (writeS s off v).ok := by
  have v8 : v % 8 < 256 := by omega
  have v254 : v &&& 254 < 256 := Nat.lt_of_le_of_lt Nat.and_le_right (by omega)
  unfold writeS
  repeat' split
  · exact ⟨upd1_lt hs.pr v8, hs.en, hs.th⟩
  · exact hs
  · exact ⟨hs.pr, upd1_lt hs.en v254, hs.th⟩
  · exact ⟨hs.pr, upd1_lt hs.en v254, hs.th⟩
  · exact ⟨hs.pr, hs.en, upd1_lt hs.th v8⟩
  · exact ⟨hs.pr, hs.en, upd1_lt hs.th v8⟩
  · exact hs.complete _ _
  · exact hs.complete _ _
  · exact hs
theorem St.ok.read {s : St} (hs : s.ok) (off : Nat) : (readS s off).2.ok := by
  unfold readS
  repeat' split
  all_goals first | exact hs | exact hs.claim _
theorem st0_ok : st0.ok := ⟨fun _ => Nat.zero_lt_succ _, fun _ => Nat.zero_lt_succ _, fun _ => Nat.zero_lt_succ _⟩

def gS1 : St := raiseS st0 3 true
def gS2 : St := (readS gS1 4096).2
def gS3 : St := writeS gS2 12 5
def gS : St := writeS gS3 8192 8
def wS1 : St := writeS gS 2097152 5
def wS2 : St := (readS wS1 2097156).2
def wS3 : St := (readS wS2 2097156).2
theorem gS2_ok : gS2.ok := (st0_ok.raise _ _).read _
theorem gS3_ok : gS3.ok := gS2_ok.write _ _
theorem gS_ok : gS.ok := gS3_ok.write _ _
theorem wS1_ok : wS1.ok := gS_ok.write _ _
theorem wS2_ok : wS2.ok := wS1_ok.read _
theorem wS3_ok : wS3.ok := wS2_ok.read _
section
variable {h : Hp} {K : Value → Hp → Prop}
set_option maxHeartbeats 1000000 in
theorem given_call (hK : ∀ h' p, Ext h h' → h.next ≤ p → p < h'.next → h'.blks p = some ⟨stC gS, 1, true⟩ → K (ptr p) h') : ACall prog 20 [] h K := by
  refine acallF_of tb0 func20 rfl rfl mixed (by kernel_rfl) fun hwf => ?_
  simp -dsimp (disch := omega)
  refine new_call ?_
  simp -dsimp (disch := omega)
  refine raise_call (s := st0) (blks_alloc_eq _ _) (fun h => by omega) (fun m hm h1 h2 => ?_)
  obtain rfl : m = 3 := by omega
  simp -dsimp (disch := omega)
  refine reads_call (s := gS1) (off := 4096) (want := 8) (by simp (disch := omega); rfl) (st0_ok.raise _ _) (by simp) (by omega) (by decide) (by kernel_rfl) (fun h1 q1 q2 q3 => ?_)
  simp only [Hp.next_alloc] at q1 q2
  have f1 : ∀ i, i < h.next → h1.blks i = h.blks i := fun i hi => by rw [q1 i (by omega) (by omega)]; simp (disch := omega)
  clear q1
  simp -dsimp (disch := omega)
  refine calls_call (c := 0) (s := gS2) q3 gS2_ok (by omega) (by omega) ?_
  rw [show callsS gS2 0 = false from by kernel_rfl]
  simp -dsimp (disch := omega)
  refine write_call (off := 12) (v := 5) (s := gS2) q3 gS2_ok (by omega) (by omega) (by omega) (fun e => by exact absurd e (by decide)) (fun _ h2 r1 r2 r3 => ?_)
  have f2 : ∀ i, i < h.next → h2.blks i = h.blks i := fun i hi => by rw [r1 i (by omega) (by omega)]; exact f1 i hi
  clear r1
  simp -dsimp (disch := omega)
  refine write_call (off := 8192) (v := 8) (s := gS3) r3 gS3_ok (by omega) (by omega) (by omega) (fun e => by exact absurd e (by decide)) (fun _ h3 u1 u2 u3 => ?_)
  have f3 : ∀ i, i < h.next → h3.blks i = h.blks i := fun i hi => by rw [u1 i (by omega) (by omega)]; exact f2 i hi
  clear u1
  simp -dsimp (disch := omega)
  refine calls_call (c := 0) (s := gS) u3 gS_ok (by omega) (by omega) ?_
  rw [show callsS gS 0 = true from by kernel_rfl]
  simp -dsimp (disch := omega)
  refine calls_call (c := 1) (s := gS) u3 gS_ok (by omega) (by omega) ?_
  rw [show callsS gS 1 = false from by kernel_rfl]
  simp -dsimp (disch := omega)
  exact RetF.all (r := ptr h.next) (by simp) (hK _ _ ⟨by omega, f3⟩ (by omega) (by omega) u3)
set_option maxHeartbeats 1000000 in
theorem works_call (hK : K (.bool true) h) : ACall prog 7 [] h K := by
  refine acallF_of tb0 func7 rfl rfl mixed (by kernel_rfl) fun hwf => ?_
  simp -dsimp (disch := omega)
  refine given_call (fun h0 p e0 hp1 hp2 q0 => ?_)
  have l0 := e0.le
  simp -dsimp (disch := omega)
  refine write_call (off := 2097152) (v := 5) (s := gS) q0 gS_ok (by omega) (by omega) (by omega) (fun e => by exact absurd e (by decide)) (fun _ h2 r1 r2 r3 => ?_)
  have f2 : ∀ i, i < h.next → h2.blks i = h.blks i := fun i hi => by rw [r1 i (by omega) (by omega)]; exact e0.same i hi
  clear r1
  simp -dsimp (disch := omega)
  refine calls_call (c := 0) (s := wS1) r3 wS1_ok (by omega) (by omega) ?_
  rw [show callsS wS1 0 = false from by kernel_rfl]
  simp -dsimp (disch := omega)
  refine reads_call (s := wS1) (off := 2097156) (want := 3) r3 wS1_ok (by omega) (by omega) (by decide) (by kernel_rfl) (fun h3 u1 u2 u3 => ?_)
  have f3 : ∀ i, i < h.next → h3.blks i = h.blks i := fun i hi => by rw [u1 i (by omega) (by omega)]; exact f2 i hi
  clear u1
  simp -dsimp (disch := omega)
  refine reads_call (s := wS2) (off := 2097156) (want := 0) u3 wS2_ok (by omega) (by omega) (by decide) (by kernel_rfl) (fun h4 v1 v2 v3 => ?_)
  have f4 : ∀ i, i < h.next → h4.blks i = h.blks i := fun i hi => by rw [v1 i (by omega) (by omega)]; exact f3 i hi
  clear v1
  simp -dsimp (disch := omega)
  refine reads_call (s := wS3) (off := 4096) (want := 0) v3 wS3_ok (by omega) (by omega) (by decide) (by kernel_rfl) (fun h5 x1 x2 x3 => ?_)
  have f5 : ∀ i, i < h.next → h5.blks i = h.blks i := fun i hi => by rw [x1 i (by omega) (by omega)]; exact f4 i hi
  simp -dsimp (disch := omega)
  exact RetF.same (r := .bool true) hwf (by simp) (Nat.zero_le _) f5 hK
end
end Go.Proofs.YtfdhahnnhaeibaaDoor
