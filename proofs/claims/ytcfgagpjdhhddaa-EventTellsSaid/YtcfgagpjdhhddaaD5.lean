/-
  The chapter's own answers.
-/
import Derived.Test.YtcfgagpjdhhddaaD4
set_option linter.unusedSimpArgs false
set_option linter.unusedVariables false
set_option linter.unusedSectionVars false
namespace Go.Proofs.Ytcfgagpjdhhddaa
open Go Go.Mini Go.Proofs.Try

def G : List Ev := [⟨5, 1, 1, 97⟩, ⟨4, 1, 1, 98⟩, ⟨5, 2, 1, 1⟩, ⟨6, 0, 2, 9⟩, ⟨7, 0, 2, 7⟩, ⟨9, 1, 3, 3⟩]
instance (e : Ev) : Decidable e.ok := by unfold Ev.ok; infer_instance
theorem G_ok : ∀ e ∈ G, e.ok := by decide
theorem given_call {h : Hp} {K : Value → Hp → Prop} (hK : ∀ h' v, Ext h h' → Sl h' 4 6 (evsC G) v → (∀ b, sblk v = some b → h.next ≤ b ∧ b < h'.next) → K v h') : ACall prog 23 [] h K := by
  refine acallF_of tb0 func23 rfl rfl mixed (by kernel_rfl) fun hwf => ?_
  simp -dsimp (disch := omega)
  refine RetF.all (by simp) (hK _ (.slice (some ⟨h.next, 0, none⟩) 6 12) (Ext.alloc _ _) ⟨rfl, .inr ⟨_, _, _, rfl, blks_alloc_eq _ _, by simp, fun j _ => by simp [evsC, evC, G]⟩⟩ ?_)
  intro b hb
  simp [sblk] at hb
  simp
  omega
def KP : List Ev := [⟨5, 1, 1, 97⟩, ⟨6, 0, 2, 9⟩, ⟨9, 1, 3, 3⟩]
def DP : List (Nat × Nat) := [(1, 3), (2, 2), (4, 1), (6, 1)]
theorem parse_G : parse 2 (buildL G ++ [97, 98, 99]) = (KP, DP) := by kernel_rfl

theorem awake_call {h : Hp} {K : Value → Hp → Prop} (hK : K (.bool true) h) : ACall prog 10 [] h K := by
  refine acallF_of tb0 func10 rfl rfl mixed (by kernel_rfl) fun hwf => ?_
  simp -dsimp (disch := omega)
  refine given_call fun h1 v e1 hv hb => ?_
  obtain ⟨va, vc, rfl⟩ := hv.slice
  simp -dsimp (disch := omega)
  refine build_call (l := G) (by decide) G_ok hv ?_
  simp -dsimp (disch := first | omega | (simp [buildL_length, G]))
  refine parse_call (guests := 2) (by simp [buildL_length, G]) fun h2 vk vd e2 li => ?_
  rw [parse_G] at li
  obtain ⟨_, ⟨_, q1⟩ | ⟨bk, _, _, rfl, hbk⟩⟩ := li.k
  · cases q1
  obtain ⟨_, ⟨_, q1⟩ | ⟨bd, _, _, rfl, hbd⟩⟩ := li.d
  · cases q1
  have hv2 : Sl h2 4 G.length (evsC G) (.slice va 6 vc) := hv.mono fun b hb' => e2.same _ (hb b hb').2
  obtain ⟨a, c0, b0, e0, f0, s0, x0⟩ := sl_ev (k := 0) hv2 rfl
  cases e0
  obtain ⟨a3, c3, b3, e3, f3, s3, x3⟩ := sl_ev (k := 3) hv2 rfl
  cases e3
  obtain ⟨a5, c5, b5, e5, f5, s5, x5⟩ := sl_ev (k := 5) hv2 rfl
  cases e5
  rw [f0] at f3 f5
  cases f3
  cases f5
  have k1 : KP.length = 3 := rfl
  have k2 : DP.length = 4 := rfl
  have k3 : evsC KP = [.int .u32 5, .int .u8 1, .int .u8 1, .int .u32 97, .int .u32 6, .int .u8 0, .int .u8 2, .int .u32 9, .int .u32 9, .int .u8 1, .int .u8 3, .int .u32 3] := rfl
  have k4 : drC DP = [.int .i64 1, .int .u8 3, .int .i64 2, .int .u8 2, .int .i64 4, .int .u8 1, .int .i64 6, .int .u8 1] := rfl
  rw [k3] at hbk
  rw [k4] at hbd
  simp only [Nat.zero_mul, Nat.add_zero, Nat.reduceMul] at x0 x3 x5 s0 s3 s5
  simp -dsimp (disch := omega) [k1, k2, hbk, hbd, f0, s0, s3, s5, x0, x3, x5]
  exact RetF.same hwf (by simp) (Nat.zero_le _) (fun i hi => (e1.trans e2).same i hi) hK

end Go.Proofs.Ytcfgagpjdhhddaa
