/-
  The chapter's examples: the law's body.
-/
import Derived.Test.YtcfgagpjdhhddaaD14
set_option linter.unusedSimpArgs false
set_option linter.unusedVariables false
namespace Go.Proofs.Ytcfgagpjdhhddaa
open Go Go.Mini Go.Proofs.Try

theorem given2_call {h : Hp} {K : Value → Hp → Prop} (hK : K (.slice (some ⟨h.next, 0, none⟩) 6 12) (h.alloc ⟨(evsC G).toArray, 4, true⟩)) : ACall prog 23 [] h K := by
  refine acallF_of tb0 func23 rfl rfl mixed (by kernel_rfl) fun hwf => ?_
  simp -dsimp (disch := omega)
  exact RetF.all (by simp) hK
def DP2 : List (Nat × Nat) := [(1, 3), (2, 2), (4, 1)]
theorem parse_G2 : parse 2 (buildL G) = (KP, DP2) := by kernel_rfl
theorem evsG : (evsC G).toArray = #[.int .u32 5, .int .u8 1, .int .u8 1, .int .u32 97, .int .u32 4, .int .u8 1, .int .u8 1, .int .u32 98, .int .u32 5, .int .u8 2, .int .u8 1, .int .u32 1, .int .u32 6, .int .u8 0, .int .u8 2, .int .u32 9, .int .u32 7, .int .u8 0, .int .u8 2, .int .u32 7, .int .u32 9, .int .u8 1, .int .u8 3, .int .u32 3] := rfl
theorem build_G1 : buildL [⟨5, 1, 1, 97⟩] = [5, 0, 0, 0, 1, 1, 97, 0, 0, 0] := by kernel_rfl

theorem eventKnown_call {h : Hp} {K : Value → Hp → Prop} (hK : ∀ h', Ext h h' → K (.bool true) h') : ACall prog 8 [] h K := by
  refine acallF_of tb0 func8 rfl rfl mixed (by kernel_rfl) fun hwf => ?_
  simp -dsimp (disch := omega)
  refine given2_call ?_
  obtain ⟨g0, hg0⟩ : ∃ g0, g0 = h.next := ⟨_, rfl⟩
  have hgb : (h.alloc ⟨(evsC G).toArray, 4, true⟩).blks g0 = some ⟨(evsC G).toArray, 4, true⟩ := by rw [hg0]; exact blks_alloc_eq _ _
  have hgl : g0 < (h.alloc ⟨(evsC G).toArray, 4, true⟩).next := by simp; omega
  have he0 : Ext h (h.alloc ⟨(evsC G).toArray, 4, true⟩) := Ext.alloc _ _
  rw [← hg0]
  generalize h.alloc ⟨(evsC G).toArray, 4, true⟩ = h1 at *
  have hGl : G.length = 6 := rfl
  have hv1 : ∀ h', Ext h1 h' → Sl h' 4 G.length (evsC G) (.slice (some ⟨g0, 0, none⟩) 6 12) := fun h' he => ⟨rfl, .inr ⟨_, _, _, rfl, (he.same _ hgl).trans hgb, by simp [evsG, hGl], fun j hj => by simp⟩⟩
  have hG' : ∀ h', Ext h1 h' → h'.blks g0 = some ⟨(evsC G).toArray, 4, true⟩ := fun h' he => (he.same _ hgl).trans hgb
  rw [evsG] at hG'
  simp -dsimp (disch := omega)
  refine build_call (l := G) (by decide) G_ok (hv1 _ (Ext.refl _)) ?_
  simp -dsimp (disch := omega)
  refine parse_call (guests := 2) (by rw [buildL_length, hGl]; omega) fun h2 vk vd e2 l2 => ?_
  rw [parse_G2] at l2
  obtain ⟨ak, ck, rfl⟩ := l2.k.slice
  obtain ⟨_, ⟨_, q1⟩ | ⟨bd, _, _, rfl, hbd⟩⟩ := l2.d
  · cases q1
  have k4 : drC DP2 = [.int .i64 1, .int .u8 3, .int .i64 2, .int .u8 2, .int .i64 4, .int .u8 1] := rfl
  have k5 : DP2.length = 3 := rfl
  simp only [k4, k5] at hbd
  have hb2 := hG' _ e2
  simp -dsimp (disch := omega) [k5]
  refine awake_call ?_
  have hsl : asliceRow ⟨g0, 0, none⟩ 4 6 12 none (some (.int .i64 1)) none = some (.slice (some ⟨g0, 0, none⟩) 1 12) := rfl
  simp -dsimp (disch := omega) [hbd, hsl]
  have hv1' : Sl h2 4 [(⟨5, 1, 1, 97⟩ : Ev)].length (evsC [⟨5, 1, 1, 97⟩]) (.slice (some ⟨g0, 0, none⟩) 1 12) := ⟨rfl, .inr ⟨_, _, _, rfl, hb2, by simp, fun j hj => by
    have : j = 0 ∨ j = 1 ∨ j = 2 ∨ j = 3 := by simp at hj; omega
    rcases this with rfl | rfl | rfl | rfl <;> rfl⟩⟩
  refine build_call (l := [⟨5, 1, 1, 97⟩]) (by decide) (by decide) hv1' ?_
  rw [build_G1]
  have htx : txt [5, 0, 0, 0, 1, 1, 97, 0, 0, 0] = ⟨#[5, 0, 0, 0, 1, 1, 97, 0, 0, 0]⟩ := rfl
  rw [htx]
  simp -dsimp (disch := omega) [hbd, hsl]
  have x2 := e2
  refine drops_call (e := ⟨0, 0, 1, 255⟩) (w := 0) (by decide) (by decide) fun h3 e3 => ?_
  have x3 := x2.trans e3
  clear e3
  simp -dsimp (disch := omega)
  refine drops_call (e := ⟨0, 0, 1, 256⟩) (w := 1) (by decide) (by decide) fun h4 e4 => ?_
  have x4 := x3.trans e4
  clear e4
  simp -dsimp (disch := omega)
  refine drops_call (e := ⟨0, 0, 2, 8⟩) (w := 0) (by decide) (by decide) fun h5 e5 => ?_
  have x5 := x4.trans e5
  clear e5
  simp -dsimp (disch := omega)
  refine drops_call (e := ⟨0, 0, 2, 15⟩) (w := 0) (by decide) (by decide) fun h6 e6 => ?_
  have x6 := x5.trans e6
  clear e6
  simp -dsimp (disch := omega)
  refine drops_call (e := ⟨0, 0, 2, 16⟩) (w := 1) (by decide) (by decide) fun h7 e7 => ?_
  have x7 := x6.trans e7
  clear e7
  simp -dsimp (disch := omega)
  refine drops_call (e := ⟨0, 0, 3, 65535⟩) (w := 0) (by decide) (by decide) fun h8 e8 => ?_
  have x8 := x7.trans e8
  clear e8
  simp -dsimp (disch := omega)
  refine drops_call (e := ⟨0, 0, 3, 65536⟩) (w := 1) (by decide) (by decide) fun h9 e9 => ?_
  have x9 := x8.trans e9
  clear e9
  simp -dsimp (disch := omega)
  refine drops_call (e := ⟨0, 0, 0, 0⟩) (w := 1) (by decide) (by decide) fun h10 e10 => ?_
  have x10 := x9.trans e10
  clear e10
  simp -dsimp (disch := omega)
  refine drops_call (e := ⟨0, 0, 4, 0⟩) (w := 1) (by decide) (by decide) fun h11 e11 => ?_
  have x11 := x10.trans e11
  clear e11
  simp -dsimp (disch := omega)
  refine drops_call (e := ⟨0, 1, 1, 0⟩) (w := 2) (by decide) (by decide) fun h12 e12 => ?_
  have x12 := x11.trans e12
  clear e12
  simp -dsimp (disch := omega)
  refine drops_call (e := ⟨0, 1, 9, 0⟩) (w := 1) (by decide) (by decide) fun h13 e13 => ?_
  have x13 := x12.trans e13
  clear e13
  have hb13 := hG' _ x13
  simp -dsimp (disch := omega) [hb13]
  have n13 := x13.le
  refine new2_call (l := KP) (by decide) rfl (blks_alloc_eq _ _) (by simp) rfl (by simp) fun h14 q vq e14 hq q14 => ?_
  have x14 := (x13.then_alloc _).trans e14
  have hq' : h1.next ≤ q := by have := Ext.le x13; simp at hq; omega
  have okKP : ∀ e ∈ KP, e.ok := by decide
  simp -dsimp (disch := omega)
  refine due_call (t := 4) (by decide) okKP (by omega) q14 fun h15 v15 w15 m15 q15 _ r15 => ?_
  rw [show laterL 4 KP = KP from rfl] at q15
  rw [show dueL 4 KP = [] from rfl] at r15
  obtain ⟨a15, c15, rfl⟩ := r15.slice
  simp -dsimp (disch := omega)
  refine due_call (t := 5) (by decide) okKP (by omega) q15 fun h16 v16 w16 m16 q16 _ r16 => ?_
  rw [show laterL 5 KP = [⟨6, 0, 2, 9⟩, ⟨9, 1, 3, 3⟩] from rfl] at q16
  rw [show dueL 5 KP = [⟨5, 1, 1, 97⟩] from rfl] at r16
  simp -dsimp (disch := omega)
  refine due_call (t := 8) (by decide) (by decide) (by omega) q16 fun h17 v17 w17 m17 q17 _ r17 => ?_
  rw [show laterL 8 [⟨6, 0, 2, 9⟩, ⟨9, 1, 3, 3⟩] = [⟨9, 1, 3, 3⟩] from rfl] at q17
  rw [show dueL 8 [⟨6, 0, 2, 9⟩, ⟨9, 1, 3, 3⟩] = [⟨6, 0, 2, 9⟩] from rfl] at r17
  simp -dsimp (disch := omega)
  refine qleft_call q17 ?_
  simp -dsimp (disch := omega)
  refine due_call (t := 100) (by decide) (by decide) (by omega) q17 fun h18 v18 w18 m18 q18 _ r18 => ?_
  rw [show laterL 100 [⟨9, 1, 3, 3⟩] = [] from rfl] at q18
  rw [show dueL 100 [⟨9, 1, 3, 3⟩] = [⟨9, 1, 3, 3⟩] from rfl] at r18
  have ql := q14.lt
  have n14 := e14.le
  have n15 := m15.le
  have n16 := m16.le
  have n17 := m17.le
  have n18 := m18.le
  obtain ⟨_, ⟨_, q1⟩ | ⟨b16, lo16, hi16, rfl, hb16⟩⟩ := r16
  · cases q1
  obtain ⟨_, ⟨_, q1⟩ | ⟨b17, lo17, hi17, rfl, hb17⟩⟩ := r17
  · cases q1
  obtain ⟨_, ⟨_, q1⟩ | ⟨b18, lo18, hi18, rfl, hb18⟩⟩ := r18
  · cases q1
  have k16 : evsC [⟨5, 1, 1, 97⟩] = [.int .u32 5, .int .u8 1, .int .u8 1, .int .u32 97] := rfl
  have k17 : evsC [⟨6, 0, 2, 9⟩] = [.int .u32 6, .int .u8 0, .int .u8 2, .int .u32 9] := rfl
  have k18 : evsC [⟨9, 1, 3, 3⟩] = [.int .u32 9, .int .u8 1, .int .u8 3, .int .u32 3] := rfl
  rw [k16] at hb16
  rw [k17] at hb17
  rw [k18] at hb18
  have hB16 : h18.blks b16 = some ⟨#[.int .u32 5, .int .u8 1, .int .u8 1, .int .u32 97], 4, true⟩ := by rw [m18.same _ (by omega) (by omega), m17.same _ (by omega) (by omega)]; exact hb16
  have hB17 : h18.blks b17 = some ⟨#[.int .u32 6, .int .u8 0, .int .u8 2, .int .u32 9], 4, true⟩ := by rw [m18.same _ (by omega) (by omega)]; exact hb17
  have hGB := hG' _ x14
  have gl14 : g0 < h14.next := by have := x14.le; omega
  have hB0 : h18.blks g0 = h14.blks g0 := by rw [m18.same _ (by omega) (by omega), m17.same _ (by omega) (by omega), m16.same _ (by omega) (by omega), m15.same _ (by omega) (by omega)]
  rw [hGB] at hB0
  have x18 : Ext h h18 := ⟨by have := (he0.trans x14).le; omega, fun i hi => by
    have := he0.le
    have := x14.le
    rw [m18.same _ (by omega) (by omega), m17.same _ (by omega) (by omega), m16.same _ (by omega) (by omega), m15.same _ (by omega) (by omega)]
    exact (he0.trans x14).same i hi⟩
  simp -dsimp (disch := omega) [hB0]
  refine which_call (e := ⟨6, 0, 2, 9⟩) (by decide) ?_
  rw [show whichE ⟨6, 0, 2, 9⟩ = (4, true) from rfl]
  simp -dsimp (disch := omega) [hB0]
  refine which_call (e := ⟨5, 1, 1, 97⟩) (by decide) ?_
  rw [show whichE ⟨5, 1, 1, 97⟩ = (0, false) from rfl]
  simp -dsimp (disch := omega) [hB0]
  refine which_call (e := ⟨0, 0, 2, 14⟩) (by decide) ?_
  rw [show whichE ⟨0, 0, 2, 14⟩ = (7, false) from rfl]
  simp -dsimp (disch := omega) [hB0, hB16, hB17, hb18]
  dsimp only [List.append]
  simp -dsimp (disch := omega) [hB0, hB16, hB17, hb18]
  refine qleft_call q18 ?_
  simp -dsimp (disch := omega) [hB0, hB16, hB17, hb18]
  refine due_nil ?_
  simp -dsimp (disch := omega)
  refine qleft_nil ?_
  simp -dsimp (disch := omega)
  refine awake_call ?_
  simp -dsimp (disch := omega)
  exact RetF.all (by simp) (hK _ x18)

end Go.Proofs.Ytcfgagpjdhhddaa
