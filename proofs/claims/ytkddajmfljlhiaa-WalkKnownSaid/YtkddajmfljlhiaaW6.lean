/-
  The chapter's words, asks and addresses; awake.
-/
import Derived.Test.YtkddajmfljlhiaaW5
import Derived.Test.YtkddajmfljlhiaaM20
set_option linter.unusedSimpArgs false
set_option linter.unusedVariables false
namespace Go.Proofs.Ytkddajmfljlhiaa
open Go Go.Mini Go.Proofs.Try

def givenL : List Wd := [⟨2147483648, 536871937, true, true⟩, ⟨2147487752, 536872961, true, true⟩, ⟨2147491856, 536871119, true, true⟩]
def askN (va mode : Nat) : Ask := ⟨va, 9223372036855300096, 1, mode, false, false⟩
section
variable {h : Hp} {K : Value → Hp → Prop}
theorem path_call (hK : K (.agg #[.int .u64 2147483648, .int .u64 2147487752, .int .u64 2147491856]) h) : ACall prog 16 [] h K := by
  refine acallF_of tb0 func16 rfl rfl mixed (by kernel_rfl) fun hwf => ?_
  simp -dsimp (disch := omega)
  exact RetF.same (r := .agg #[.int .u64 2147483648, .int .u64 2147487752, .int .u64 2147491856]) hwf (by simp) (by simp [vtop, vtopL]) (fun i hi => by simp (disch := omega)) hK
theorem ask_call {va mode : Nat} (hK : K (askV (askN va mode)) h) : ACall prog 18 [.int .u64 va, .int .u8 mode] h K := by
  refine acallF_of tb0 func18 rfl rfl mixed (by kernel_rfl) fun hwf => ?_
  unfold askV askN at hK
  simp -dsimp (disch := omega)
  exact RetF.same (r := .agg #[.int .u64 va, .int .u64 9223372036855300096, .int .u8 1, .int .u8 mode, .bool false, .bool false]) hwf (by simp) (by simp [vtop, vtopL]) (fun i hi => by simp (disch := omega)) hK
theorem given_call (hK : ∀ h' b, Ext h h' → h.next ≤ b → b < h'.next → h'.blks b = some ⟨(wdsC givenL).toArray, 4, true⟩ → K (.slice (some ⟨b, 0, none⟩) 3 6) h') : ACall prog 17 [] h K := by
  refine acallF_of tb0 func17 rfl rfl mixed (by kernel_rfl) fun hwf => ?_
  simp -dsimp (disch := omega)
  refine RetF.all (r := .slice (some ⟨h.next, 0, none⟩) 3 6) (by simp) (hK _ h.next (Ext.alloc _ _) (Nat.le_refl _) (by simp) ?_)
  rw [blks_alloc_eq]
  rfl

theorem given_sl {b : Nat} (hb : h.blks b = some ⟨(wdsC givenL).toArray, 4, true⟩) : Sl h 4 givenL.length (wdsC givenL) (.slice (some ⟨b, 0, none⟩) 3 6) := by
  refine ⟨rfl, .inr ⟨_, _, _, rfl, hb, by simp [wdsC_length, givenL], fun i hi => ?_⟩⟩
  simp
theorem given_ok : ∀ e ∈ givenL, e.ok := by
  intro e he
  simp only [givenL, List.mem_cons, List.not_mem_nil, or_false] at he
  unfold Wd.ok
  rcases he with rfl | rfl | rfl <;> decide
theorem ask_ok {va mode : Nat} (hv : va < 18446744073709551616) (hm : mode < 256) : (askN va mode).ok := ⟨hv, by show 9223372036855300096 < _; omega, by show 1 < _; omega, hm⟩
/-- A walk over words that lie apart from all that was. -/
theorem walk_new {m mp : Nat} {v : Value} {L : List Wd} {k : Nat} {x : Ask} (q : Mem m h mp v L k) (hl : L.length ≤ 1000) (hkk : k ≤ 1000) (ox : x.ok)
    (hK : ∀ h', Mem m h' mp v (walkF L x).2.1 (k + (walkF L x).2.2) → h.next ≤ h'.next → (∀ i, i < m → h'.blks i = h.blks i) → K (resV (walkF L x).1) h') : ACall prog 10 [mI mp, askV x] h K := by
  refine walk_call q hl hkk ox fun h' q' n' s' => hK h' q' n' fun i hi => s' i ?_ ?_ ?_
  · have := q.mh; omega
  · have := q.mm; omega
  · intro e
    obtain ⟨h0, ⟨rfl, hz⟩ | ⟨b, h1, h2, rfl, h3⟩⟩ := q.row
    · cases e
    · simp only [sblk, Option.some.injEq] at e; omega
def tb7 : Nat → Marks := fun k => if k = 3 then ⟨[0, 1, 5, 6], fun _ => True⟩ else ⟨[], fun _ => True⟩
@[simp] theorem tb7_l3 : (tb7 3).l = [0, 1, 5, 6] := rfl
@[simp] theorem tb7_R (k x : Nat) : (tb7 k).R x := by unfold tb7; split <;> trivial
set_option maxRecDepth 100000 in
theorem awake_call (hK : K (.bool true) h) : ACall prog 7 [] h K := by
  refine acallF_of tb7 func7 rfl rfl mixed (by kernel_rfl) fun hwf => ?_
  have w1 : (walkF givenL (askN 2105635 1)).1 = ⟨0, 2147483939, 0, 536871119, 2147483648, 2147487752, 2147491856, 3⟩ := by rfl
  have w2 : (walkF givenL (askN 2105635 0)).1 = ⟨1, 0, 0, 0, 2147483648, 2147487752, 2147491856, 3⟩ := by rfl
  simp -dsimp (disch := omega)
  refine given_call fun h1 b1 E1 l1 u1 s1 => ?_
  simp -dsimp (disch := omega)
  refine of_call (l := givenL) (given_sl s1) (fun b e => by simp [sblk] at e; omega) (by decide) given_ok fun h2 mp v2 E2 q2 => ?_
  simp -dsimp (disch := omega)
  refine ask_call (va := 2105635) (mode := 1) ?_
  simp -dsimp (disch := omega)
  refine walk_new q2 (by decide) (by decide) (ask_ok (by decide) (by decide)) fun h3 q3 n3 s3 => ?_
  rw [w1]
  simp -dsimp (disch := omega)
  obtain ⟨G, hG⟩ : ∃ G, G = h3.alloc ⟨#[.int .u8 0, .int .u64 2147483939, .int .i64 0, .int .u64 536871119, .int .u64 2147483648, .int .u64 2147487752, .int .u64 2147491856, .int .i64 3], 1, true⟩ := ⟨_, rfl⟩
  have gN : G.next = h3.next + 1 := by rw [hG]; rfl
  have gB : G.blks h3.next = some ⟨#[.int .u8 0, .int .u64 2147483939, .int .i64 0, .int .u64 536871119, .int .u64 2147483648, .int .u64 2147487752, .int .u64 2147491856, .int .i64 3], 1, true⟩ := by rw [hG]; exact blks_alloc_eq _ _
  have EG : Ext h G := ⟨by have := E1.le; have := E2.le; omega, fun i hi => by
    have := E1.le; have := E2.le
    rw [hG, blks_alloc_ne _ _ _ (by omega), s3 i (by omega), E2.same i (by omega), E1.same i hi]⟩
  rw [← hG]
  refine given_call fun h4 b2 E4 l4 u4 s4 => ?_
  simp -dsimp (disch := omega)
  refine of_call (l := givenL) (given_sl s4) (fun b e => by simp [sblk] at e; omega) (by decide) given_ok fun h5 mp2 v5 E5 q5 => ?_
  simp -dsimp (disch := omega)
  refine ask_call (va := 2105635) (mode := 0) ?_
  simp -dsimp (disch := omega)
  refine walk_new q5 (by decide) (by decide) (ask_ok (by decide) (by decide)) fun h6 q6 n6 s6 => ?_
  rw [w2]
  have b6 : h6.blks h3.next = some ⟨#[.int .u8 0, .int .u64 2147483939, .int .i64 0, .int .u64 536871119, .int .u64 2147483648, .int .u64 2147487752, .int .u64 2147491856, .int .i64 3], 1, true⟩ := by
    have := E4.le
    rw [s6 _ (by omega), E5.same _ (by omega), E4.same _ (by omega)]; exact gB
  have nn : h3.next < h6.next := by have := E4.le; have := E5.le; omega
  have nn' : ¬ h3.next = h6.next := by omega
  simp -dsimp (disch := omega) [b6, nn']
  refine path_call ?_
  simp -dsimp (disch := omega) [b6, nn']
  refine path_call ?_
  simp -dsimp (disch := omega) [b6, nn']
  refine ask_call (va := 5) (mode := 3) ?_
  simp -dsimp (disch := omega) [b6, nn']
  refine bare_call (ask_ok (by decide) (by decide)) ?_
  rw [show bareB (askN 5 3) = true from rfl]
  simp -dsimp (disch := omega) [b6, nn']
  refine RetF.same (r := .bool true) hwf (by simp) (Nat.zero_le _) (fun i hi => ?_) hK
  have := EG.le
  have := E4.le
  have := E5.le
  rw [blks_alloc_ne _ _ _ (by omega), s6 _ (by omega), E5.same _ (by omega), E4.same _ (by omega), EG.same _ hi]
end
end Go.Proofs.Ytkddajmfljlhiaa
