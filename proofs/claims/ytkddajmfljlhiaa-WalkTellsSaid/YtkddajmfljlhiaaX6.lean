/-
  The document's walk: Run.
-/
import Derived.Test.YtkddajmfljlhiaaX5
set_option linter.unusedSimpArgs false
set_option linter.unusedVariables false
namespace Go.Proofs.Ytkddajmfljlhiaa
open Go Go.Mini Go.Proofs.Try

def isT (v : Option Value) : Bool := match v with | some (Value.bool true) => true | _ => false
def natV (v : Option Value) : Nat := match v with | some (Value.int _ n) => n.toNat | _ => 0
def msrC (cs : Array Value) : Nat := if isT cs[14]? = true then 0 else if isT cs[16]? = true then 1 else 6 - natV cs[13]?
def msr (wp : Nat) (h : Hp) : Nat := match h.blks wp with | some b => msrC b.cells | none => 0
theorem msr_end {wp : Nat} {h : Hp} {x : Ask} {r : Res} {wa wo pe : Nat} {pu : Bool} (hw : h.blks wp = some ⟨wsA x r true wa pu wo pe, 1, true⟩) : msr wp h = 0 := by
  unfold msr; rw [hw]; rfl
theorem msr_put {wp : Nat} {h : Hp} {x : Ask} {r : Res} {wa wo pe : Nat} (hw : h.blks wp = some ⟨wsA x r false wa true wo pe, 1, true⟩) : msr wp h = 1 := by
  unfold msr; rw [hw]; rfl
theorem msr_read {wp : Nat} {h : Hp} {x : Ask} {r : Res} {wa wo pe : Nat} (hw : h.blks wp = some ⟨wsA x r false wa false wo pe, 1, true⟩) : msr wp h = 6 - r.n := by
  unfold msr; rw [hw]
  show 6 - ((r.n : Nat) : Int).toNat = _
  rw [Int.toNat_natCast]

/-- Where the document's walk stands. -/
inductive Rst (m tp : Nat) (v : Value) (L : List Wd) (x : Ask) (W : Res × List Wd × Nat) (wp : Nat) (h : Hp) : Prop where
  | done (r : Res) (wa wo pe : Nat) (pu : Bool) : h.blks wp = some ⟨wsA x r true wa pu wo pe, 1, true⟩ → r = W.1 → RMem m h tp v W.2.1 → Rst m tp v L x W wp h
  | put (r : Res) (y e : Nat) : h.blks wp = some ⟨wsA x r false y true (nowN x e) (nowN x e), 1, true⟩ → 0 < r.n ∧ r.n ≤ 3 → e < 18446744073709551616 → RMem m h tp v L →
      (W = if wrB L y = false then (failR 2 r.a0 r.a1 r.a2 r.n, L, 0) else (⟨r.f, paL x (3 - r.n) (nowN x e), 3 - r.n, nowN x e, r.a0, r.a1, r.a2, r.n⟩, put1 L y (nowN x e), 1)) → Rst m tp v L x W wp h
  | read (i n y b0 b1 b2 wo pe : Nat) : i + n = 2 → h.blks wp = some ⟨wsA x ⟨0, 0, 0, 0, b0, b1, b2, n + 1⟩ false y false wo pe, 1, true⟩ → lastA b0 b1 b2 (n + 1) = y → RMem m h tp v L →
      restW L x i (rdV L y) (rdB L y) b0 b1 b2 (n + 1) = W → Rst m tp v L x W wp h
section
variable {h : Hp} {K : Value → Hp → Prop} {x : Ask}
def tb11 : Nat → Marks := fun _ => ⟨[], fun _ => True⟩
@[simp] theorem tb11_l (k : Nat) : (tb11 k).l = [] := rfl
set_option maxRecDepth 100000 in
set_option maxHeartbeats 4000000 in
theorem run_call {m tp : Nat} {v : Value} {L : List Wd} (q : RMem m h tp v L) (hl : L.length ≤ 1000) (ox : x.ok)
    (hK : ∀ h', RMem m h' tp v (walkF L x).2.1 → h.next ≤ h'.next → (∀ i, i < h.next → i ≠ tp → sblk v ≠ some i → h'.blks i = h.blks i) → K (resV (walkF L x).1) h') : ACall prog 11 [ptr tp, askV x] h K := by
  refine acallF_of tb11 func11 rfl rfl mixed (by kernel_rfl) fun hwf => ?_
  obtain ⟨W, hW⟩ : ∃ W, W = walkF L x := ⟨_, rfl⟩
  rw [← hW] at hK
  obtain ⟨H, hH⟩ : ∃ H, H = (h.alloc ⟨#[.int .u64 x.va, .int .u64 x.satp, .int .u8 x.kind, .int .u8 x.mode, .bool x.sum, .bool x.mxr], 1, true⟩).alloc ⟨#[.int .u8 0, .int .u64 0, .int .i64 0, .int .u64 0, .int .u64 0, .int .u64 0, .int .u64 0, .int .i64 0], 1, true⟩ := ⟨_, rfl⟩
  have hE : Ext h H := by rw [hH]; exact (Ext.alloc h _).then_alloc _
  have hN : H.next = h.next + 2 := by rw [hH]; rfl
  have hA : H.blks h.next = some ⟨#[.int .u64 x.va, .int .u64 x.satp, .int .u8 x.kind, .int .u8 x.mode, .bool x.sum, .bool x.mxr], 1, true⟩ := by
    rw [hH, blks_alloc_ne _ _ _ (by simp), blks_alloc_eq]
  have hB : H.blks (h.next + 1) = some ⟨#[.int .u8 0, .int .u64 0, .int .i64 0, .int .u64 0, .int .u64 0, .int .u64 0, .int .u64 0, .int .i64 0], 1, true⟩ := by
    rw [hH]; exact blks_alloc_eq _ _
  have qH : RMem m H tp v L := q.ext hE.le fun i hi _ => hE.same i hi
  have htp : tp < h.next := q.lt
  have hvb : ∀ b, sblk v = some b → b < h.next := fun b e => (q.row.blk b e).2
  unfold askV
  simp -dsimp (disch := omega) [← hH, hA]
  refine ACall.mono (begin_call (h := H) (K := fun u G => ∃ wp, u = ptr wp ∧ Ext H G ∧ H.next ≤ wp ∧ wp < G.next ∧ Rst m tp v L x W wp G) ox (fun hb G wp EG hw1 hw2 hw => ⟨wp, rfl, EG, hw1, hw2, ?_⟩) (fun hb hc G wp EG hw1 hw2 hw => ⟨wp, rfl, EG, hw1, hw2, ?_⟩) (fun hb hc G wp EG hw1 hw2 hw => ⟨wp, rfl, EG, hw1, hw2, ?_⟩)) ?_
  · have qG := qH.ext EG.le fun i hi _ => EG.same i hi
    have e : W = (⟨0, x.va, 0, 0, 0, 0, 0, 0⟩, L, 0) := by rw [hW]; unfold walkF; rw [if_pos hb]
    exact .done _ _ _ _ _ hw (by rw [e]) (by rw [e]; exact qG)
  · have qG := qH.ext EG.le fun i hi _ => EG.same i hi
    have e : W = (failR 1 0 0 0 0, L, 0) := by rw [hW]; unfold walkF; rw [if_neg (by simp [hb]), if_pos hc]
    exact .done _ _ _ _ _ hw (by rw [e]) (by rw [e]; exact qG)
  · have qG := qH.ext EG.le fun i hi _ => EG.same i hi
    refine .read 2 0 _ _ _ _ _ _ rfl hw (by unfold lastA nx0; simp) qG ?_
    rw [hW]; unfold walkF; rw [if_neg (by simp [hb]), if_neg (by simp [hc])]
    rfl
  rintro _ G ⟨wp, rfl, EG, hw1, hw2, st⟩
  simp -dsimp (disch := omega)
  refine awpF_of (awp_loop (fun t h' => t 0 = ptr tp ∧ t 4 = ptr (h.next + 1) ∧ t 5 = ptr wp ∧ Rst m tp v L x W wp h' ∧ G.next ≤ h'.next ∧ h'.blks (h.next + 1) = H.blks (h.next + 1) ∧ ∀ i, i < h.next → i ≠ tp → sblk v ≠ some i → h'.blks i = h.blks i) (fun t h' => msr wp h') ?_ ?_)
  · exact ⟨by simp, by simp, by simp, st, Nat.le_refl _, EG.same _ (by omega), fun i hi _ _ => by rw [EG.same i (by omega), hE.same i hi]⟩
  · rintro t h' ⟨g0, g4, g5, st', hn', hB', hs'⟩
    have hB2 := hB'
    rw [hB] at hB'
    refine vcF_sound mixed (tb := tb11) _ (by kernel_rfl) ?_
    have hwl : wp < h'.next := by omega
    have hwt : wp ≠ tp := by omega
    have hwv : sblk v ≠ some wp := fun e => by have := hvb _ e; omega
    have hb1 : h.next + 1 ≠ wp := by omega
    have hrt : h.next + 1 ≠ tp := by omega
    have hrv : sblk v ≠ some (h.next + 1) := fun e => by have := hvb _ e; omega
    have fin : ∀ (h2 : Hp) (b : Blk), Rst m tp v L x W wp (h2.set wp b) → h'.next ≤ h2.next → (∀ i, i ≠ tp → sblk v ≠ some i → h2.blks i = h'.blks i) → msr wp (h2.set wp b) < msr wp h' → (Rst m tp v L x W wp (h2.set wp b) ∧ G.next ≤ h2.next ∧ h2.blks (h.next + 1) = H.blks (h.next + 1) ∧ ∀ i, i < h.next → ¬ i = tp → ¬ sblk v = some i → (if i = wp then some b else h2.blks i) = h.blks i) ∧ msr wp (h2.set wp b) < msr wp h' := by
      intro h2 b f1 f2 f3 f4
      refine ⟨⟨f1, by omega, by rw [f3 _ hrt hrv, hB2], fun i i1 i2 i3 => ?_⟩, f4⟩
      rw [if_neg (by omega), f3 _ i2 i3, hs' i i1 i2 i3]
    have rset : ∀ {L' : List Wd} {h2 : Hp} (b : Blk), RMem m h2 tp v L' → RMem m (h2.set wp b) tp v L' := fun b q => ⟨by rw [blks_set_ne _ _ _ _ hwt.symm]; exact q.blk, Row.set q.row _ _ hwv, q.lt, q.mm, q.mh, q.vr, q.ok⟩
    cases st' with
    | done r wa wo pe pu w1 w2 w3 =>
      rw [← w2] at hK
      simp -dsimp (disch := omega) [g0, g4, g5, w1, hB']
      refine RetF.all (r := resV r) (by simp [g4]) (hK _ (w3.ext (Nat.le_refl _) fun i hi ho => blks_set_ne _ _ _ _ ?_) (by show h.next ≤ h'.next; omega) fun i h1 h2 h3 => ?_)
      · intro e
        subst e
        rcases ho with ho | ho
        · exact hrt ho
        · exact hrv ho
      · rw [blks_set_ne _ _ _ _ (by omega)]; exact hs' i h1 h2 h3
    | put r y e w1 w2 w3 w4 w5 =>
      have hm := msr_put w1
      simp -dsimp (disch := omega) [g0, g4, g5, w1, hB']
      refine rWrite_call w4 hl (now_lt w3) (fun hb h2 q2 n2 s2 => ?_) (fun hb => ?_)
      · have w1' : h2.blks wp = _ := (s2 wp hwt hwv).trans w1
        simp -dsimp (disch := omega) [g0, g4, g5]
        refine rwrote_call w1' w2 (now_lt w3) ox (fun hb2 => by cases hb2) (fun _ => ?_)
        simp -dsimp (disch := omega) [g0, g4, g5]
        rw [hb, if_neg (by simp)] at w5
        exact fin _ _ (.done _ _ _ _ _ (blks_set_eq _ _ _) (by rw [w5]) (by rw [w5]; exact rset _ q2)) (by omega) s2 (by rw [msr_end (blks_set_eq _ _ _)]; omega)
      · simp -dsimp (disch := omega) [g0, g4, g5]
        refine rwrote_call w1 w2 (now_lt w3) ox (fun _ => ?_) (fun hb2 => by cases hb2)
        simp -dsimp (disch := omega) [g0, g4, g5]
        rw [hb, if_pos rfl] at w5
        exact fin _ _ (.done _ _ _ _ _ (blks_set_eq _ _ _) (by rw [w5]) (by rw [w5]; exact rset _ w4)) (by omega) (fun _ _ _ => rfl) (by rw [msr_end (blks_set_eq _ _ _)]; omega)
    | read i n y b0 b1 b2 wo pe w1 w2 w3 w4 w5 =>
      have hm := msr_read w2
      simp only at hm
      have hel : rdV L y < 18446744073709551616 := at1_ok w4.ok y
      simp -dsimp (disch := omega) [g0, g4, g5, w2, hB']
      refine rRead_call w4 hl ?_
      simp -dsimp (disch := omega) [g0, g4, g5]
      have hi3 : 3 - (n + 1) = i := by omega
      unfold restW at w5
      refine rread_call w2 ⟨by simp, by simp; omega⟩ hel ox (fun hb => ?_) (fun hb hc => ?_) (fun hb hc h10 hn3 h208 => ?_) (fun hb hc h10 hlf => ?_) (fun hb hc h10 hlf hnw => ?_) (fun hb hc h10 hlf hnw => ?_)
      · simp -dsimp (disch := omega) [g0, g4, g5]
        rw [if_pos hb] at w5
        exact fin _ _ (.done _ _ _ _ _ (blks_set_eq _ _ _) (by rw [← w5]) (by rw [← w5]; exact rset _ w4)) (by omega) (fun _ _ _ => rfl) (by rw [msr_end (blks_set_eq _ _ _)]; omega)
      · simp -dsimp (disch := omega) [g0, g4, g5]
        rw [if_neg (by simp [hb])] at w5
        have w6 : (failR 1 b0 b1 b2 (n + 1), L, 0) = W := by
          rcases hc with hc | ⟨hc1, hc2⟩
          · rw [if_pos hc] at w5; exact w5
          · by_cases hbd : badB (rdV L y) = true
            · rw [if_pos hbd] at w5; exact w5
            · rw [if_neg hbd, if_pos hc1, if_pos (hc2.imp (fun q => by simp only at q; omega) id)] at w5; exact w5
        exact fin _ _ (.done _ _ _ _ _ (blks_set_eq _ _ _) (by rw [← w6]) (by rw [← w6]; exact rset _ w4)) (by omega) (fun _ _ _ => rfl) (by rw [msr_end (blks_set_eq _ _ _)]; omega)
      · simp -dsimp (disch := omega) [g0, g4, g5]
        simp only at hn3
        rw [if_neg (by simp [hb]), if_neg (by simp [hc]), if_pos h10, if_neg (by rintro (q | q); omega; exact q h208)] at w5
        obtain ⟨j, rfl⟩ : ∃ j, i = j + 1 := ⟨i - 1, by omega⟩
        rw [goW_succ] at w5
        have hj : 1 - n = j := by omega
        refine fin _ _ (.read j (n + 1) _ _ _ _ _ _ (by omega) (blks_set_eq _ _ _) ?_ (rset _ w4) (by rw [hj]; exact w5)) (by omega) (fun _ _ _ => rfl) (by rw [msr_read (blks_set_eq _ _ _)]; simp only; omega)
        rw [last_at (by omega) (by omega), show n + 1 + 1 - 1 = n + 1 from rfl, nx_new (by omega)]
      all_goals
        rw [if_neg (by simp [hb]), if_neg (by simp [hc]), if_neg h10] at w5
        unfold leafF at w5
        simp only at hlf
        rw [hi3] at hlf
      · simp -dsimp (disch := omega) [g0, g4, g5]
        rw [if_pos hlf] at w5
        exact fin _ _ (.done _ _ _ _ _ (blks_set_eq _ _ _) (by rw [← w5]) (by rw [← w5]; exact rset _ w4)) (by omega) (fun _ _ _ => rfl) (by rw [msr_end (blks_set_eq _ _ _)]; omega)
      · simp -dsimp (disch := omega) [g0, g4, g5]
        rw [if_neg (by simp [hlf]), if_pos hnw] at w5
        refine fin _ _ (.done _ _ _ _ _ (blks_set_eq _ _ _) ?_ (by rw [← w5]; exact rset _ w4)) (by omega) (fun _ _ _ => rfl) (by rw [msr_end (blks_set_eq _ _ _)]; omega)
        rw [← w5, show 2 - n = i by omega]
        unfold fineR
        rw [hnw]
      · simp -dsimp (disch := omega) [g0, g4, g5]
        rw [if_neg (by simp [hlf]), if_neg hnw, w3] at w5
        refine fin _ _ (.put _ _ _ (blks_set_eq _ _ _) ⟨by simp, by simp; omega⟩ hel (rset _ w4) ?_) (by omega) (fun _ _ _ => rfl) (by rw [msr_put (blks_set_eq _ _ _)]; omega)
        rw [← w5, hi3]
        unfold fineR paL
        rw [page_now]
end
end Go.Proofs.Ytkddajmfljlhiaa
