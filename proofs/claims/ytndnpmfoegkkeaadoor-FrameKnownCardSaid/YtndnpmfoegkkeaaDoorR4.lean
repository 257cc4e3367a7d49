/-
  The program's Text.
-/
import Derived.Test.YtndnpmfoegkkeaaDoorR3
set_option linter.unusedSimpArgs false
set_option linter.unusedVariables false
set_option linter.unusedSectionVars false
namespace Go.Proofs.YtndnpmfoegkkeaaDoor
open Go Go.Mini Go.Proofs.Tryd
set_option maxRecDepth 100000

def strV (l : List UInt8) : Value := .string (txt l)
def tb10 : Nat → Marks := fun k => if k = 7 then ⟨[0, 6], fun _ => True⟩ else ⟨[], fun _ => True⟩
@[simp] theorem tb10_l7 : (tb10 7).l = [0, 6] := rfl
@[simp] theorem tb10_R (k x : Nat) : (tb10 k).R x := by unfold tb10; split <;> trivial
section
variable {h : Hp} {K : Value → Hp → Prop} {p : Nat} {l : List Win}
set_option maxHeartbeats 2000000 in
theorem text_call (q : Tab h p l) (hok : ∀ w ∈ l, w.ok) (hl : 0 < l.length) (hl2 : l.length ≤ 32) (ht : PowAt h) (hK : K (.string (txt (textK l l.length))) h) : ACall prog 10 [ptr p] h K := by
  refine acallF_of tb10 func10 rfl rfl mixed (by kernel_rfl) fun hwf => ?_
  have h100 : 100 < h.next := hwf.lt _ _ ht
  simp -dsimp (disch := omega)
  refine windows_call ?_
  simp -dsimp (disch := omega)
  refine awpF_gen fun T G hT hG => ?_
  obtain ⟨vl, vb, q⟩ := q
  have q : TabV h p l vl vb := q
  have gn : G.next = h.next + 2 := by rw [hG]; simp
  have gs : ∀ i, i < h.next → G.blks i = h.blks i := fun i hi => by rw [hG]; simp (disch := omega)
  have g0 : G.blks h.next = some ⟨#[.slice none 0 0], 1, true⟩ := by rw [hG]; simp (disch := omega)
  have g1 : G.blks (h.next + 1) = some ⟨#[ptr p], 1, true⟩ := by rw [hG]; simp (disch := omega)
  have T8 : T 8 = .func (.func 29) #[] #[ptr (h.next + 1)] := by rw [hT]; rfl
  have T3 : T 3 = ptr h.next := by rw [hT]; rfl
  clear hT hG
  obtain ⟨J, hJ⟩ : ∃ J : Nat → Hp → Prop, J = fun k hh => hh.jump = none ∧ h.next + 3 ≤ hh.next ∧ (∀ i, i < h.next → hh.blks i = h.blks i) ∧ hh.blks (h.next + 1) = some ⟨#[ptr p], 1, true⟩ ∧ ∃ v, hh.blks h.next = some ⟨#[v], 1, true⟩ ∧ Row (h.next + 2) hh 1 k ((piecesK l k).map strV) v := ⟨_, rfl⟩
  refine awp_rangeN (fun args hh K => ∃ k w, l[k]? = some w ∧ J k hh ∧ args = [.int .u64 (sumS (l.take k) : Nat), .agg #[.int .u8 w.g, .int .u16 w.s]] ∧ K = fun r h' => (r = .bool true ∧ J (k + 1) h') ∨ (r = .bool false ∧ False)) (J l.length) T8 (by kernel_rfl) (by simp) rfl rfl ?_ ?_ ?_
  · rintro args hh K ⟨k, w, hx, hj, rfl, rfl⟩
    rw [hJ] at hj
    obtain ⟨j1, j2, j3, j4, v, j5, j6⟩ := hj
    refine ⟨⟨j1, by omega, rfl⟩, ?_⟩
    have hkl : k < l.length := (List.getElem?_eq_some_iff.1 hx).1
    have hsk := sumS_le hok k
    have ps := piecesK_succ hx
    have wo := hok w (List.mem_of_getElem? hx)
    obtain ⟨wg, ws⟩ := w
    obtain ⟨wo1, wo2⟩ := wo
    simp only at wo1 wo2
    unfold piece at ps
    simp only at ps
    have l1 := dec_len5 (n := wg) (by omega)
    have l2 := dec_len5 wo2
    have pw : ∀ h' : Hp, (∀ i, i < h.next → h'.blks i = h.blks i) → PowAt h' := fun h' hs => by unfold PowAt; rw [hs _ h100]; exact ht
    refine vcF_sound mixed (tb := tb0) _ (by kernel_rfl) ?_
    simp -dsimp (disch := omega) [setPs]
    refine vcF_sound mixed (tb := tb10) _ (by kernel_rfl) ?_
    have d1 : ∀ {h' : Hp} {K : Value → Hp → Prop}, (∀ i, i < h.next → h'.blks i = h.blks i) → K (.string (txt (Lib.decDigits wg))) h' → ACall prog 24 [.int .i64 wg] h' K := fun hs hk => itoa_call (by omega) (pw _ hs) hk
    have d2 : ∀ {h' : Hp} {K : Value → Hp → Prop}, (∀ i, i < h.next → h'.blks i = h.blks i) → K (.string (txt (Lib.decDigits ws))) h' → ACall prog 24 [.int .i64 ws] h' K := fun hs hk => itoa_call wo2 (pw _ hs) hk
    generalize Lib.decDigits wg = G1 at *
    generalize Lib.decDigits ws = S1 at *
    have fin : ∀ (X : List UInt8) (h1 : Hp) (v' : Value), piecesK l (k + 1) = piecesK l k ++ [X] → True := fun _ _ _ _ => trivial
    by_cases c : wg = 255
    · rw [if_pos c] at ps
      have c' : (wg : Int) = 255 := by omega
      simp -dsimp (disch := first | omega | (simp; done) | (simp; omega)) [T3, j5, c, c']
      refine d2 (fun i hi => (blks_alloc_ne hh i _ (by omega)).trans (j3 i hi)) ?_
      simp -dsimp (disch := first | omega | (simp; done) | (simp; omega)) [T3, j5]
      refine app_rowJ ((j6.alloc _).alloc _) (by simp; omega) (src_slice _ _ _ _ _ #[strV (45 :: 58 :: S1)] (by simp [strV])) (by omega) (by simp) (by unfold ROOM; omega) fun v' h3 r1 r2 rj r3 r4 => ?_
      obtain ⟨va, vc, rfl⟩ := r1.slice
      have j1x : h3.jump = none := by rw [rj]; exact j1
      have b3 : h3.blks h.next = some ⟨#[v], 1, true⟩ := by
        rw [r4 _ (by simp; omega) (fun e => by have := (j6.blk _ e).1; omega), blks_alloc_ne _ _ _ (by simp; omega), blks_alloc_ne _ _ _ (by omega)]
        exact j5
      have n3 : h3.next = hh.next + 3 := by rw [r2]; simp
      simp -dsimp (disch := omega) [T3, b3]
      rw [hJ]
      refine ⟨j1x, by simp; omega, fun i hi => ?_, ?_, _, by exact blks_set_eq _ _ _, ?_⟩
      · rw [blks_set_ne _ _ _ _ (by omega), r4 _ (by simp; omega) (fun e => by have := (j6.blk _ e).1; omega), blks_alloc_ne _ _ _ (by simp; omega), blks_alloc_ne _ _ _ (by omega)]
        exact j3 i hi
      · rw [blks_set_ne _ _ _ _ (by omega), r4 _ (by simp; omega) (fun e => by have := (j6.blk _ e).1; omega), blks_alloc_ne _ _ _ (by simp; omega), blks_alloc_ne _ _ _ (by omega)]
        exact j4
      · rw [ps]
        exact (Row.set (by simpa [strV] using r1) _ _ (fun e => by rw [r3] at e; simp at e; omega))
    · rw [if_neg c] at ps
      have c' : ¬ (wg : Int) = 255 := by omega
      simp -dsimp (disch := first | omega | (simp; done) | (simp; omega)) [T3, j5, c, c']
      refine d1 (fun i hi => (blks_alloc_ne hh i _ (by omega)).trans (j3 i hi)) ?_
      simp -dsimp (disch := first | omega | (simp; done) | (simp; omega)) [T3, j5]
      refine d2 (fun i hi => (blks_alloc_ne hh i _ (by omega)).trans (j3 i hi)) ?_
      simp -dsimp (disch := first | omega | (simp; done) | (simp; omega)) [T3, j5]
      refine app_rowJ ((j6.alloc _).alloc _) (by simp; omega) (src_slice _ _ _ _ _ #[strV (G1 ++ 58 :: S1)] (by simp [strV])) (by omega) (by simp) (by unfold ROOM; omega) fun v' h3 r1 r2 rj r3 r4 => ?_
      obtain ⟨va, vc, rfl⟩ := r1.slice
      have j1x : h3.jump = none := by rw [rj]; exact j1
      have b3 : h3.blks h.next = some ⟨#[v], 1, true⟩ := by
        rw [r4 _ (by simp; omega) (fun e => by have := (j6.blk _ e).1; omega), blks_alloc_ne _ _ _ (by simp; omega), blks_alloc_ne _ _ _ (by omega)]
        exact j5
      have n3 : h3.next = hh.next + 3 := by rw [r2]; simp
      simp -dsimp (disch := omega) [T3, b3]
      rw [hJ]
      refine ⟨j1x, by simp; omega, fun i hi => ?_, ?_, _, by exact blks_set_eq _ _ _, ?_⟩
      · rw [blks_set_ne _ _ _ _ (by omega), r4 _ (by simp; omega) (fun e => by have := (j6.blk _ e).1; omega), blks_alloc_ne _ _ _ (by simp; omega), blks_alloc_ne _ _ _ (by omega)]
        exact j3 i hi
      · rw [blks_set_ne _ _ _ _ (by omega), r4 _ (by simp; omega) (fun e => by have := (j6.blk _ e).1; omega), blks_alloc_ne _ _ _ (by simp; omega), blks_alloc_ne _ _ _ (by omega)]
        exact j4
      · rw [ps]
        exact (Row.set (by simpa [strV] using r1) _ _ (fun e => by rw [r3] at e; simp at e; omega))
  · intro h' hj
    rw [hJ] at hj
    obtain ⟨j1, j2, j3, j4, v, j5, j6⟩ := hj
    refine ⟨j1, ?_⟩
    have tl := textK_len hok l.length (Nat.le_refl _)
    have jr : Row (h.next + 2) { h' with jump := G.jump } 1 (piecesK l l.length).length ((piecesK l l.length).map strV) v := by
      rw [piecesK_len (Nat.le_refl _)]
      exact j6
    simp -dsimp (disch := omega) [T3, j5]
    refine join_call (m := h.next + 2) (xs := piecesK l l.length) (sep := [32]) jr (fun e => by have := piecesK_len (l := l) (Nat.le_refl _); rw [e] at this; simp at this; omega) (by rw [piecesK_len (Nat.le_refl _)]; omega) (by show (textK l l.length).length ≤ _; omega) ?_
    simp -dsimp (disch := omega)
    exact RetF.same (r := .string (txt (textK l l.length))) hwf (by simp; rfl) (Nat.zero_le _) j3 hK
  · intro E1 hcan hY
    refine each_call hcan J (fun _ => False) (q.mono (by show h.next ≤ G.next + 1; omega) (fun i hi => gs i hi)) hl hl2 g1 ?_ ?_ ?_ ?_ ?_
    · intro k hh hj
      rw [hJ] at hj
      obtain ⟨j1, j2, j3, j4, v, j5, j6⟩ := hj
      exact ⟨q.mono (by omega) j3, j4, by omega⟩
    · rw [hJ]
      exact ⟨rfl, by show h.next + 3 ≤ G.next + 1; omega, gs, g1, _, g0, Row.nil _ _ _⟩
    · intro k hh b hj
      rw [hJ] at hj ⊢
      obtain ⟨j1, j2, j3, j4, v, j5, j6⟩ := hj
      exact ⟨j1, by simp; omega, fun i hi => by rw [blks_alloc_ne _ _ _ (by omega)]; exact j3 i hi, by rw [blks_alloc_ne _ _ _ (by omega)]; exact j4, v, by rw [blks_alloc_ne _ _ _ (by omega)]; exact j5, j6.alloc b⟩
    · intro k hh w hx hj
      exact hY _ _ _ ⟨k, w, hx, hj, rfl, rfl⟩
    · rintro h' (hj | hj)
      · exact hj
      · exact hj.elim
end
end Go.Proofs.YtndnpmfoegkkeaaDoor
