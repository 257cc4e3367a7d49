/-
  A call of both; PlicPlays.
-/
import Derived.Test.YtfdhahnnhaeibaaDoorQ7
set_option linter.unusedSimpArgs false
set_option linter.unusedVariables false
set_option linter.unusedSectionVars false
namespace Go.Proofs.YtfdhahnnhaeibaaDoor
open Go Go.Mini Go.Proofs.Tryd
set_option maxRecDepth 100000

def oneS (a : Act) (s : St) : St :=
  if a.what % 13 < 3 then (if 1 ≤ a.n ∧ a.n < 8 then raiseS s a.n.toNat a.high else s)
  else if a.what % 13 < 7 then (if mayN a.off a.w = true then (readS s a.off).2 else s)
  else (if mayN a.off a.w = true then writeS s a.off a.v else s)
theorem mayN_4 {off : Nat} {w : Int} (hm : mayN off w = true) : off % 4 = 0 := by
  unfold mayN at hm
  simp only [Bool.and_eq_true, decide_eq_true_eq] at hm
  exact hm.1.2
theorem Inv2.one {s : St} (q : Inv2 s) (a : Act) : Inv2 (oneS a s) := by
  unfold oneS
  repeat' split
  · exact q.raise (by omega) _
  · exact q
  · exact q.read _
  · exact q
  · exact q.write _ (mayN_4 (by assumption))
  · exact q
/-- Both stand in one state. -/
structure Two (h h' : Hp) (p r : Nat) (s : St) : Prop where
  inv : Inv2 s
  le : h.next ≤ h'.next
  old : ∀ i, i < h.next → h'.blks i = h.blks i
  bp : h'.blks p = some ⟨stC s, 1, true⟩
  br : h'.blks r = some ⟨rC s, 1, true⟩
  pl : p < h'.next
  rl : r < h'.next
  ne : p ≠ r
  pg : h.next ≤ p
  rg : h.next ≤ r
section
variable {h h0 : Hp} {K : Value → Hp → Prop} {p r : Nat} {s : St}
set_option maxHeartbeats 2000000 in
theorem one_call {a : Act} (ha : a.ok) (q : Two h0 h p r s)
    (hK : ∀ h', h.next ≤ h'.next → (∀ i, i < h.next → i ≠ p → i ≠ r → h'.blks i = h.blks i) → Two h0 h' p r (oneS a s) → K (.bool true) h') : ACall prog 11 [ptr p, ptr r, .agg (actC a).toArray] h K := by
  refine acallF_of tb0 func11 rfl rfl mixed (by kernel_rfl) fun hwf => ?_
  obtain ⟨w, n0, x, off, v, wd⟩ := a
  obtain ⟨o1, o2, o3, o4, o5⟩ := ha
  simp only at o1 o2 o3 o4 o5
  have qi := q.inv
  have qp := q.pl
  have qr := q.rl
  have qn := q.ne
  have qpg := q.pg
  have qrg := q.rg
  have qle := q.le
  rw [show (actC (⟨w, n0, x, off, v, wd⟩ : Act)).toArray = #[.int .u8 w, .int .i64 n0, .bool x, .int .u64 off, .int .u64 v, .int .i64 wd] from rfl]
  obtain ⟨c, hcd⟩ : ∃ c, c = w % 13 := ⟨_, rfl⟩
  have hci : (w : Int) % 13 = c := by omega
  obtain ⟨H, hH⟩ : ∃ H, H = h.alloc ⟨#[.int .u8 w, .int .i64 n0, .bool x, .int .u64 off, .int .u64 v, .int .i64 wd], 1, true⟩ := ⟨_, rfl⟩
  have hB : H.blks h.next = some ⟨#[.int .u8 w, .int .i64 n0, .bool x, .int .u64 off, .int .u64 v, .int .i64 wd], 1, true⟩ := by rw [hH]; exact blks_alloc_eq _ _
  have hHn : H.next = h.next + 1 := by rw [hH]; rfl
  have hHs : ∀ i, i < h.next → H.blks i = h.blks i := fun i hi => by rw [hH]; exact blks_alloc_ne _ _ _ (by omega)
  have bp : H.blks p = some ⟨stC s, 1, true⟩ := (hHs p qp).trans q.bp
  have br : H.blks r = some ⟨rC s, 1, true⟩ := (hHs r qr).trans q.br
  have fin : ∀ (s' : St) (h1 : Hp), oneS ⟨w, n0, x, off, v, wd⟩ s = s' → H.next ≤ h1.next → (∀ i, i < H.next → i ≠ p → i ≠ r → h1.blks i = H.blks i) → h1.blks p = some ⟨stC s', 1, true⟩ → h1.blks r = some ⟨rC s', 1, true⟩ → K (.bool true) h1 := fun s' h1 e1 e2 e3 e4 e5 => by
    refine hK h1 (by omega) (fun i hi g1 g2 => by rw [e3 i (by omega) g1 g2]; exact hHs i hi) ?_
    have qq := qi.one ⟨w, n0, x, off, v, wd⟩
    rw [e1] at qq ⊢
    exact ⟨qq, by omega, fun i hi => by rw [e3 i (by omega) (by omega) (by omega), hHs i (by omega)]; exact q.old i hi, e4, e5, by omega, by omega, qn, qpg, qrg⟩
  unfold oneS at fin
  simp only at fin
  rw [← hcd] at fin
  by_cases c3 : c < 3
  · rw [if_pos c3] at fin
    rcases (by omega : c = 0 ∨ c = 1 ∨ c = 2) with hc | hc | hc
    · have hci : (w : Int) % 13 = 0 := by omega
      simp -dsimp (disch := omega) [hci, ← hH, hB]
      refine raise_call bp (fun hn => ?_) (fun m hm m1 m8 => ?_)
      · simp -dsimp (disch := omega) [← hH, hB]
        refine refRaise_call qi br (by omega) (fun _ => ?_) (fun m hm m1 m8 => absurd hn (by omega))
        simp -dsimp (disch := omega)
        exact RetF.all (r := .bool true) (by simp) (fin s H (by rw [if_neg (by omega)]) (Nat.le_refl _) (fun _ _ _ _ => rfl) bp br)
      · subst hm
        simp -dsimp (disch := omega) [hB]
        refine refRaise_call qi (by rw [blks_set_ne _ _ _ _ (Ne.symm qn)]; exact br) (by simp; omega) (fun hn => absurd hn (by omega)) (fun m' hm' _ _ => ?_)
        obtain rfl : m = m' := by omega
        simp -dsimp (disch := omega)
        refine RetF.all (r := .bool true) (by simp) (fin (raiseS s m x) _ (by rw [if_pos (by omega)]; rfl) (by simp) (fun i _ g1 g2 => by rw [blks_set_ne _ _ _ _ g2, blks_set_ne _ _ _ _ g1]) (by rw [blks_set_ne _ _ _ _ qn]; exact blks_set_eq _ _ _) ?_)
        have e : rA (raiseS s m x) (enB s) = rC (raiseS s m x) := rC_set1 (by unfold raiseS gateS; split <;> rfl)
        rw [e]
        exact blks_set_eq _ _ _
    · have hci : (w : Int) % 13 = 1 := by omega
      simp -dsimp (disch := omega) [hci, ← hH, hB]
      refine raise_call bp (fun hn => ?_) (fun m hm m1 m8 => ?_)
      · simp -dsimp (disch := omega) [← hH, hB]
        refine refRaise_call qi br (by omega) (fun _ => ?_) (fun m hm m1 m8 => absurd hn (by omega))
        simp -dsimp (disch := omega)
        exact RetF.all (r := .bool true) (by simp) (fin s H (by rw [if_neg (by omega)]) (Nat.le_refl _) (fun _ _ _ _ => rfl) bp br)
      · subst hm
        simp -dsimp (disch := omega) [hB]
        refine refRaise_call qi (by rw [blks_set_ne _ _ _ _ (Ne.symm qn)]; exact br) (by simp; omega) (fun hn => absurd hn (by omega)) (fun m' hm' _ _ => ?_)
        obtain rfl : m = m' := by omega
        simp -dsimp (disch := omega)
        refine RetF.all (r := .bool true) (by simp) (fin (raiseS s m x) _ (by rw [if_pos (by omega)]; rfl) (by simp) (fun i _ g1 g2 => by rw [blks_set_ne _ _ _ _ g2, blks_set_ne _ _ _ _ g1]) (by rw [blks_set_ne _ _ _ _ qn]; exact blks_set_eq _ _ _) ?_)
        have e : rA (raiseS s m x) (enB s) = rC (raiseS s m x) := rC_set1 (by unfold raiseS gateS; split <;> rfl)
        rw [e]
        exact blks_set_eq _ _ _
    · have hci : (w : Int) % 13 = 2 := by omega
      simp -dsimp (disch := omega) [hci, ← hH, hB]
      refine raise_call bp (fun hn => ?_) (fun m hm m1 m8 => ?_)
      · simp -dsimp (disch := omega) [← hH, hB]
        refine refRaise_call qi br (by omega) (fun _ => ?_) (fun m hm m1 m8 => absurd hn (by omega))
        simp -dsimp (disch := omega)
        exact RetF.all (r := .bool true) (by simp) (fin s H (by rw [if_neg (by omega)]) (Nat.le_refl _) (fun _ _ _ _ => rfl) bp br)
      · subst hm
        simp -dsimp (disch := omega) [hB]
        refine refRaise_call qi (by rw [blks_set_ne _ _ _ _ (Ne.symm qn)]; exact br) (by simp; omega) (fun hn => absurd hn (by omega)) (fun m' hm' _ _ => ?_)
        obtain rfl : m = m' := by omega
        simp -dsimp (disch := omega)
        refine RetF.all (r := .bool true) (by simp) (fin (raiseS s m x) _ (by rw [if_pos (by omega)]; rfl) (by simp) (fun i _ g1 g2 => by rw [blks_set_ne _ _ _ _ g2, blks_set_ne _ _ _ _ g1]) (by rw [blks_set_ne _ _ _ _ qn]; exact blks_set_eq _ _ _) ?_)
        have e : rA (raiseS s m x) (enB s) = rC (raiseS s m x) := rC_set1 (by unfold raiseS gateS; split <;> rfl)
        rw [e]
        exact blks_set_eq _ _ _
  · rw [if_neg c3] at fin
    by_cases c7 : c < 7
    · rw [if_pos c7] at fin
      rcases (by omega : c = 3 ∨ c = 4 ∨ c = 5 ∨ c = 6) with hc | hc | hc | hc
      · have hci : (w : Int) % 13 = 3 := by omega
        simp -dsimp (disch := omega) [hci, ← hH, hB]
        refine read_call bp qi.ok (by omega) o3 (fun hm => ?_) (fun hm h1 u1 u2 u3 => ?_)
        · simp -dsimp (disch := omega) [← hH, hB]
          refine refRead_call qi br (by omega) o3 (fun _ => ?_) (fun hm2 => absurd hm2 (by rw [hm]; simp))
          simp -dsimp (disch := omega)
          exact RetF.all (r := .bool true) (by simp) (fin s H (by rw [if_neg (by rw [hm]; simp)]) (Nat.le_refl _) (fun _ _ _ _ => rfl) bp br)
        · have br1 : h1.blks r = some ⟨rC s, 1, true⟩ := (u1 r (by omega) (Ne.symm qn)).trans br
          have hB1 := (u1 h.next (by omega) (by omega)).trans hB
          simp -dsimp (disch := omega) [hB1]
          refine refRead_call qi br1 (by omega) o3 (fun hm2 => absurd hm2 (by rw [hm]; simp)) (fun _ => ?_)
          simp -dsimp (disch := omega)
          exact RetF.all (r := .bool true) (by simp) (fin (readS s off).2 _ (by rw [if_pos hm]) (by simp; omega) (fun i hi g1 g2 => by rw [blks_set_ne _ _ _ _ g2]; exact u1 i hi g1) (by rw [blks_set_ne _ _ _ _ qn]; exact u3) (blks_set_eq _ _ _))
      · have hci : (w : Int) % 13 = 4 := by omega
        simp -dsimp (disch := omega) [hci, ← hH, hB]
        refine read_call bp qi.ok (by omega) o3 (fun hm => ?_) (fun hm h1 u1 u2 u3 => ?_)
        · simp -dsimp (disch := omega) [← hH, hB]
          refine refRead_call qi br (by omega) o3 (fun _ => ?_) (fun hm2 => absurd hm2 (by rw [hm]; simp))
          simp -dsimp (disch := omega)
          exact RetF.all (r := .bool true) (by simp) (fin s H (by rw [if_neg (by rw [hm]; simp)]) (Nat.le_refl _) (fun _ _ _ _ => rfl) bp br)
        · have br1 : h1.blks r = some ⟨rC s, 1, true⟩ := (u1 r (by omega) (Ne.symm qn)).trans br
          have hB1 := (u1 h.next (by omega) (by omega)).trans hB
          simp -dsimp (disch := omega) [hB1]
          refine refRead_call qi br1 (by omega) o3 (fun hm2 => absurd hm2 (by rw [hm]; simp)) (fun _ => ?_)
          simp -dsimp (disch := omega)
          exact RetF.all (r := .bool true) (by simp) (fin (readS s off).2 _ (by rw [if_pos hm]) (by simp; omega) (fun i hi g1 g2 => by rw [blks_set_ne _ _ _ _ g2]; exact u1 i hi g1) (by rw [blks_set_ne _ _ _ _ qn]; exact u3) (blks_set_eq _ _ _))
      · have hci : (w : Int) % 13 = 5 := by omega
        simp -dsimp (disch := omega) [hci, ← hH, hB]
        refine read_call bp qi.ok (by omega) o3 (fun hm => ?_) (fun hm h1 u1 u2 u3 => ?_)
        · simp -dsimp (disch := omega) [← hH, hB]
          refine refRead_call qi br (by omega) o3 (fun _ => ?_) (fun hm2 => absurd hm2 (by rw [hm]; simp))
          simp -dsimp (disch := omega)
          exact RetF.all (r := .bool true) (by simp) (fin s H (by rw [if_neg (by rw [hm]; simp)]) (Nat.le_refl _) (fun _ _ _ _ => rfl) bp br)
        · have br1 : h1.blks r = some ⟨rC s, 1, true⟩ := (u1 r (by omega) (Ne.symm qn)).trans br
          have hB1 := (u1 h.next (by omega) (by omega)).trans hB
          simp -dsimp (disch := omega) [hB1]
          refine refRead_call qi br1 (by omega) o3 (fun hm2 => absurd hm2 (by rw [hm]; simp)) (fun _ => ?_)
          simp -dsimp (disch := omega)
          exact RetF.all (r := .bool true) (by simp) (fin (readS s off).2 _ (by rw [if_pos hm]) (by simp; omega) (fun i hi g1 g2 => by rw [blks_set_ne _ _ _ _ g2]; exact u1 i hi g1) (by rw [blks_set_ne _ _ _ _ qn]; exact u3) (blks_set_eq _ _ _))
      · have hci : (w : Int) % 13 = 6 := by omega
        simp -dsimp (disch := omega) [hci, ← hH, hB]
        refine read_call bp qi.ok (by omega) o3 (fun hm => ?_) (fun hm h1 u1 u2 u3 => ?_)
        · simp -dsimp (disch := omega) [← hH, hB]
          refine refRead_call qi br (by omega) o3 (fun _ => ?_) (fun hm2 => absurd hm2 (by rw [hm]; simp))
          simp -dsimp (disch := omega)
          exact RetF.all (r := .bool true) (by simp) (fin s H (by rw [if_neg (by rw [hm]; simp)]) (Nat.le_refl _) (fun _ _ _ _ => rfl) bp br)
        · have br1 : h1.blks r = some ⟨rC s, 1, true⟩ := (u1 r (by omega) (Ne.symm qn)).trans br
          have hB1 := (u1 h.next (by omega) (by omega)).trans hB
          simp -dsimp (disch := omega) [hB1]
          refine refRead_call qi br1 (by omega) o3 (fun hm2 => absurd hm2 (by rw [hm]; simp)) (fun _ => ?_)
          simp -dsimp (disch := omega)
          exact RetF.all (r := .bool true) (by simp) (fin (readS s off).2 _ (by rw [if_pos hm]) (by simp; omega) (fun i hi g1 g2 => by rw [blks_set_ne _ _ _ _ g2]; exact u1 i hi g1) (by rw [blks_set_ne _ _ _ _ qn]; exact u3) (blks_set_eq _ _ _))
    · rw [if_neg c7] at fin
      have k0 : ¬ (c : Int) = 0 := by omega
      have l0 : ¬ c = 0 := by omega
      have k1 : ¬ (c : Int) = 1 := by omega
      have l1 : ¬ c = 1 := by omega
      have k2 : ¬ (c : Int) = 2 := by omega
      have l2 : ¬ c = 2 := by omega
      have k3 : ¬ (c : Int) = 3 := by omega
      have l3 : ¬ c = 3 := by omega
      have k4 : ¬ (c : Int) = 4 := by omega
      have l4 : ¬ c = 4 := by omega
      have k5 : ¬ (c : Int) = 5 := by omega
      have l5 : ¬ c = 5 := by omega
      have k6 : ¬ (c : Int) = 6 := by omega
      have l6 : ¬ c = 6 := by omega
      simp -dsimp (disch := omega) [hci, ← hH, hB, k0, l0, k1, l1, k2, l2, k3, l3, k4, l4, k5, l5, k6, l6]
      refine write_call bp qi.ok (by omega) o3 o4 (fun hm => ?_) (fun hm h1 u1 u2 u3 => ?_)
      · simp -dsimp (disch := omega) [← hH, hB]
        refine refWrite_call qi br (by omega) o3 o4 (fun _ => ?_) (fun hm2 => absurd hm2 (by rw [hm]; simp))
        simp -dsimp (disch := omega)
        exact RetF.all (r := .bool true) (by simp) (fin s H (by rw [if_neg (by rw [hm]; simp)]) (Nat.le_refl _) (fun _ _ _ _ => rfl) bp br)
      · have br1 : h1.blks r = some ⟨rC s, 1, true⟩ := (u1 r (by omega) (Ne.symm qn)).trans br
        have hB1 := (u1 h.next (by omega) (by omega)).trans hB
        simp -dsimp (disch := omega) [hB1]
        refine refWrite_call qi br1 (by omega) o3 o4 (fun hm2 => absurd hm2 (by rw [hm]; simp)) (fun _ => ?_)
        simp -dsimp (disch := omega)
        exact RetF.all (r := .bool true) (by simp) (fin (writeS s off v) _ (by rw [if_pos hm]) (by simp; omega) (fun i hi g1 g2 => by rw [blks_set_ne _ _ _ _ g2]; exact u1 i hi g1) (by rw [blks_set_ne _ _ _ _ qn]; exact u3) (blks_set_eq _ _ _))
end
end Go.Proofs.YtfdhahnnhaeibaaDoor
