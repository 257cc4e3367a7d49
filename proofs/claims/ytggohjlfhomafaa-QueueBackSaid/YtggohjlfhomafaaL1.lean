/-
  A source told as what is left of its text.
-/
import Derived.Test.YtggohjlfhomafaaC5
set_option linter.unusedSimpArgs false
set_option linter.unusedVariables false
set_option linter.unusedSectionVars false
namespace Go.Proofs.Ytggohjlfhomafaa
open Go Go.Mini Go.Proofs.Try

theorem ext_txt (L : List UInt8) (i j : Nat) : (txt L).extract i j = txt ((L.drop i).take (j - i)) := by
  apply ByteArray.ext
  rw [ByteArray.data_extract]
  show L.toArray.extract i j = ((L.drop i).take (j - i)).toArray
  apply Array.ext'
  simp [List.take_drop]
/-- This block alone is changed. -/
structure Mod (s : Nat) (h h' : Hp) : Prop where
  le : h.next ≤ h'.next
  same : ∀ i, i < h.next → i ≠ s → h'.blks i = h.blks i
theorem Mod.refl (s : Nat) (h : Hp) : Mod s h h := ⟨Nat.le_refl _, fun _ _ _ => rfl⟩
theorem Mod.trans {s : Nat} {h h' h'' : Hp} (a : Mod s h h') (b : Mod s h' h'') : Mod s h h'' := ⟨Nat.le_trans a.le b.le, fun i hi hn => (b.same i (Nat.lt_of_lt_of_le hi a.le) hn).trans (a.same i hi hn)⟩
theorem Mod.of_set {s : Nat} {h h' : Hp} {b : Blk} (a : Ext (h.set s b) h') : Mod s h h' := ⟨a.le, fun i hi hn => (a.same i hi).trans (blks_set_ne _ _ _ _ hn)⟩

def SrcL (h : Hp) (b s : Nat) (r : Option (List UInt8)) : Prop :=
  ∃ (p q : Nat) (L : List UInt8) (at_ : Nat) (left : Int) (torn : Bool), Srce h s p q (txt L) at_ left torn ∧ b ≤ s ∧ b ≤ p ∧ b ≤ q ∧ (r = none → torn = true) ∧ (∀ l, r = some l → torn = false ∧ l = L.drop at_ ∧ left = l.length)
theorem SrcL.mono {h h' : Hp} {b s : Nat} {r : Option (List UInt8)} (hs : SrcL h b s r) (hn : h.next ≤ h'.next) (he : ∀ i, b ≤ i → i < h.next → h'.blks i = h.blks i) : SrcL h' b s r := by
  obtain ⟨p, q, L, a, left, torn, g, b1, b2, b3, r1⟩ := hs
  exact ⟨p, q, L, a, left, torn, ⟨by rw [he _ b1 g.ls]; exact g.bs, by rw [he _ b2 g.lp]; exact g.bp, by rw [he _ b3 g.lq]; exact g.bq, by have := g.ls; omega, by have := g.lp; omega, by have := g.lq; omega, g.ps, g.qs, g.at0, g.left0, g.sum, g.len⟩, b1, b2, b3, r1⟩

section
variable {h : Hp} {K : Value → Hp → Prop} {b s : Nat}
theorem ofL {L : List UInt8} (hl : L.length ≤ 2000) (hK : ∀ h' s, SrcL h' h.next s (some L) → s < h'.next → Ext h h' → K (.pointer (some ⟨s, 0, none⟩)) h') : ACall prog 28 [.string (txt L)] h K :=
  of_call (by rw [txt_size]; omega) fun h' s p q hs h1 h2 h3 he => hK h' s ⟨p, q, L, 0, _, false, hs, h1, h2, h3, (by intro e; cases e), (by intro l e; cases e; exact ⟨rfl, rfl, by rw [txt_size]⟩)⟩ hs.ls he
theorem takeN (hs : SrcL h b s none) (hK : ∀ h', SrcL h' b s none → Mod s h h' → K (.int .u64 0) h') : ACall prog 29 [.pointer (some ⟨s, 0, none⟩), .int .i64 1] h K := by
  obtain ⟨p, q, L, a, left, torn, g, b1, b2, b3, r1, r2⟩ := hs
  cases r1 rfl
  refine taken_call g fun h' he => ?_
  have ha := (g.after (n := wideF 1) (by decide)).ext he
  have e : got (txt L) a left true (wideF 1) = txt [] := by simp [got]
  rw [e]
  exact hK h' ⟨p, q, L, a, left, true, by simpa [nxtA, nxtL, nxtT] using ha, b1, b2, b3, fun _ => rfl, fun l e => by cases e⟩ (Mod.of_set he)
theorem take0 (hs : SrcL h b s (some [])) (hK : ∀ h', SrcL h' b s none → Mod s h h' → K (.int .u64 0) h') : ACall prog 29 [.pointer (some ⟨s, 0, none⟩), .int .i64 1] h K := by
  obtain ⟨p, q, L, a, left, torn, g, b1, b2, b3, r1, r2⟩ := hs
  obtain ⟨rfl, r3, rfl⟩ := r2 _ rfl
  refine taken_call g fun h' he => ?_
  have ha := (g.after (n := wideF 1) (by decide)).ext he
  have w1 : wideF 1 = 1 := by decide
  have e : got (txt L) a ((([] : List UInt8).length : Nat) : Int) false (wideF 1) = txt [] := by unfold got; rw [if_pos (by rw [w1]; simp)]
  have e2 : nxtA a ((([] : List UInt8).length : Nat) : Int) false (wideF 1) = a := by unfold nxtA; rw [if_pos (by rw [w1]; simp)]
  have e3 : nxtL ((([] : List UInt8).length : Nat) : Int) false (wideF 1) = (([] : List UInt8).length : Nat) := by unfold nxtL; rw [if_pos (by rw [w1]; simp)]
  have e4 : nxtT ((([] : List UInt8).length : Nat) : Int) false (wideF 1) = true := by unfold nxtT; rw [if_pos (by rw [w1]; simp)]
  rw [e]
  rw [e2, e3, e4] at ha
  exact hK h' ⟨p, q, L, a, _, true, ha, b1, b2, b3, fun _ => rfl, fun l e => by cases e⟩ (Mod.of_set he)
theorem take1 {x : UInt8} {l : List UInt8} (hs : SrcL h b s (some (x :: l))) (hK : ∀ h', SrcL h' b s (some l) → Mod s h h' → K (.int .u64 x.toNat) h') : ACall prog 29 [.pointer (some ⟨s, 0, none⟩), .int .i64 1] h K := by
  obtain ⟨p, q, L, a, left, torn, g, b1, b2, b3, r1, r2⟩ := hs
  obtain ⟨rfl, r3, rfl⟩ := r2 _ rfl
  refine taken_call g fun h' he => ?_
  have ha := (g.after (n := wideF 1) (by decide)).ext he
  have w1 : wideF 1 = 1 := by decide
  have nc : ¬ (false = true ∨ (((x :: l).length : Nat) : Int) < wideF 1) := by rw [w1]; simp; omega
  have e : got (txt L) a (((x :: l).length : Nat) : Int) false (wideF 1) = txt [x] := by
    unfold got
    rw [if_neg nc, w1, ext_txt, show (a : Int).toNat = a from by omega, show ((a : Int) + 1).toNat - a = 1 from by omega, ← r3]
    rfl
  have e2 : nxtA a (((x :: l).length : Nat) : Int) false (wideF 1) = ((a + 1 : Nat) : Int) := by unfold nxtA; rw [if_neg nc, w1]; omega
  have e3 : nxtL (((x :: l).length : Nat) : Int) false (wideF 1) = (l.length : Nat) := by unfold nxtL; rw [if_neg nc, w1]; simp
  have e4 : nxtT (((x :: l).length : Nat) : Int) false (wideF 1) = false := by unfold nxtT; rw [if_neg nc]
  rw [e]
  rw [e2, e3, e4] at ha
  have en : numTo (txt [x]) (txt [x]).size = x.toNat := by
    rw [numTo_list _ _ (Nat.le_refl _)]
    show numL [x] = _
    simp [numL]
  rw [en]
  refine hK h' ⟨p, q, L, a + 1, _, false, ha, b1, b2, b3, (by intro e; cases e), ?_⟩ (Mod.of_set he)
  intro l' e
  cases e
  refine ⟨rfl, ?_, rfl⟩
  rw [← List.drop_drop, ← r3]
  rfl
theorem textN {n : Nat} (hs : SrcL h b s none) (hK : ∀ h', SrcL h' b s none → Mod s h h' → K (.string (txt [])) h') : ACall prog 30 [.pointer (some ⟨s, 0, none⟩), .int .i64 n] h K := by
  obtain ⟨p, q, L, a, left, torn, g, b1, b2, b3, r1, r2⟩ := hs
  cases r1 rfl
  have c0 : cut0 (n : Int) = n := by unfold cut0; rw [if_neg (by omega)]
  refine text_call g ?_
  rw [c0]
  have ha := (g.after (n := n) (by omega))
  have e : got (txt L) a left true n = txt [] := by simp [got]
  rw [e]
  exact hK _ ⟨p, q, L, a, left, true, by simpa [nxtA, nxtL, nxtT] using ha, b1, b2, b3, fun _ => rfl, fun l e => by cases e⟩ (Mod.of_set (Ext.refl _))
theorem text0 {n : Nat} {l : List UInt8} (hs : SrcL h b s (some l)) (hl : l.length < n) (hK : ∀ h', SrcL h' b s none → Mod s h h' → K (.string (txt [])) h') : ACall prog 30 [.pointer (some ⟨s, 0, none⟩), .int .i64 n] h K := by
  obtain ⟨p, q, L, a, left, torn, g, b1, b2, b3, r1, r2⟩ := hs
  obtain ⟨rfl, r3, rfl⟩ := r2 _ rfl
  have c0 : cut0 (n : Int) = n := by unfold cut0; rw [if_neg (by omega)]
  refine text_call g ?_
  rw [c0]
  have ha := (g.after (n := n) (by omega))
  have pc : false = true ∨ ((l.length : Nat) : Int) < n := .inr (by omega)
  have e : got (txt L) a (l.length : Nat) false n = txt [] := by unfold got; rw [if_pos pc]
  have e2 : nxtA a (l.length : Nat) false n = a := by unfold nxtA; rw [if_pos pc]
  have e3 : nxtL (l.length : Nat) false n = (l.length : Nat) := by unfold nxtL; rw [if_pos pc]
  have e4 : nxtT (l.length : Nat) false n = true := by unfold nxtT; rw [if_pos pc]
  rw [e]
  rw [e2, e3, e4] at ha
  exact hK _ ⟨p, q, L, a, _, true, ha, b1, b2, b3, fun _ => rfl, fun l e => by cases e⟩ (Mod.of_set (Ext.refl _))
theorem text1 {n : Nat} {l : List UInt8} (hs : SrcL h b s (some l)) (hl : n ≤ l.length) (hK : ∀ h', SrcL h' b s (some (l.drop n)) → Mod s h h' → K (.string (txt (l.take n))) h') : ACall prog 30 [.pointer (some ⟨s, 0, none⟩), .int .i64 n] h K := by
  obtain ⟨p, q, L, a, left, torn, g, b1, b2, b3, r1, r2⟩ := hs
  obtain ⟨rfl, r3, rfl⟩ := r2 _ rfl
  have c0 : cut0 (n : Int) = n := by unfold cut0; rw [if_neg (by omega)]
  refine text_call g ?_
  rw [c0]
  have ha := (g.after (n := n) (by omega))
  have pc : ¬ (false = true ∨ ((l.length : Nat) : Int) < n) := by simp; omega
  have e : got (txt L) a (l.length : Nat) false n = txt (l.take n) := by
    unfold got
    rw [if_neg pc, ext_txt, show (a : Int).toNat = a from by omega, show ((a : Int) + n).toNat - a = n from by omega, ← r3]
  have e2 : nxtA a (l.length : Nat) false n = ((a + n : Nat) : Int) := by unfold nxtA; rw [if_neg pc]; omega
  have e3 : nxtL (l.length : Nat) false n = ((l.drop n).length : Nat) := by unfold nxtL; rw [if_neg pc, List.length_drop]; omega
  have e4 : nxtT (l.length : Nat) false n = false := by unfold nxtT; rw [if_neg pc]
  rw [e]
  rw [e2, e3, e4] at ha
  refine hK _ ⟨p, q, L, a + n, _, false, ha, b1, b2, b3, (by intro e; cases e), ?_⟩ (Mod.of_set (Ext.refl _))
  intro l' e
  cases e
  exact ⟨rfl, by rw [← List.drop_drop, ← r3], rfl⟩
theorem endL {r : Option (List UInt8)} (hs : SrcL h b s r) (hK : K (.int .i64 (match r with | none => 4 | some [] => 0 | some (_ :: _) => 5)) h) : ACall prog 31 [.pointer (some ⟨s, 0, none⟩)] h K := by
  obtain ⟨p, q, L, a, left, torn, g, b1, b2, b3, r1, r2⟩ := hs
  refine end_call g ?_
  rcases r with _ | _ | ⟨x, l⟩
  · cases r1 rfl; exact hK
  · obtain ⟨rfl, r3, rfl⟩ := r2 _ rfl
    exact hK
  · obtain ⟨rfl, r3, rfl⟩ := r2 _ rfl
    rw [if_neg (by decide), if_neg (by simp; omega)]
    exact hK
end
end Go.Proofs.Ytggohjlfhomafaa
