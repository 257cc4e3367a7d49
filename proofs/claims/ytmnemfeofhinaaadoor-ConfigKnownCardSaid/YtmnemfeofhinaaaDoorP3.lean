/-
  What Build gives, Parse takes, and the other way about; texts that are cut, or spoilt: the plain law.
-/
import Derived.Test.YtmnemfeofhinaaaDoorLA
set_option linter.unusedSimpArgs false
set_option linter.unusedVariables false
set_option linter.unusedSectionVars false
namespace Go.Proofs.YtmnemfeofhinaaaDoor
set_option maxRecDepth 100000
open Go Go.Mini

theorem digAt_nat (N i : Nat) : ((digAt N i).toNat : Int) = ((N / 256 ^ i % 256 : Nat) : Int) := by
  unfold digAt
  have h := Int.natCast_pow 256 i
  rw [show ((256 : Nat) : Int) = 256 from rfl] at h
  rw [← h, ← Int.natCast_ediv, show (256 : Int) = ((256 : Nat) : Int) from rfl, ← Int.natCast_emod]
  exact ofNat_toNat _ ⟨by omega, by have := Nat.mod_lt (N / 256 ^ i) (show 256 > 0 by decide); omega⟩
theorem numL_digs (N : Nat) : ∀ w, numL (digs N w) = ((N % 256 ^ w : Nat) : Int)
  | 0 => by rw [digs_zero, Nat.pow_zero, Nat.mod_one]; rfl
  | w + 1 => by
    rw [digs_succ, numL_append, numL_digs N w, digs_length, digAt_nat, Nat.pow_succ, Nat.mod_mul]
    have h := Int.natCast_pow 256 w
    rw [show ((256 : Nat) : Int) = 256 from rfl] at h
    rw [← h, ← Int.natCast_mul, ← Int.natCast_add, Nat.mul_comm]
theorem numN_digs {N w : Nat} (h : N < 256 ^ w) : numN (digs N w) = N := by
  unfold numN
  rw [numL_digs, Nat.mod_eq_of_lt h]
  rfl
theorem numL_inj : ∀ {l m : List UInt8}, l.length = m.length → numL l = numL m → l = m
  | [], [], _, _ => rfl
  | b :: l, c :: m, h, e => by
    simp only [numL] at e
    have hb := UInt8.toNat_lt b
    have hc := UInt8.toNat_lt c
    have e1 : b.toNat = c.toNat := by omega
    have e2 : numL l = numL m := by omega
    rw [UInt8.toNat_inj.1 e1, numL_inj (by simpa using h) e2]
theorem numL_nat' (l : List UInt8) : numL l = (numN l : Int) := by
  unfold numN
  have := (numL_range l).1
  omega
theorem digs_numN (l : List UInt8) (w : Nat) (h : l.length = w) : digs (numN l) w = l := by
  refine numL_inj (by rw [digs_length, h]) ?_
  have h1 := numL_range l
  have h2 := numL_nat' l
  rw [numL_digs, Nat.mod_eq_of_lt, ← h2]
  have h3 := Int.natCast_pow 256 l.length
  rw [show ((256 : Nat) : Int) = 256 from rfl] at h3
  rw [← h]
  omega
theorem mid {α : Type} (P A Q : List α) (n m : Nat) (hn : n = P.length) (hm : m = A.length) : ((P ++ (A ++ Q)).drop n).take m = A := by
  subst hn hm; simp
theorem pow2 : (256 : Nat) ^ 2 = 65536 := by decide
theorem pow4 : (256 : Nat) ^ 4 = 4294967296 := by decide
theorem pow1 : (256 : Nat) ^ 1 = 256 := by decide

/-! ### The parts' bytes -/
def gEn (g : Gu) : List UInt8 := digs g.p 1 ++ (digs g.l 4 ++ (digs g.r 1 ++ g.ac.flatMap fun a : Nat => digs a 1))
def wEn (w : Win) : List UInt8 := digs w.g 1 ++ digs w.s 2
def toEn (l : List (Nat × Nat)) : List UInt8 := l.flatMap fun e => digs e.1 1 ++ digs e.2 1
def cEn (c : Ch) : List UInt8 := digs c.k 1 ++ (digs c.g 1 ++ (digs c.p 1 ++ (digs c.m 1 ++ (digs c.d 1 ++ (digs c.v 4 ++ (digs c.to.length 1 ++ toEn c.to))))))
def lEn {α : Type} (enc : α → List UInt8) (l : List α) : List UInt8 := digs l.length 1 ++ l.flatMap enc
theorem putL_append (l m : List (Int × Int)) : Go.Proofs.YtmnemfeofhinaaaDoor.putL (l ++ m) = Go.Proofs.YtmnemfeofhinaaaDoor.putL l ++ Go.Proofs.YtmnemfeofhinaaaDoor.putL m := by simp [Go.Proofs.YtmnemfeofhinaaaDoor.putL]
theorem putL_flat {α : Type} (f : α → List (Int × Int)) (l : List α) : Go.Proofs.YtmnemfeofhinaaaDoor.putL (l.flatMap f) = l.flatMap fun x => Go.Proofs.YtmnemfeofhinaaaDoor.putL (f x) := by simp [Go.Proofs.YtmnemfeofhinaaaDoor.putL, List.flatMap_assoc]
theorem w1 : (wideF 1).toNat = 1 := by decide
theorem w2 : (wideF 2).toNat = 2 := by decide
theorem w4 : (wideF 4).toNat = 4 := by decide
theorem putL_g (g : Gu) : Go.Proofs.YtmnemfeofhinaaaDoor.putL (gFl g) = gEn g := by
  simp [gFl, gEn, Go.Proofs.YtmnemfeofhinaaaDoor.putL, aFl, w1, w4, List.flatMap_map]
theorem putL_w (w : Win) : Go.Proofs.YtmnemfeofhinaaaDoor.putL (wFl w) = wEn w := by
  simp [wFl, wEn, Go.Proofs.YtmnemfeofhinaaaDoor.putL, w1, w2]
theorem putL_c (c : Ch) : Go.Proofs.YtmnemfeofhinaaaDoor.putL (cFl c) = cEn c := by
  unfold cFl cEn
  rw [putL_append, putL_flat]
  simp [cHd, eFl, toEn, Go.Proofs.YtmnemfeofhinaaaDoor.putL, w1, w4]
theorem bodyB_eq (gs : List Gu) (ws : List Win) (cs : List Ch) : bodyB gs ws cs = magicL ++ (lEn gEn gs ++ (lEn wEn ws ++ lEn cEn cs)) := by
  have n1 : ∀ n : Nat, Go.Proofs.YtmnemfeofhinaaaDoor.putL (nFl n) = digs n 1 := fun n => by simp [nFl, Go.Proofs.YtmnemfeofhinaaaDoor.putL, w1]
  unfold bodyB flA fl2 fl1
  simp only [putL_append, putL_flat, n1, putL_g, putL_w, putL_c, lEn, List.append_assoc]

/-! ### Reading what was written -/
theorem nAt_mid {S : List UInt8} {a n m : Nat} {P A Q : List UInt8} (h : S.drop a = P ++ (A ++ Q)) (hn : n = P.length) (hm : m = A.length) : nAt S (a + n) m = numN A := by
  unfold nAt
  rw [← List.drop_drop, h, mid P A Q n m hn hm]
theorem nAt_hd {S : List UInt8} {a m : Nat} {A Q : List UInt8} (h : S.drop a = A ++ Q) (hm : m = A.length) : nAt S a m = numN A := nAt_mid (n := 0) (P := []) h rfl hm
theorem drop_on {S P Q : List UInt8} {a n : Nat} (h : S.drop a = P ++ Q) (hn : n = P.length) : S.drop (a + n) = Q := by
  rw [← List.drop_drop, h, hn, List.drop_left]
theorem byts {S : List UInt8} : ∀ {l : List Nat} {b : Nat} {Q : List UInt8}, S.drop b = (l.flatMap fun a : Nat => digs a 1) ++ Q → (∀ x ∈ l, x < 256) → (List.range l.length).map (fun k => nAt S (b + k) 1) = l
  | [], b, Q, _, _ => rfl
  | x :: l, b, Q, h, hx => by
    rw [List.flatMap_cons, List.append_assoc] at h
    rw [List.length_cons, List.range_succ_eq_map, List.map_cons, List.map_map]
    have e1 := nAt_hd h (m := 1) (by rw [digs_length])
    rw [numN_digs (by rw [pow1]; exact hx x (by simp))] at e1
    have e2 := byts (l := l) (b := b + 1) (drop_on h (by rw [digs_length])) fun y hy => hx y (by simp [hy])
    rw [Nat.add_zero, e1]
    congr 1
    refine (List.map_congr_left fun k _ => ?_).trans e2
    simp only [Function.comp_apply, Nat.succ_eq_add_one]
    rw [show b + (k + 1) = b + 1 + k by omega]
theorem ends_on {S : List UInt8} : ∀ {l : List (Nat × Nat)} {b : Nat} {Q : List UInt8}, S.drop b = toEn l ++ Q → (∀ x ∈ l, x.1 < 256 ∧ x.2 < 256) → dTo S b l.length = l
  | [], b, Q, _, _ => rfl
  | x :: l, b, Q, h, hx => by
    unfold toEn at h
    rw [List.flatMap_cons, List.append_assoc, List.append_assoc] at h
    unfold dTo
    rw [List.length_cons, List.range_succ_eq_map, List.map_cons, List.map_map]
    have hb := hx x (by simp)
    have e1 := nAt_hd h (m := 1) (by rw [digs_length])
    rw [numN_digs (by rw [pow1]; exact hb.1)] at e1
    have h1 := drop_on h (n := 1) (by rw [digs_length])
    have e2 := nAt_hd h1 (m := 1) (by rw [digs_length])
    rw [numN_digs (by rw [pow1]; exact hb.2)] at e2
    have h2 := drop_on h1 (n := 1) (by rw [digs_length])
    have e3 := ends_on (l := l) (b := b + 1 + 1) (Q := Q) h2 fun y hy => hx y (by simp [hy])
    rw [show b + 2 * 0 = b by omega, show b + (2 * 0 + 1) = b + 1 by omega, e1, e2]
    congr 1
    refine (List.map_congr_left fun k _ => ?_).trans e3
    simp only [Function.comp_apply, Nat.succ_eq_add_one]
    rw [show b + 2 * (k + 1) = b + 1 + 1 + 2 * k by omega, show b + (2 * (k + 1) + 1) = b + 1 + 1 + (2 * k + 1) by omega]
theorem byts_len (l : List Nat) : (l.flatMap fun a : Nat => digs a 1).length = l.length := by
  induction l with
  | nil => rfl
  | cons x l ih => rw [List.flatMap_cons, List.length_append, digs_length, ih, List.length_cons]; omega
theorem toEn_len (l : List (Nat × Nat)) : (toEn l).length = 2 * l.length := by
  unfold toEn
  induction l with
  | nil => rfl
  | cons x l ih => rw [List.flatMap_cons, List.length_append, List.length_append, digs_length, digs_length, ih, List.length_cons]; omega
theorem gEn_len {g : Gu} (h : g.ac.length = 17) : (gEn g).length = 23 := by
  unfold gEn
  simp only [List.length_append, digs_length, byts_len, h]
theorem wEn_len (w : Win) : (wEn w).length = 3 := by simp [wEn, digs_length]
theorem cEn_len (c : Ch) : (cEn c).length = 10 + 2 * c.to.length := by
  unfold cEn
  simp only [List.length_append, digs_length, toEn_len]
  omega

structure EncOk {α : Type} (enc : α → List UInt8) (ok : α → Prop) (one : List UInt8 → Nat → Option (α × Nat)) : Prop where
  dec : ∀ S a x Q, ok x → S.drop a = enc x ++ Q → one S a = some (x, a + (enc x).length)
  inv : ∀ S a x b, one S a = some (x, b) → b = a + (enc x).length ∧ b ≤ S.length ∧ S.drop a = enc x ++ S.drop b ∧ ok x
  cut : ∀ S a x b k, one S a = some (x, b) → k < b → one (S.take k) a = none
  pos : ∀ x, ok x → 0 < (enc x).length
theorem len_on {S A Q : List UInt8} {a : Nat} (h : S.drop a = A ++ Q) (hA : 0 < A.length) : S.length = a + A.length + Q.length := by
  have := congrArg List.length h
  rw [List.length_drop, List.length_append] at this
  omega
theorem take_split (T : List UInt8) (n m : Nat) : T.take (n + m) = T.take n ++ (T.drop n).take m := List.take_add
theorem nAt_digs {S : List UInt8} {a n : Nat} (h : a + n ≤ S.length) : digs (nAt S a n) n = (S.drop a).take n := digs_numN _ _ (by rw [List.length_take, List.length_drop]; omega)
theorem byts_inv {S : List UInt8} : ∀ {n b : Nat}, b + n ≤ S.length → ((List.range n).map fun k => nAt S (b + k) 1).flatMap (fun a : Nat => digs a 1) = (S.drop b).take n
  | 0, b, _ => by simp
  | n + 1, b, h => by
    rw [List.range_succ_eq_map, List.map_cons, List.map_map, List.flatMap_cons, Nat.add_zero, nAt_digs (S := S) (a := b) (n := 1) (by omega)]
    have e := byts_inv (S := S) (n := n) (b := b + 1) (by omega)
    rw [Nat.add_comm n 1, take_split, List.drop_drop, ← e]
    congr 1
    congr 1
    refine List.map_congr_left fun k _ => ?_
    simp only [Function.comp_apply, Nat.succ_eq_add_one]
    rw [show b + (k + 1) = b + 1 + k by omega]
theorem ends_inv {S : List UInt8} : ∀ {n b : Nat}, b + 2 * n ≤ S.length → toEn (dTo S b n) = (S.drop b).take (2 * n)
  | 0, b, _ => by simp [dTo, toEn]
  | n + 1, b, h => by
    unfold dTo toEn
    rw [List.range_succ_eq_map, List.map_cons, List.map_map, List.flatMap_cons]
    have e := ends_inv (S := S) (n := n) (b := b + 2) (by omega)
    simp only
    rw [show b + 2 * 0 = b by omega, show b + (2 * 0 + 1) = b + 1 by omega, nAt_digs (S := S) (a := b) (n := 1) (by omega), nAt_digs (S := S) (a := b + 1) (n := 1) (by omega), show 2 * (n + 1) = 1 + 1 + 2 * n by omega, take_split, take_split, List.drop_drop, List.drop_drop, ← e]
    congr 1
    unfold toEn dTo
    congr 1
    refine List.map_congr_left fun k _ => ?_
    simp only [Function.comp_apply, Nat.succ_eq_add_one]
    rw [show b + 2 * (k + 1) = b + 2 + 2 * k by omega, show b + (2 * (k + 1) + 1) = b + 2 + (2 * k + 1) by omega]
theorem split_on {S A : List UInt8} {a n : Nat} (h : (S.drop a).take n = A) : S.drop a = A ++ S.drop (a + n) := by
  rw [← h, ← List.drop_drop, List.take_append_drop]
theorem nAt_take {S : List UInt8} {k a n : Nat} (h : a + n ≤ k) : nAt (S.take k) a n = nAt S a n := by
  unfold nAt
  rw [List.drop_take, List.take_take, Nat.min_eq_left (by omega)]
theorem encG : EncOk gEn Gu.ok oneG := by
  refine ⟨fun S a g Q hok h => ?_, fun S a g b h => ?_, fun S a g b k h hk => ?_, fun g hg => by rw [gEn_len hg.2.2.2.1]; omega⟩
  · obtain ⟨h1, h2, h3, h4, h5⟩ := hok
    have hl := gEn_len h4
    have hS := len_on h (by omega)
    unfold oneG
    rw [if_neg (by omega), hl]
    unfold gEn at h
    simp only [List.append_assoc] at h
    have d1 := drop_on h (n := 1) (by rw [digs_length])
    have d5 := drop_on d1 (n := 4) (by rw [digs_length])
    have d6 := drop_on d5 (n := 1) (by rw [digs_length])
    have e0 := nAt_hd h (m := 1) (by rw [digs_length])
    have e1 := nAt_hd d1 (m := 4) (by rw [digs_length])
    have e5 := nAt_hd d5 (m := 1) (by rw [digs_length])
    rw [numN_digs (by rw [pow1]; exact h1)] at e0
    rw [numN_digs (by rw [pow4]; exact h2)] at e1
    rw [numN_digs (by rw [pow1]; exact h3)] at e5
    have e6 := byts d6 h5
    rw [h4] at e6
    congr 2
    obtain ⟨p, l, r, ac⟩ := g
    unfold dG
    simp only at e0 e1 e5 e6 ⊢
    rw [e0, e1, show a + 5 = a + 1 + 4 by omega, e5, show a + 6 = a + 1 + 4 + 1 by omega, e6]
  · unfold oneG at h
    split at h
    · cases h
    · rename_i hn
      cases h
      have hok := dG_ok S a
      have hl := gEn_len hok.2.2.2.1
      refine ⟨by rw [hl], by omega, split_on ?_, hok⟩
      unfold gEn dG
      simp only
      rw [nAt_digs (by omega), nAt_digs (by omega), nAt_digs (by omega), byts_inv (by omega), show (23 : Nat) = 1 + (4 + (1 + 17)) by rfl, take_split, take_split, take_split, List.drop_drop, List.drop_drop, List.drop_drop]
  · unfold oneG at h ⊢
    split at h
    · cases h
    · cases h
      rw [if_pos (by rw [List.length_take]; omega)]
theorem encW : EncOk wEn Win.ok oneW := by
  refine ⟨fun S a g Q hok h => ?_, fun S a g b h => ?_, fun S a g b k h hk => ?_, fun g hg => by rw [wEn_len]; omega⟩
  · obtain ⟨h1, h2⟩ := hok
    have hl := wEn_len g
    have hS := len_on h (by omega)
    unfold oneW
    rw [if_neg (by omega), hl]
    unfold wEn at h
    simp only [List.append_assoc] at h
    have d1 := drop_on h (n := 1) (by rw [digs_length])
    have e0 := nAt_hd h (m := 1) (by rw [digs_length])
    have e1 := nAt_hd d1 (m := 2) (by rw [digs_length])
    rw [numN_digs (by rw [pow1]; exact h1)] at e0
    rw [numN_digs (by rw [pow2]; exact h2)] at e1
    rw [e0, e1]
  · unfold oneW at h
    split at h
    · cases h
    · rename_i hn
      cases h
      have hl := wEn_len ⟨nAt S a 1, nAt S (a + 1) 2⟩
      refine ⟨by rw [hl], by omega, split_on ?_, ⟨nAt1_lt _ _, nAt2_lt _ _⟩⟩
      unfold wEn
      simp only
      rw [nAt_digs (by omega), nAt_digs (by omega), show (3 : Nat) = 1 + 2 by rfl, take_split, List.drop_drop]
  · unfold oneW at h ⊢
    split at h
    · cases h
    · cases h
      rw [if_pos (by rw [List.length_take]; omega)]
theorem encC : EncOk cEn (fun c => c.ok ∧ c.to.length < 256) oneC := by
  refine ⟨fun S a c Q hok h => ?_, fun S a c b h => ?_, fun S a c b k h hk => ?_, fun c hc => by rw [cEn_len]; omega⟩
  · obtain ⟨⟨h1, h2, h3, h4, h5, h6, h7, _⟩, h8⟩ := hok
    have hl := cEn_len c
    have hS := len_on h (by omega)
    unfold oneC
    unfold cEn at h
    simp only [List.append_assoc] at h
    have d1 := drop_on h (n := 1) (by rw [digs_length])
    have d2 := drop_on d1 (n := 1) (by rw [digs_length])
    have d3 := drop_on d2 (n := 1) (by rw [digs_length])
    have d4 := drop_on d3 (n := 1) (by rw [digs_length])
    have d5 := drop_on d4 (n := 1) (by rw [digs_length])
    have d9 := drop_on d5 (n := 4) (by rw [digs_length])
    have d10 := drop_on d9 (n := 1) (by rw [digs_length])
    have e0 := nAt_hd h (m := 1) (by rw [digs_length])
    have e1 := nAt_hd d1 (m := 1) (by rw [digs_length])
    have e2 := nAt_hd d2 (m := 1) (by rw [digs_length])
    have e3 := nAt_hd d3 (m := 1) (by rw [digs_length])
    have e4 := nAt_hd d4 (m := 1) (by rw [digs_length])
    have e5 := nAt_hd d5 (m := 4) (by rw [digs_length])
    have e9 := nAt_hd d9 (m := 1) (by rw [digs_length])
    rw [numN_digs (by rw [pow1]; exact h1)] at e0
    rw [numN_digs (by rw [pow1]; exact h2)] at e1
    rw [numN_digs (by rw [pow1]; exact h3)] at e2
    rw [numN_digs (by rw [pow1]; exact h4)] at e3
    rw [numN_digs (by rw [pow1]; exact h5)] at e4
    rw [numN_digs (by rw [pow4]; exact h6)] at e5
    rw [numN_digs (by rw [pow1]; exact h8)] at e9
    have e10 := ends_on d10 h7
    rw [show a + 1 + 1 + 1 + 1 + 1 + 4 + 1 = a + 10 by omega] at e10
    rw [show a + 1 + 1 + 1 + 1 + 1 + 4 = a + 9 by omega] at e9
    rw [show a + 1 + 1 + 1 + 1 + 1 = a + 5 by omega] at e5
    rw [show a + 1 + 1 + 1 + 1 = a + 4 by omega] at e4
    rw [show a + 1 + 1 + 1 = a + 3 by omega] at e3
    rw [show a + 1 + 1 = a + 2 by omega] at e2
    rw [if_neg (by omega), e9, if_neg (by omega), hl]
    obtain ⟨k, g, p, to, m, d, v⟩ := c
    unfold dC
    simp only at e0 e1 e2 e3 e4 e5 e9 e10 ⊢
    rw [e9, e0, e1, e2, e3, e4, e5, e10, Nat.add_assoc]
  · unfold oneC at h
    split at h
    · cases h
    · split at h
      · cases h
      · rename_i hn hn2
        cases h
        have hto : (dC S a).to.length = nAt S (a + 9) 1 := by simp [dC, dTo]
        have hl := cEn_len (dC S a)
        rw [hto] at hl
        refine ⟨by rw [hl]; omega, by omega, ?_, dC_ok S a, by rw [hto]; exact nAt1_lt _ _⟩
        rw [Nat.add_assoc]
        refine split_on ?_
        unfold cEn
        rw [hto]
        unfold dC
        simp only
        rw [nAt_digs (by omega), nAt_digs (by omega), nAt_digs (by omega), nAt_digs (by omega), nAt_digs (by omega), nAt_digs (by omega), nAt_digs (n := 1) (by omega), ends_inv (by omega), show 10 + 2 * nAt S (a + 9) 1 = 1 + (1 + (1 + (1 + (1 + (4 + (1 + 2 * nAt S (a + 9) 1)))))) by omega]
        simp only [take_split, List.drop_drop]
  · unfold oneC at h ⊢
    split at h
    · cases h
    · split at h
      · cases h
      · cases h
        by_cases c1 : k < a + 10
        · rw [if_pos (by rw [List.length_take]; omega)]
        · rw [nAt_take (by omega), if_neg (by rw [List.length_take]; omega), if_pos (by rw [List.length_take]; omega)]
end Go.Proofs.YtmnemfeofhinaaaDoor
