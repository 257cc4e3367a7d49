/-
  The document's device: numbers as texts; Text.
-/
import Derived.Test.YtkbiadobkheafaaX2
set_option linter.unusedSimpArgs false
set_option linter.unusedVariables false
set_option linter.unusedSectionVars false
namespace Go.Proofs.Ytkbiadobkheafaa
open Go Go.Mini Go.Proofs.Try
set_option maxRecDepth 100000

def digL (n : Nat) : List UInt8 := if n < 10 then [UInt8.ofNat (48 + n)] else digL (n / 10) ++ [UInt8.ofNat (48 + n % 10)]
termination_by n
decreasing_by omega
theorem digL_small {n : Nat} (h : n < 10) : digL n = [UInt8.ofNat (48 + n)] := by rw [digL, if_pos h]
theorem digL_big {n : Nat} (h : ¬ n < 10) : digL n = digL (n / 10) ++ [UInt8.ofNat (48 + n % 10)] := by rw [digL, if_neg h]
theorem digL_len : ∀ k n : Nat, n < 10 ^ (k + 1) → (digL n).length ≤ k + 1 := by
  intro k
  induction k with
  | zero => intro n h; rw [digL_small (by simpa using h)]; simp
  | succ k ih =>
    intro n h
    rcases Nat.lt_or_ge n 10 with h1 | h1
    · rw [digL_small h1]; simp
    · rw [digL_big (by omega), List.length_append]
      have := ih (n / 10) (by rw [Nat.pow_succ] at h; omega)
      simp only [List.length_cons, List.length_nil]
      omega
theorem digL_20 {n : Nat} (h : n < 18446744073709551616) : (digL n).length ≤ 20 := digL_len 19 n (by omega)
theorem strOf_one {D : Nat} (h : D < 256) : strOf [.int .u8 (D : Nat)] = some [UInt8.ofNat D] := by
  have := strOf_bytes [UInt8.ofNat D]
  have e : byteV (UInt8.ofNat D) = .int .u8 (D : Nat) := by unfold byteV; simp; omega
  simp only [List.map_cons, List.map_nil, e] at this
  exact this
section
variable {h : Hp} {K : Value → Hp → Prop}
theorem digits_call {n : Nat} (hn : n < 18446744073709551616) (hK : ∀ h', Ext h h' → K (.string (txt (digL n))) h') : ACall prog 57 [.int .u64 n] h K := by
  refine acallF_of tb0 func57 rfl rfl mixed (by kernel_rfl) fun hwf => ?_
  have hl := digL_20 hn
  simp -dsimp (disch := omega)
  refine awp_loop (fun t h' => Ext h h' ∧ ∃ (m : Nat) (acc : List UInt8), m < 18446744073709551616 ∧ digL n = digL m ++ acc ∧ t 0 = .int .u64 m ∧ t 3 = .string (txt acc)) (fun t _ => ivN (t 0)) ?_ ?_
  · simp -dsimp (disch := omega)
    exact ⟨Ext.refl _, n, hn, rfl, rfl⟩
  · rintro t h' ⟨he, m, acc, hm, hd, g0, g3⟩
    refine vcF_sound mixed (tb := tb0) _ (by kernel_rfl) ?_
    obtain ⟨D, hD⟩ : ∃ D, D = 48 + m % 10 := ⟨_, rfl⟩
    have hDi : (48 : Int) + (m : Int) % 10 = (D : Nat) := by omega
    have hD2 : D < 256 := by omega
    have s1 := strOf_one hD2
    have al : acc.length ≤ 20 := by have := congrArg List.length hd; rw [List.length_append] at this; omega
    have v1 : (txt [UInt8.ofNat D]).size = 1 := rfl
    have v2 : (txt acc).size = acc.length := rfl
    rcases Nat.lt_or_ge m 10 with h1 | h1
    · have q1 : (m : Int) / 10 = 0 := by omega
      have q2 : m / 10 = 0 := by omega
      simp -dsimp (disch := omega) [g0, g3, hDi, s1, q1, q2]
      refine RetF.all (r := .string (txt (digL n))) ?_ (hK _ (he.then_alloc _))
      rw [hd, digL_small h1, hD, Nat.mod_eq_of_lt h1]
      simp
    · have q1 : ¬ (m : Int) / 10 = 0 := by omega
      have q2 : ¬ m / 10 = 0 := by omega
      have q3 : (m : Int) / 10 = ((m / 10 : Nat) : Int) := by omega
      obtain ⟨m', hm'⟩ : ∃ m', m' = m / 10 := ⟨_, rfl⟩
      rw [← hm'] at q3 q2
      have q4 : ¬ (m' : Int) = 0 := by omega
      simp -dsimp (disch := omega) [g0, g3, hDi, s1, q3, q2, q4]
      refine ⟨⟨he.then_alloc _, m', by omega, ?_, rfl⟩, by simp [ivN]; omega⟩
      rw [hd, digL_big (by omega), hm', hD, List.append_assoc]
      rfl
/-- What the text tells of the ticks left. -/
def leftR (r : Rd) : Nat := if r.st = 1 then (if r.lf = 0 then 1 else r.lf) else 0
def textR (r : Rd) : List UInt8 := digL r.se ++ [32] ++ digL r.ad ++ [32] ++ digL r.cm ++ [32] ++ digL r.st ++ [32] ++ digL (leftR r) ++ [32] ++ digL r.dl
/-- Loads beside calls that only make new blocks. -/
def tbX : Nat → Marks := fun k => if k = 6 then ⟨[5, 10, 11, 17, 19, 25, 27, 32, 38, 1000000], fun _ => True⟩ else ⟨[], fun _ => True⟩
@[simp] theorem tbX_6 : (tbX 6).l = [5, 10, 11, 17, 19, 25, 27, 32, 38, 1000000] := rfl
@[simp] theorem tbX_0 : (tbX 0).l = [] := rfl
@[simp] theorem tbX_1 : (tbX 1).l = [] := rfl
@[simp] theorem tbX_2 : (tbX 2).l = [] := rfl
@[simp] theorem tbX_4 : (tbX 4).l = [] := rfl
theorem dig_size {n : Nat} (h : n < 18446744073709551616) : (txt (digL n)).size ≤ 20 := digL_20 h
theorem rText_call {q : Nat} {r : Rd} (hb : h.blks q = some ⟨refC r, 1, true⟩) (hd : r.ok) (hq : q < h.next) (hK : ∀ h', Ext h h' → K (.string (txt (textR r))) h') : ACall prog 43 [ptr q] h K := by
  refine acallF_of tbX func43 rfl rfl mixed (by kernel_rfl) fun hwf => ?_
  have b0 := refC_0 r
  have b1 := refC_1 r
  have b2 := refC_2 r
  have b3 := refC_3 r
  have b7 := refC_7 r
  have b8 := refC_8 r
  have k0 := hd.se
  have k1 := hd.cm
  have k2 := hd.ad
  have k3 := hd.st
  have k7 := hd.lf
  have k8 := hd.dl
  have hL : leftR r < 18446744073709551616 := by unfold leftR; (repeat' split) <;> omega
  obtain ⟨l, hl⟩ : ∃ l, l = leftR r := ⟨_, rfl⟩
  unfold textR at hK
  rw [← hl] at hK hL
  obtain ⟨se, hse⟩ : ∃ x, x = r.se := ⟨_, rfl⟩
  obtain ⟨cm, hcm⟩ : ∃ x, x = r.cm := ⟨_, rfl⟩
  obtain ⟨ad, had⟩ : ∃ x, x = r.ad := ⟨_, rfl⟩
  obtain ⟨st, hst⟩ : ∃ x, x = r.st := ⟨_, rfl⟩
  obtain ⟨lf, hlf⟩ : ∃ x, x = r.lf := ⟨_, rfl⟩
  obtain ⟨dl, hdl⟩ : ∃ x, x = r.dl := ⟨_, rfl⟩
  have hl2 : l = if st = 1 then (if lf = 0 then 1 else lf) else 0 := by rw [hl, hst, hlf]; rfl
  rw [← hse] at b0 k0 hK
  rw [← hcm] at b1 k1 hK
  rw [← had] at b2 k2 hK
  rw [← hst] at b3 k3 hK
  rw [← hlf] at b7 k7
  rw [← hdl] at b8 k8 hK
  clear hl hse hcm had hst hlf hdl
  obtain ⟨c, hc⟩ : ∃ c, c = refC r := ⟨_, rfl⟩
  rw [← hc] at b0 b1 b2 b3 b7 b8 hb
  clear hc hd
  have z0 := dig_size (n := se) (by omega)
  have y0 : (digL se).length ≤ 20 := z0
  have z1 := dig_size (n := cm) (by omega)
  have y1 : (digL cm).length ≤ 20 := z1
  have z2 := dig_size (n := ad) (by omega)
  have y2 : (digL ad).length ≤ 20 := z2
  have z3 := dig_size (n := st) (by omega)
  have y3 : (digL st).length ≤ 20 := z3
  have z7 := dig_size (n := l) (by omega)
  have y7 : (digL l).length ≤ 20 := z7
  have z8 := dig_size (n := dl) (by omega)
  have y8 : (digL dl).length ≤ 20 := z8
  have u0 : (txt [(32 : UInt8)]).size = 1 := rfl
  by_cases c1 : st = 1
  · subst c1
    by_cases c2 : lf = 0
    · subst c2
      rw [if_pos rfl, if_pos rfl] at hl2
      subst hl2
      simp -dsimp (disch := first | omega | (simp only [txt_size, List.length_append, List.length_cons, List.length_nil]; omega)) [hb, b0, b1, b2, b3, b7, b8, tbX_6, -getElem?_pos]
      refine digits_call (n := se) (by omega) fun h1 e1 => ?_
      have f1 : Ext h h1 := e1
      have g1 := (f1.same q hq).trans hb
      simp -dsimp (disch := first | omega | (simp only [txt_size, List.length_append, List.length_cons, List.length_nil]; omega)) [g1, hq, b0, b1, b2, b3, b7, b8, tbX_6, -getElem?_pos]
      refine ⟨fun j hj _ => e1.same j hj, ?_⟩
      refine digits_call (n := ad) (by omega) fun h2 e2 => ?_
      have f2 : Ext h h2 := f1.trans e2
      have g2 := (f2.same q hq).trans hb
      simp -dsimp (disch := first | omega | (simp only [txt_size, List.length_append, List.length_cons, List.length_nil]; omega)) [g2, hq, b0, b1, b2, b3, b7, b8, tbX_6, -getElem?_pos]
      refine ⟨fun j hj _ => e2.same j hj, ?_⟩
      refine digits_call (n := cm) (by omega) fun h3 e3 => ?_
      have f3 : Ext h h3 := f2.trans e3
      have g3 := (f3.same q hq).trans hb
      simp -dsimp (disch := first | omega | (simp only [txt_size, List.length_append, List.length_cons, List.length_nil]; omega)) [g3, hq, b0, b1, b2, b3, b7, b8, tbX_6, -getElem?_pos]
      refine ⟨fun j hj _ => e3.same j hj, ?_⟩
      refine digits_call (n := 1) (by omega) fun h4 e4 => ?_
      have f4 : Ext h h4 := f3.trans e4
      have g4 := (f4.same q hq).trans hb
      simp -dsimp (disch := first | omega | (simp only [txt_size, List.length_append, List.length_cons, List.length_nil]; omega)) [g4, hq, b0, b1, b2, b3, b7, b8, tbX_6, -getElem?_pos]
      refine ⟨fun j hj _ => e4.same j hj, ?_⟩
      refine digits_call (n := 1) (by omega) fun h5 e5 => ?_
      have f5 : Ext h h5 := f4.trans e5
      have g5 := (f5.same q hq).trans hb
      simp -dsimp (disch := first | omega | (simp only [txt_size, List.length_append, List.length_cons, List.length_nil]; omega)) [g5, hq, b0, b1, b2, b3, b7, b8, tbX_6, -getElem?_pos]
      refine ⟨fun j hj _ => e5.same j hj, ?_⟩
      refine digits_call (n := dl) (by omega) fun h6 e6 => ?_
      have f6 : Ext h h6 := f5.trans e6
      have g6 := (f6.same q hq).trans hb
      simp -dsimp (disch := first | omega | (simp only [txt_size, List.length_append, List.length_cons, List.length_nil]; omega)) [g6, hq, tbX_6]
      exact RetF.all (r := .string (txt (digL se ++ [32] ++ digL ad ++ [32] ++ digL cm ++ [32] ++ digL 1 ++ [32] ++ digL 1 ++ [32] ++ digL dl))) (by simp) (hK _ f6)
    · have c2' : ¬ (lf : Int) = 0 := by omega
      rw [if_pos rfl, if_neg c2] at hl2
      subst hl2
      simp -dsimp (disch := first | omega | (simp only [txt_size, List.length_append, List.length_cons, List.length_nil]; omega)) [hb, b0, b1, b2, b3, b7, b8, c2, c2', -getElem?_pos]
      refine digits_call (n := se) (by omega) fun h1 e1 => ?_
      have f1 : Ext h h1 := e1
      have g1 := (f1.same q hq).trans hb
      simp -dsimp (disch := first | omega | (simp only [txt_size, List.length_append, List.length_cons, List.length_nil]; omega)) [g1, hq, b0, b1, b2, b3, b7, b8, c2, c2', -getElem?_pos]
      refine ⟨fun j hj _ => e1.same j hj, ?_⟩
      refine digits_call (n := ad) (by omega) fun h2 e2 => ?_
      have f2 : Ext h h2 := f1.trans e2
      have g2 := (f2.same q hq).trans hb
      simp -dsimp (disch := first | omega | (simp only [txt_size, List.length_append, List.length_cons, List.length_nil]; omega)) [g2, hq, b0, b1, b2, b3, b7, b8, c2, c2', -getElem?_pos]
      refine ⟨fun j hj _ => e2.same j hj, ?_⟩
      refine digits_call (n := cm) (by omega) fun h3 e3 => ?_
      have f3 : Ext h h3 := f2.trans e3
      have g3 := (f3.same q hq).trans hb
      simp -dsimp (disch := first | omega | (simp only [txt_size, List.length_append, List.length_cons, List.length_nil]; omega)) [g3, hq, b0, b1, b2, b3, b7, b8, c2, c2', -getElem?_pos]
      refine ⟨fun j hj _ => e3.same j hj, ?_⟩
      refine digits_call (n := 1) (by omega) fun h4 e4 => ?_
      have f4 : Ext h h4 := f3.trans e4
      have g4 := (f4.same q hq).trans hb
      simp -dsimp (disch := first | omega | (simp only [txt_size, List.length_append, List.length_cons, List.length_nil]; omega)) [g4, hq, b0, b1, b2, b3, b7, b8, c2, c2', -getElem?_pos]
      refine ⟨fun j hj _ => e4.same j hj, ?_⟩
      refine digits_call (n := l) (by omega) fun h5 e5 => ?_
      have f5 : Ext h h5 := f4.trans e5
      have g5 := (f5.same q hq).trans hb
      simp -dsimp (disch := first | omega | (simp only [txt_size, List.length_append, List.length_cons, List.length_nil]; omega)) [g5, hq, b0, b1, b2, b3, b7, b8, c2, c2', -getElem?_pos]
      refine ⟨fun j hj _ => e5.same j hj, ?_⟩
      refine digits_call (n := dl) (by omega) fun h6 e6 => ?_
      have f6 : Ext h h6 := f5.trans e6
      have g6 := (f6.same q hq).trans hb
      simp -dsimp (disch := first | omega | (simp only [txt_size, List.length_append, List.length_cons, List.length_nil]; omega)) [g6, hq, c2, c2']
      exact RetF.all (r := .string (txt (digL se ++ [32] ++ digL ad ++ [32] ++ digL cm ++ [32] ++ digL 1 ++ [32] ++ digL l ++ [32] ++ digL dl))) (by simp) (hK _ f6)
  · have c1' : ¬ (st : Int) = 1 := by omega
    rw [if_neg c1] at hl2
    subst hl2
    simp -dsimp (disch := first | omega | (simp only [txt_size, List.length_append, List.length_cons, List.length_nil]; omega)) [hb, b0, b1, b2, b3, b7, b8, c1, c1', -getElem?_pos]
    refine digits_call (n := se) (by omega) fun h1 e1 => ?_
    have f1 : Ext h h1 := e1
    have g1 := (f1.same q hq).trans hb
    simp -dsimp (disch := first | omega | (simp only [txt_size, List.length_append, List.length_cons, List.length_nil]; omega)) [g1, hq, b0, b1, b2, b3, b7, b8, c1, c1', -getElem?_pos]
    refine ⟨fun j hj _ => e1.same j hj, ?_⟩
    refine digits_call (n := ad) (by omega) fun h2 e2 => ?_
    have f2 : Ext h h2 := f1.trans e2
    have g2 := (f2.same q hq).trans hb
    simp -dsimp (disch := first | omega | (simp only [txt_size, List.length_append, List.length_cons, List.length_nil]; omega)) [g2, hq, b0, b1, b2, b3, b7, b8, c1, c1', -getElem?_pos]
    refine ⟨fun j hj _ => e2.same j hj, ?_⟩
    refine digits_call (n := cm) (by omega) fun h3 e3 => ?_
    have f3 : Ext h h3 := f2.trans e3
    have g3 := (f3.same q hq).trans hb
    simp -dsimp (disch := first | omega | (simp only [txt_size, List.length_append, List.length_cons, List.length_nil]; omega)) [g3, hq, b0, b1, b2, b3, b7, b8, c1, c1', -getElem?_pos]
    refine ⟨fun j hj _ => e3.same j hj, ?_⟩
    refine digits_call (n := st) (by omega) fun h4 e4 => ?_
    have f4 : Ext h h4 := f3.trans e4
    have g4 := (f4.same q hq).trans hb
    simp -dsimp (disch := first | omega | (simp only [txt_size, List.length_append, List.length_cons, List.length_nil]; omega)) [g4, hq, b0, b1, b2, b3, b7, b8, c1, c1', -getElem?_pos]
    refine ⟨fun j hj _ => e4.same j hj, ?_⟩
    refine digits_call (n := 0) (by omega) fun h5 e5 => ?_
    have f5 : Ext h h5 := f4.trans e5
    have g5 := (f5.same q hq).trans hb
    simp -dsimp (disch := first | omega | (simp only [txt_size, List.length_append, List.length_cons, List.length_nil]; omega)) [g5, hq, b0, b1, b2, b3, b7, b8, c1, c1', -getElem?_pos]
    refine ⟨fun j hj _ => e5.same j hj, ?_⟩
    refine digits_call (n := dl) (by omega) fun h6 e6 => ?_
    have f6 : Ext h h6 := f5.trans e6
    have g6 := (f6.same q hq).trans hb
    simp -dsimp (disch := first | omega | (simp only [txt_size, List.length_append, List.length_cons, List.length_nil]; omega)) [g6, hq, c1, c1']
    exact RetF.all (r := .string (txt (digL se ++ [32] ++ digL ad ++ [32] ++ digL cm ++ [32] ++ digL st ++ [32] ++ digL 0 ++ [32] ++ digL dl))) (by simp) (hK _ f6)
end
end Go.Proofs.Ytkbiadobkheafaa
