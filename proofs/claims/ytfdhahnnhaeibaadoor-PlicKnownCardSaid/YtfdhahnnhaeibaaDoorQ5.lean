/-
  A PLIC's text.
-/
import Derived.Test.YtfdhahnnhaeibaaDoorQ4
import Derived.Test.YtfdhahnnhaeibaaDoorM28
import Derived.Test.YtfdhahnnhaeibaaDoorShelf
set_option linter.unusedSimpArgs false
set_option linter.unusedVariables false
set_option linter.unusedSectionVars false
namespace Go.Proofs.YtfdhahnnhaeibaaDoor
open Go Go.Mini Go.Proofs.Tryd
set_option maxRecDepth 100000

def flagK (s : St) (n : Nat) : Nat → List UInt8
  | 0 => []
  | 1 => if s.hi n = true then [104] else []
  | 2 => (if s.hi n = true then [104] else []) ++ if s.pe n = true then [112] else []
  | _ => ((if s.hi n = true then [104] else []) ++ if s.pe n = true then [112] else []) ++ if s.se n = true then [115] else []
def srcT (s : St) (n : Nat) : List UInt8 := dig (s.pr n) :: flagK s n 3
def ctxT (s : St) (c : Nat) : List UInt8 := [dig (s.en c / 16), dig (s.en c % 16), 47, dig (s.th c)]
def preT (s : St) : Nat → List UInt8
  | 0 => []
  | k + 1 => preT s k ++ srcT s (k + 1) ++ [32]
def textS (s : St) : List UInt8 := preT s 7 ++ ctxT s 0 ++ [32] ++ ctxT s 1
def ctxK (s : St) : Nat → List UInt8
  | 0 => preT s 7
  | 1 => preT s 7 ++ ctxT s 0 ++ [32]
  | _ => textS s
def piecesK (s : St) (k : Nat) : List (List UInt8) := (List.range k).map fun i => srcT s (i + 1)
def pieces (s : St) : List (List UInt8) := piecesK s 7 ++ [ctxT s 0, ctxT s 1]
theorem join_pieces (s : St) : Lib.join (pieces s) [32] = textS s := by
  have : pieces s = [srcT s 1, srcT s 2, srcT s 3, srcT s 4, srcT s 5, srcT s 6, srcT s 7, ctxT s 0, ctxT s 1] := rfl
  rw [this, Lib.join_cons]
  simp only [Lib.joinTail, textS, preT, List.map_cons, List.map_nil, List.flatten_cons, List.flatten_nil, List.append_assoc, List.nil_append, List.append_nil, List.cons_append]
theorem flagK_len (s : St) (n k : Nat) : (flagK s n k).length ≤ 3 := by
  unfold flagK
  split <;> (repeat' split) <;> simp
theorem srcT_len (s : St) (n : Nat) : (srcT s n).length ≤ 4 := by
  have := flagK_len s n 3
  simp only [srcT, List.length_cons]; omega
theorem preT_len (s : St) : ∀ k, (preT s k).length ≤ 5 * k := by
  intro k
  induction k with
  | zero => simp [preT]
  | succ k ih =>
    have := srcT_len s (k + 1)
    simp only [preT, List.length_append, List.length_cons, List.length_nil]
    omega
theorem textS_len (s : St) : (textS s).length ≤ 60 := by
  have := preT_len s 7
  simp only [textS, ctxT, List.length_append, List.length_cons, List.length_nil]
  omega
theorem dig_dec {n : Nat} (hn : n < 10) : Lib.decDigits n = [dig n] := by
  rw [Lib.decDigits, dif_pos hn]
  rcases (by omega : n = 0 ∨ n = 1 ∨ n = 2 ∨ n = 3 ∨ n = 4 ∨ n = 5 ∨ n = 6 ∨ n = 7 ∨ n = 8 ∨ n = 9) with rfl | rfl | rfl | rfl | rfl | rfl | rfl | rfl | rfl | rfl <;> rfl
theorem dig_add {n : Nat} (hn : n < 10) : UInt8.ofNat (48 + n) = dig n := by
  rcases (by omega : n = 0 ∨ n = 1 ∨ n = 2 ∨ n = 3 ∨ n = 4 ∨ n = 5 ∨ n = 6 ∨ n = 7 ∨ n = 8 ∨ n = 9) with rfl | rfl | rfl | rfl | rfl | rfl | rfl | rfl | rfl | rfl <;> rfl
section
variable {h : Hp} {K : Value → Hp → Prop} {p : Nat} {s : St}
theorem itoa_call {n : Nat} (hn : n < 10) (hK : K (.string (txt [dig n])) h) : ACall prog 29 [.int .i64 n] h K := by
  refine ACall.of_calls (r := .string (txt [dig n])) ⟨_, _, func29, rfl, rfl⟩ (by simp [vtop]) rfl (fun w => ?_) hK
  have := Go.Proofs.Tryd.strconv_Itoa_small n (by omega) w
  refine this.mono fun e w' ⟨he, hb⟩ => ⟨?_, hb ▸ RowKit.Below.refl _ _⟩
  rw [he, dig_dec hn]
  rfl
theorem join_call {m : Nat} {xs : List (List UInt8)} {sep : List UInt8} {v : Value} (hr : Row m h 1 xs.length (xs.map fun l => .string (txt l)) v) (hne : xs ≠ []) (hl : xs.length ≤ 140737488355328) (hlen : (Lib.join xs sep).length ≤ 140737488355328) (hK : K (.string (txt (Lib.join xs sep))) h) : ACall prog 30 [v, .string (txt sep)] h K :=
  join_of ⟨_, _, func30, rfl, rfl⟩ (fun bk o c ys s w h1 h2 h3 h4 h5 => Go.Proofs.Tryd.strings_Join bk o c ys s w h1 h2 h3 h4 h5) hr hne hl hlen hK
def tb15 : Nat → Marks := fun k => if k = 17 then ⟨[3, 7, 15], fun _ => True⟩ else ⟨[], fun _ => True⟩
@[simp] theorem tb15_l17 : (tb15 17).l = [3, 7, 15] := rfl
@[simp] theorem tb15_R (k x : Nat) : (tb15 k).R x := by unfold tb15; split <;> trivial
set_option maxHeartbeats 2000000 in
theorem refText_call (q : Inv2 s) (hb : h.blks p = some ⟨rC s, 1, true⟩) (hp : p < h.next) (hK : K (.string (txt (textS s))) h) : ACall prog 15 [ptr p] h K := by
  refine acallF_of tb15 func15 rfl rfl mixed (by kernel_rfl) fun hwf => ?_
  have A1 : ∀ n, n < 8 → (rC s)[n]? = some (.int .i64 (s.pr n)) := fun n hn => rA_pr s (enB s) hn
  have A2 : ∀ n, n < 8 → (rC s)[8 + n]? = some (.bool (s.hi n)) := fun n hn => rA_hi s (enB s) hn
  have A3 : ∀ n, n < 8 → (rC s)[16 + n]? = some (.bool (s.pe n)) := fun n hn => rA_pe s (enB s) hn
  have A4 : ∀ n, n < 8 → (rC s)[24 + n]? = some (.bool (s.se n)) := fun n hn => rA_se s (enB s) hn
  have A5 : ∀ c, c < 2 → (rC s)[48 + c]? = some (.int .i64 (s.th c)) := fun n hn => rA_th s (enB s) hn
  have A6 : ∀ c, c < 2 → (rC s).extract (32 + c * 8) (32 + c * 8 + 8) = boolC (enB s c) := fun c hc => ext8 fun k hk => rA_en s (enB s) hc hk
  have hCs : (rC s).size = 50 := rA_size _ _
  generalize rC s = C at *
  simp -dsimp (disch := omega)
  refine awp_loop (fun t h' => h' = h ∧ ∃ k : Nat, k ≤ 7 ∧ t 0 = ptr p ∧ t 3 = .string (txt (preT s k)) ∧ t 4 = .int .i64 (k + 1 : Nat)) (fun t _ => 8 - ivN (t 4)) ?_ ?_
  · simp -dsimp (disch := omega)
    exact ⟨0, by omega, rfl, rfl⟩
  · rintro t h' ⟨rfl, k, hk, t0, t3, t4⟩
    refine vcF_sound mixed (tb := tb15) _ (by kernel_rfl) ?_
    obtain ⟨n, hn⟩ : ∃ n, n = k + 1 := ⟨_, rfl⟩
    rw [← hn] at t4
    by_cases hk7 : n < 8
    · have hk7' : (n : Int) < 8 := by omega
      have a1 := A1 n hk7
      have a2 := A2 n hk7
      have a3 := A3 n hk7
      have a4 := A4 n hk7
      have pl := q.pr n
      have hpl := preT_len s k
      have hs : preT s n = preT s k ++ srcT s n ++ [32] := by rw [hn]; rfl
      unfold srcT flagK at hs
      simp -dsimp (disch := omega) [t0, t3, t4, hk7, hk7', hb, a1, -getElem?_pos]
      refine digit_call (by omega) ?_
      generalize preT s k = L at *
      cases e1 : s.hi n <;> cases e2 : s.pe n <;> cases e3 : s.se n
      all_goals
        rw [e1] at a2 hs
        rw [e2] at a3 hs
        rw [e3] at a4 hs
        simp only [if_true, List.nil_append, List.append_nil, List.cons_append, List.append_assoc, Bool.false_eq_true, if_false] at hs
        simp -dsimp (disch := first | omega | (simp; omega)) [t0, t3, t4, hk7, hk7', hb, a2, a3, a4, -getElem?_pos]
        exact ⟨⟨n, by omega, by rw [hs], by simp⟩, by simp [ivN]; omega⟩
    · obtain rfl : k = 7 := by omega
      subst hn
      have t4' : t 4 = .int .i64 8 := t4
      simp -dsimp (disch := omega) [t0, t3, t4']
      refine awp_loop (fun t h2 => h2 = h' ∧ ∃ c : Nat, c ≤ 2 ∧ t 0 = ptr p ∧ t 3 = .string (txt (ctxK s c)) ∧ t 5 = .int .i64 c) (fun t _ => 2 - ivN (t 5)) ?_ ?_
      · simp -dsimp (disch := omega) [t0, t3]
        exact ⟨0, by omega, rfl, rfl⟩
      · rintro t h2 ⟨rfl, c, hc, t0, t3, t5⟩
        refine vcF_sound mixed (tb := tb15) _ (by kernel_rfl) ?_
        have hpl := preT_len s 7
        rcases (by omega : c = 0 ∨ c = 1 ∨ c = 2) with rfl | rfl | rfl
        · rw [show ctxK s 0 = preT s 7 from rfl] at t3
          have t5' : t 5 = .int .i64 0 := t5
          have a5 : C[48]? = _ := A5 0 (by omega)
          have a6 : C.extract 32 40 = _ := A6 0 (by omega)
          have tl := q.th 0
          simp -dsimp (disch := omega) [t0, t3, t5', hb, hCs, a6, -getElem?_pos]
          refine bits_call ?_
          rw [bits_en q]
          have el := q.en 0
          obtain ⟨N, hN⟩ : ∃ N, N = s.en 0 := ⟨_, rfl⟩
          rw [← hN] at el ⊢
          have d1 : (N : Int) / 16 = ((N / 16 : Nat) : Int) := by omega
          have d2 : (N : Int) % 16 = ((N % 16 : Nat) : Int) := by omega
          have hs : ctxK s 1 = preT s 7 ++ [dig (N / 16), dig (N % 16), 47, dig (s.th 0), 32] := by rw [hN]; simp [ctxT, ctxK]
          generalize preT s 7 = L at *
          have q1 : N / 16 < 16 := by omega
          have q2 : N % 16 < 16 := by omega
          generalize N / 16 = n1 at *
          generalize N % 16 = n2 at *
          simp -dsimp (disch := first | omega | (simp; omega)) [t0, t3, t5', hb, d1, d2, -getElem?_pos]
          refine digit_call q1 ?_
          simp -dsimp (disch := first | omega | (simp; omega)) [t0, t3, t5', hb, d1, d2, -getElem?_pos]
          refine digit_call q2 ?_
          simp -dsimp (disch := first | omega | (simp; omega)) [t0, t3, t5', hb, a5, -getElem?_pos]
          refine digit_call (by omega) ?_
          simp -dsimp (disch := first | omega | (simp; omega)) [t0, t3, t5', hb, a5, -getElem?_pos]
          exact ⟨⟨1, by omega, by rw [hs], rfl⟩, by simp [ivN]⟩
        · rw [show ctxK s 1 = preT s 7 ++ ctxT s 0 ++ [32] from rfl] at t3
          have t5' : t 5 = .int .i64 1 := t5
          have a5 : C[49]? = _ := A5 1 (by omega)
          have a6 : C.extract 40 48 = _ := A6 1 (by omega)
          have tl := q.th 1
          simp -dsimp (disch := omega) [t0, t3, t5', hb, hCs, a6, -getElem?_pos]
          refine bits_call ?_
          rw [bits_en q]
          have el := q.en 1
          have hl0 : (preT s 7 ++ ctxT s 0 ++ [32]).length ≤ 60 := by simp [ctxT]; omega
          obtain ⟨N, hN⟩ : ∃ N, N = s.en 1 := ⟨_, rfl⟩
          rw [← hN] at el ⊢
          have d1 : (N : Int) / 16 = ((N / 16 : Nat) : Int) := by omega
          have d2 : (N : Int) % 16 = ((N % 16 : Nat) : Int) := by omega
          have hs : ctxK s 2 = (preT s 7 ++ ctxT s 0 ++ [32]) ++ [dig (N / 16), dig (N % 16), 47, dig (s.th 1)] := by rw [hN]; simp [textS, ctxT, ctxK]
          generalize preT s 7 ++ ctxT s 0 ++ [32] = L at *
          have q1 : N / 16 < 16 := by omega
          have q2 : N % 16 < 16 := by omega
          generalize N / 16 = n1 at *
          generalize N % 16 = n2 at *
          simp -dsimp (disch := first | omega | (simp; omega)) [t0, t3, t5', hb, d1, d2, -getElem?_pos]
          refine digit_call q1 ?_
          simp -dsimp (disch := first | omega | (simp; omega)) [t0, t3, t5', hb, d1, d2, -getElem?_pos]
          refine digit_call q2 ?_
          simp -dsimp (disch := first | omega | (simp; omega)) [t0, t3, t5', hb, a5, -getElem?_pos]
          refine digit_call (by omega) ?_
          simp -dsimp (disch := first | omega | (simp; omega)) [t0, t3, t5', hb, a5, -getElem?_pos]
          exact ⟨⟨2, by omega, by rw [hs], rfl⟩, by simp [ivN]⟩
        · rw [show ctxK s 2 = textS s from rfl] at t3
          have t5' : t 5 = .int .i64 2 := t5
          simp -dsimp (disch := omega) [t3, t5']
          exact RetF.same hwf (by simp [t3]) (Nat.zero_le _) (fun _ _ => rfl) hK
end
end Go.Proofs.YtfdhahnnhaeibaaDoor
