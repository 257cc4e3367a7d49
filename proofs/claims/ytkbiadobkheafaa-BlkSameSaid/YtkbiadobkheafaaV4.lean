/-
  BlkMoves: order; what stands in a memory as a text.
-/
import Derived.Test.YtkbiadobkheafaaV3
set_option linter.unusedSimpArgs false
set_option linter.unusedVariables false
set_option linter.unusedSectionVars false
namespace Go.Proofs.Ytkbiadobkheafaa
open Go Go.Mini Go.Proofs.Try
set_option maxRecDepth 100000

theorem leaves5 {a b c d g : Leaf} {r : List Value} (h : leavesIn [a, b, c, d, g] r) : ∃ x y z u v, r = [x, y, z, u, v] ∧ leafIn a x ∧ leafIn b y ∧ leafIn c z ∧ leafIn d u ∧ leafIn g v := by
  match r, h with
  | [x, y, z, u, v], ⟨h1, h2, h3, h4, h5, _⟩ => exact ⟨x, y, z, u, v, rfl, h1, h2, h3, h4, h5⟩
/-- A command with its registers. -/
def ordD (d : Dev) (s x c : Nat) : Dev := { d with rs := s, ra := x, rc := c, us := s, uc := c, ua := x, st := 1, lf := max d.dl 1 }
theorem ordD_eq {d : Dev} {s x c : Nat} (hs : s < 4294967296) (hc : c < 4294967296) (h : d.st ≠ 1) : writeD (writeD (writeD d 0 s) 8 x) 16 c = ordD d s x c := by
  have e1 : writeD d 0 s = { d with rs := s } := by unfold writeD; rw [if_pos rfl, Nat.mod_eq_of_lt hs]
  have e2 : writeD { d with rs := s } 8 x = { d with rs := s, ra := x } := by unfold writeD; rw [if_neg (by omega), if_pos rfl]
  have e3 : writeD { d with rs := s, ra := x } 16 c = beginD { d with rs := s, ra := x } c := by unfold writeD; rw [if_neg (by omega), if_neg (by omega), if_pos rfl, Nat.mod_eq_of_lt hc]
  rw [e1, e2, e3]
  unfold beginD
  rw [if_neg (by exact h)]
  rfl
section
variable {h0 h : Hp} {K : Value → Hp → Prop} {p : Nat} {d : Dev} {pm b N C : Nat} {M : Nat → Nat} {a : Nat} {w : Int}
theorem order_ow {s x c : Nat} (o : Ow h0 h p d pm b N C M a w) (hs : s < 4294967296) (hx : x < 18446744073709551616) (hc : c < 4294967296) (hd : d.st ≠ 1) (hK : ∀ h', Ow h0 h' p (ordD d s x c) pm b N C M a w → Fr h h' (fun i => i = p) → K (.bool true) h') : ACall prog 11 [ptr p, .int .u32 s, .int .u64 x, .int .u64 c] h K := by
  refine acallF_of tb0 func11 rfl rfl mixed (by kernel_rfl) fun hwf => ?_
  simp -dsimp (disch := omega)
  refine write_ow (off := 0) (n := 4) o (by omega) (by omega) fun h1 o1 f1 => ?_
  rw [show mayD 0 4 = true from rfl, if_pos rfl] at o1
  rw [show mayD 0 4 = true from rfl]
  simp -dsimp (disch := omega)
  refine write_ow (off := 8) (n := 8) o1 (by omega) (by omega) fun h2 o2 f2 => ?_
  rw [show mayD 8 8 = true from rfl, if_pos rfl] at o2
  rw [show mayD 8 8 = true from rfl]
  simp -dsimp (disch := omega)
  refine write_ow (off := 16) (n := 4) o2 (by omega) (by omega) fun h3 o3 f3 => ?_
  rw [show mayD 16 4 = true from rfl, if_pos rfl, ordD_eq hs hc hd] at o3
  rw [show mayD 16 4 = true from rfl]
  simp -dsimp (disch := omega)
  refine reads_call (off := 16) (w := 4) (want := c) o3.dm.dev o3.dm.ok (by omega) ?_
  rw [show (mayD 16 4 && decide (readD (ordD d s x c) 16 4 = c)) = true from by rw [show readD (ordD d s x c) 16 4 = c from rfl, decide_eq_true rfl]; rfl]
  simp -dsimp (disch := omega)
  exact RetF.all (r := .bool true) (by simp) (hK _ o3 ((f1.trans f2 fun _ _ q => q).trans f3 fun _ _ q => q))
theorem mbytes_ow {x n : Nat} (o : Ow h0 h p d pm b N C M a w) (hx : x + n ≤ N) (hK : K (.tuple #[.string (txt (bytesM M x n)), .int .i64 0]) h) : ACall prog 14 [ptr pm, .int .u64 x, .int .u64 n] h K :=
  Rm.bytes_call o.dm.ram (fun _ => hK) fun q => absurd hx q
theorem mput_ow {x n : Nat} {l : List UInt8} (o : Ow h0 h p d pm b N C M a w) (hl : l.length = n) (hn : n < 9223372036854775808) (hx : x + n ≤ N) (hK : ∀ h' a' w', Ow h0 h' p d pm b N C (lay M x l) a' w' → Fr h h' (three p pm b) → K (.int .i64 0) h') : ACall prog 10 [ptr pm, .int .u64 x, .string (txt l)] h K :=
  mput_call o.dm.ram hl hn (fun _ h2 r2 c2 => by
    have f2 : Fr h h2 (fun i => i = pm ∨ i = b) := Fr.ch c2 (.inl rfl) (.inr rfl)
    exact hK h2 _ _ (o.fr ⟨by rw [f2.same _ o.dm.plt (fun q => q.elim o.dm.p1 o.dm.p2)]; exact o.dm.dev, o.dm.ok, Nat.lt_of_lt_of_le o.dm.plt f2.le, r2, o.dm.p1, o.dm.p2⟩ f2 (fun i q => q.elim (fun e => e ▸ o.nm) fun e => e ▸ o.nb)) ⟨f2.le, fun i h1 h2 => f2.same i h1 fun q => h2 (.inr q)⟩) fun q => absurd hx q
end
theorem bytes_take (S0 : Nat → Nat) (n : Nat) (M : Nat → Nat) (x : Nat) : bytesM (takeS S0 n M x) (n * 64) 64 = bytesM M x 64 := by
  apply List.ext_getElem?
  intro i
  by_cases hi : i < 64
  · rw [bytesM_at _ _ _ _ hi, bytesM_at _ _ _ _ hi]
    unfold takeS
    rw [if_pos (by omega), show n * 64 + i - n * 64 = i by omega]
  · rw [List.getElem?_eq_none (by rw [bytesM_length]; omega), List.getElem?_eq_none (by rw [bytesM_length]; omega)]
theorem bytes_lay (M : Nat → Nat) (x n : Nat) (l : List UInt8) (hl : l.length = n) : bytesM (lay M x l) x n = l := by
  apply List.ext_getElem?
  intro i
  by_cases hi : i < n
  · rw [bytesM_at _ _ _ _ hi]
    unfold lay
    rw [if_pos (by omega), show x + i - x = i by omega, List.getElem?_eq_getElem (by omega)]
    simp
  · rw [List.getElem?_eq_none (by rw [bytesM_length]; omega), List.getElem?_eq_none (by omega)]
theorem bytes_put (M : Nat → Nat) (x n N : Nat) (l : List UInt8) (hl : l.length = n) (hx : x + n ≤ N) : bytesM (lay M x l) 0 N = (bytesM M 0 N).take x ++ l ++ (bytesM M 0 N).drop (x + n) := by
  apply List.ext_getElem?
  intro i
  have hL : (bytesM M 0 N).length = N := bytesM_length _ _ _
  have ht : ((bytesM M 0 N).take x).length = x := by rw [List.length_take, hL]; omega
  by_cases hi : i < N
  · rw [bytesM_at _ _ _ _ hi]
    unfold lay
    by_cases c1 : i < x
    · rw [if_neg (by omega), List.append_assoc, List.getElem?_append_left (by omega), List.getElem?_take, if_pos c1, bytesM_at _ _ _ _ hi]
    · by_cases c2 : i < x + n
      · rw [if_pos (by omega), List.append_assoc, List.getElem?_append_right (by omega), ht, List.getElem?_append_left (by omega), Nat.zero_add, List.getElem?_eq_getElem (by omega)]
        simp
      · rw [if_neg (by omega), List.getElem?_append_right (by rw [List.length_append]; omega), List.length_append, ht, hl, List.getElem?_drop, show x + n + (i - (x + n)) = i by omega, bytesM_at _ _ _ _ hi]
  · rw [List.getElem?_eq_none (by rw [bytesM_length]; omega), List.getElem?_eq_none (by simp only [List.length_append, List.length_drop, ht, hL]; omega)]
end Go.Proofs.Ytkbiadobkheafaa
