/-
  Records of events: what is kept, what is dropped. Plain lists; no program in sight.
-/
import Derived.Test.YtcfgagpjdhhddaaM20
set_option linter.unusedSimpArgs false
set_option linter.unusedVariables false
set_option linter.unusedSectionVars false
namespace Go.Proofs.Ytcfgagpjdhhddaa
open Go Go.Mini

structure Ev where
  t : Nat
  g : Nat
  k : Nat
  v : Nat
  deriving DecidableEq
def Ev.ok (e : Ev) : Prop := e.t < 4294967296 ∧ e.g < 256 ∧ e.k < 256 ∧ e.v < 4294967296
def evC (e : Ev) : List Value := [.int .u32 e.t, .int .u8 e.g, .int .u8 e.k, .int .u32 e.v]
def evsC (l : List Ev) : List Value := l.flatMap evC
def drC (l : List (Nat × Nat)) : List Value := l.flatMap fun d => [.int .i64 d.1, .int .u8 d.2]

/-- A number's bytes, the lowest first. -/
def num : List UInt8 → Nat
  | [] => 0
  | b :: l => b.toNat + 256 * num l
theorem num_lt : ∀ l : List UInt8, num l < 256 ^ l.length
  | [] => by simp [num]
  | b :: l => by
    have ih := num_lt l
    have hb := b.toNat_lt
    simp only [num, List.length_cons, Nat.pow_succ]
    omega
def byteAt (L : List UInt8) (i : Nat) : Nat := ((L[i]?).getD 0).toNat
theorem byteAt_lt (L : List UInt8) (i : Nat) : byteAt L i < 256 := UInt8.toNat_lt _
/-- The record that begins at a place. -/
def recA (L : List UInt8) (o : Nat) : Ev := ⟨num ((L.drop o).take 4), byteAt L (o + 4), byteAt L (o + 5), num ((L.drop (o + 6)).take 4)⟩
theorem num4_lt (L : List UInt8) (o : Nat) : num ((L.drop o).take 4) < 4294967296 := by
  have h1 := num_lt ((L.drop o).take 4)
  have h2 : ((L.drop o).take 4).length ≤ 4 := by simp; omega
  have h3 : 256 ^ ((L.drop o).take 4).length ≤ 256 ^ 4 := Nat.pow_le_pow_right (by omega) h2
  omega
theorem recA_ok (L : List UInt8) (o : Nat) : (recA L o).ok := ⟨num4_lt L o, byteAt_lt L _, byteAt_lt L _, num4_lt L _⟩

def mayE (e : Ev) : Bool := (decide (e.k = 1) && decide (e.v < 256)) || ((decide (e.k = 2) && (decide (8 ≤ e.v) && decide (e.v ≤ 15))) || (decide (e.k = 3) && decide (e.v < 65536)))
def great (l : List Ev) (g : Nat) : Nat := l.foldl (fun n e => if e.g = g ∧ n < e.t then e.t else n) 0
theorem great_snoc (l : List Ev) (e : Ev) (g : Nat) : great (l ++ [e]) g = if e.g = g ∧ great l g < e.t then e.t else great l g := by
  unfold great
  rw [List.foldl_append]
  rfl
def whyE (guests : Int) (kept : List Ev) (e : Ev) : Nat := if mayE e = false then 1 else if guests ≤ e.g then 2 else if e.t < great kept e.g then 3 else 0

/-- Behind so many records. -/
def pst (guests : Int) (R : Nat → Ev) : Nat → List Ev × List (Nat × Nat)
  | 0 => ([], [])
  | n + 1 => if whyE guests (pst guests R n).1 (R n) = 0 then ((pst guests R n).1 ++ [R n], (pst guests R n).2) else ((pst guests R n).1, (pst guests R n).2 ++ [(n, whyE guests (pst guests R n).1 (R n))])
theorem pst_ok {guests : Int} {R : Nat → Ev} (h : ∀ i, (R i).ok) (n : Nat) : ∀ e ∈ (pst guests R n).1, e.ok := by
  induction n with
  | zero => intro e he; cases he
  | succ n ih =>
    intro e he
    unfold pst at he
    split at he
    · rcases List.mem_append.1 he with he | he
      · exact ih e he
      · obtain rfl := List.mem_singleton.1 he; exact h n
    · exact ih e he
theorem pst_len (guests : Int) (R : Nat → Ev) (n : Nat) : (pst guests R n).1.length + (pst guests R n).2.length = n := by
  induction n with
  | zero => rfl
  | succ n ih => unfold pst; split <;> simp <;> omega
theorem whyE_le (guests : Int) (kept : List Ev) (e : Ev) : whyE guests kept e ≤ 3 := by unfold whyE; (repeat' split) <;> omega
theorem pst_dr (guests : Int) (R : Nat → Ev) (n : Nat) : ∀ d ∈ (pst guests R n).2, d.1 < n ∧ 1 ≤ d.2 ∧ d.2 ≤ 3 := by
  induction n with
  | zero => intro e he; cases he
  | succ n ih =>
    intro d hd
    unfold pst at hd
    split at hd
    · have := ih d hd; omega
    · rename_i hw
      rcases List.mem_append.1 hd with hd | hd
      · have := ih d hd; omega
      · obtain rfl := List.mem_singleton.1 hd
        have := whyE_le guests (pst guests R n).1 (R n)
        exact ⟨by simp, by simp; omega, by simpa using this⟩
def recs (L : List UInt8) (i : Nat) : Ev := recA L (10 * i)
def parse (guests : Int) (L : List UInt8) : List Ev × List (Nat × Nat) :=
  if L.length % 10 = 0 then pst guests (recs L) (L.length / 10) else ((pst guests (recs L) (L.length / 10)).1, (pst guests (recs L) (L.length / 10)).2 ++ [(L.length / 10, 1)])

end Go.Proofs.Ytcfgagpjdhhddaa
