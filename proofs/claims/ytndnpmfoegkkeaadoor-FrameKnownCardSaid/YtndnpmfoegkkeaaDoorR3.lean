/-
  Texts of a table: the document's, the program's.
-/
import Derived.Test.YtndnpmfoegkkeaaDoorR2
import Derived.Test.YtndnpmfoegkkeaaDoorN8
import Derived.Test.YtndnpmfoegkkeaaDoorShelf
import Derived.Lib.ItoaNum
set_option linter.unusedSimpArgs false
set_option linter.unusedVariables false
set_option linter.unusedSectionVars false
namespace Go.Proofs.YtndnpmfoegkkeaaDoor
open Go Go.Mini Go.Proofs.Tryd
set_option maxRecDepth 100000

theorem gPow : prog.globalNamed "internal/strconv.uint64pow10" = some 0 := by kernel_rfl
def powC : Array Value := (Lib.pow10Tab.map fun z => Value.int .u64 z).toArray
def PowAt (h : Hp) : Prop := h.blks (100 + 0) = some ⟨powC, 0, false⟩
theorem dec_len : ∀ (k n : Nat), n < 10 ^ (k + 1) → (Lib.decDigits n).length ≤ k + 1 := by
  intro k
  induction k with
  | zero => intro n hn; rw [Lib.decDigits, dif_pos (by omega)]; simp
  | succ k ih =>
    intro n hn
    rw [Lib.decDigits]
    split
    · simp
    · rw [List.length_append]
      have := ih (n / 10) (by rw [Nat.pow_succ] at hn; omega)
      simp only [List.length_cons, List.length_nil]; omega
theorem dec_len5 {n : Nat} (hn : n < 65536) : (Lib.decDigits n).length ≤ 5 := dec_len 4 n (by omega)
def piece (w : Win) : List UInt8 := (if w.g = 255 then [45] else Lib.decDigits w.g) ++ 58 :: Lib.decDigits w.s
theorem piece_len {w : Win} (hw : w.ok) : (piece w).length ≤ 11 := by
  have h1 := dec_len5 (n := w.g) (by have := hw.1; omega)
  have h2 := dec_len5 (n := w.s) hw.2
  unfold piece
  rw [List.length_append, List.length_cons]
  split
  · simp only [List.length_cons, List.length_nil]; omega
  · omega
def piecesK (l : List Win) (k : Nat) : List (List UInt8) := (l.take k).map piece
def textK (l : List Win) (k : Nat) : List UInt8 := Lib.join (piecesK l k) [32]
theorem join_snoc (xs : List (List UInt8)) (x sep : List UInt8) : Lib.join (xs ++ [x]) sep = if xs = [] then x else Lib.join xs sep ++ sep ++ x := by
  cases xs with
  | nil => rw [List.nil_append, Lib.join_one, if_pos rfl]
  | cons y r =>
    rw [List.cons_append, Lib.join_cons, if_neg (by simp), Lib.join_cons]
    simp only [Lib.joinTail, List.map_append, List.map_cons, List.map_nil, List.flatten_append, List.flatten_cons, List.flatten_nil, List.append_nil, List.append_assoc]
theorem piecesK_succ {l : List Win} {k : Nat} {w : Win} (hx : l[k]? = some w) : piecesK l (k + 1) = piecesK l k ++ [piece w] := by
  simp [piecesK, List.take_add_one, hx]
theorem piecesK_len {l : List Win} {k : Nat} (hk : k ≤ l.length) : (piecesK l k).length = k := by simp [piecesK]; omega
theorem textK_succ {l : List Win} {k : Nat} {w : Win} (hx : l[k]? = some w) : textK l (k + 1) = textK l k ++ (if 0 < k then [32] else []) ++ piece w := by
  unfold textK
  rw [piecesK_succ hx, join_snoc]
  have hk : k < l.length := (List.getElem?_eq_some_iff.1 hx).1
  by_cases h0 : k = 0
  · subst h0
    rw [if_pos (by simp [piecesK]), if_neg (by omega)]
    simp [piecesK, Lib.join_nil]
  · rw [if_neg (fun e => by have := piecesK_len (l := l) (Nat.le_of_lt hk); rw [e] at this; simp at this; omega), if_pos (by omega)]
theorem textK_len {l : List Win} (hok : ∀ w ∈ l, w.ok) : ∀ k, k ≤ l.length → (textK l k).length ≤ 12 * k := by
  intro k
  induction k with
  | zero => intro _; simp [textK, piecesK, Lib.join_nil]
  | succ k ih =>
    intro hk
    obtain ⟨w, hx⟩ : ∃ w, l[k]? = some w := ⟨l[k], List.getElem?_eq_getElem (by omega)⟩
    rw [textK_succ hx]
    have h1 := ih (by omega)
    have h2 := piece_len (hok w (List.mem_of_getElem? hx))
    simp only [List.length_append]
    split
    · simp only [List.length_cons, List.length_nil]; omega
    · simp only [List.length_nil]; omega
section
variable {h : Hp} {K : Value → Hp → Prop} {l : List Win}
theorem positive_call {N : Nat} (hN : N < 65536) (hK : K (.string (txt (Lib.decDigits N))) h) : ACall prog 34 [.int .u64 N] h K := by
  refine acallF_of tb0 func34 rfl rfl mixed (by kernel_rfl) fun hwf => ?_
  simp -dsimp (disch := omega)
  refine awp_loop (fun t h' => Ext h h' ∧ ∃ (m : Nat) (s : List UInt8), t 0 = .int .u64 m ∧ t 3 = .string (txt s) ∧ Lib.decDigits N = Lib.decDigits m ++ s ∧ m ≤ N ∧ (s.length = 0 ∨ (1 ≤ m ∧ m * 10 ^ s.length ≤ N))) (fun t _ => ivN (t 0)) ?_ ?_
  · simp -dsimp (disch := omega)
    exact ⟨Ext.refl _, N, rfl, rfl, Nat.le_refl _⟩
  · rintro t h' ⟨he, m, s, t0, t3, hd, hm, hs⟩
    refine vcF_sound mixed (tb := tb0) _ (by kernel_rfl) ?_
    have hsl : s.length < 6 := by
      rcases hs with hs | ⟨h1, h2⟩
      · omega
      · rcases Nat.lt_or_ge s.length 6 with h | h
        · exact h
        · have h3 : 10 ^ 6 ≤ 10 ^ s.length := Nat.pow_le_pow_right (by omega) h
          have h4 : 1 * 10 ^ s.length ≤ m * 10 ^ s.length := Nat.mul_le_mul_right _ h1
          omega
    have e1 : (m : Int) % 10 = ((m % 10 : Nat) : Int) := by omega
    have e2 : (m : Int) / 10 = ((m / 10 : Nat) : Int) := by omega
    have hr : m % 10 < 10 := Nat.mod_lt _ (by omega)
    have hdm : Lib.decDigits m = if m < 10 then [UInt8.ofNat (48 + m)] else Lib.decDigits (m / 10) ++ [UInt8.ofNat (48 + m % 10)] := by
      rw [Lib.decDigits]; split <;> rfl
    have e0 : m < 10 ↔ m / 10 = 0 := by omega
    have hm10 : m < 10 → m % 10 = m := fun h => Nat.mod_eq_of_lt h
    have hmul : m / 10 * 10 ≤ m := Nat.div_mul_le_self _ _
    have hdl : m / 10 ≤ m := Nat.div_le_self _ _
    have hlt : 0 < m → m / 10 < m := fun h => Nat.div_lt_self h (by omega)
    generalize hr2 : m % 10 = r at *
    generalize hd2 : m / 10 = d at *
    have e48 : (48 + (r : Int)).toNat = 48 + r := by omega
    obtain ⟨B, hB⟩ : ∃ B, B = UInt8.ofNat (48 + r) := ⟨_, rfl⟩
    have hB' : 48 + UInt8.ofNat r = B := by rw [hB]; simp
    rw [← hB] at hdm
    by_cases hd0 : d = 0
    · have hd0' : (d : Int) = 0 := by omega
      rw [if_pos (e0.2 hd0)] at hdm
      rw [hdm] at hd
      have hrm := hm10 (e0.2 hd0)
      simp -dsimp (disch := first | omega | (simp; omega)) [t0, t3, e1, e2, e48, hB', hd0, hd0']
      rw [hd] at hK
      refine RetF.same (r := .string (txt (B :: s))) hwf (by simp) (Nat.zero_le _) (fun i hi => by rw [blks_alloc_ne _ _ _ (by have := he.le; omega)]; exact he.same i hi) ?_
      rw [hB, hrm]
      exact hK
    · have hd0' : ¬ (d : Int) = 0 := by omega
      rw [if_neg (fun h => hd0 (e0.1 h))] at hdm
      rw [hdm] at hd
      simp -dsimp (disch := first | omega | (simp; omega)) [t0, t3, e1, e2, e48, hB', hd0, hd0']
      refine ⟨⟨he.then_alloc _, d, rfl, by rw [hd]; simp, by omega, by omega, ?_⟩, by simp [ivN]; exact hlt (by omega)⟩
      rw [Nat.pow_succ]
      rcases hs with hs | ⟨h1, h2⟩
      · rw [hs]; omega
      · have : d * (10 ^ s.length * 10) = d * 10 * 10 ^ s.length := by rw [Nat.mul_comm (10 ^ s.length) 10, Nat.mul_assoc]
        rw [this]
        exact Nat.le_trans (Nat.mul_le_mul_right _ hmul) h2
theorem digits_call {N : Nat} (hN : N < 65536) (hK : K (.string (txt (Lib.decDigits N))) h) : ACall prog 26 [.int .i64 N] h K := by
  refine acallF_of tb0 func26 rfl rfl mixed (by kernel_rfl) fun hwf => ?_
  have n0 : ¬ (N : Int) < 0 := by omega
  simp -dsimp (disch := omega) [n0]
  refine positive_call hN ?_
  simp -dsimp (disch := omega)
  exact RetF.same hwf (by simp) (Nat.zero_le _) (fun _ _ => rfl) hK
set_option maxHeartbeats 1000000 in
theorem refText_call {v : Value} (hok : ∀ w ∈ l, w.ok) (hv : Sl h 2 l.length (winsC l) v) (hl : l.length ≤ 32) (hK : K (.string (txt (textK l l.length))) h) : ACall prog 11 [v] h K := by
  refine acallF_of tb0 func11 rfl rfl mixed (by kernel_rfl) fun hwf => ?_
  obtain ⟨va, vc, rfl⟩ := hv.slice
  obtain ⟨n, hn⟩ : ∃ n, n = l.length := ⟨_, rfl⟩
  rw [← hn] at hK ⊢
  simp -dsimp (disch := omega)
  refine awp_loop (fun t h' => h' = h ∧ ∃ k : Nat, k ≤ n ∧ t 0 = .slice va n vc ∧ t 3 = .string (txt (textK l k)) ∧ t 4 = .int .i64 k) (fun t _ => n - ivN (t 4)) ?_ ?_
  · simp -dsimp (disch := omega)
    exact ⟨0, by omega, rfl, rfl⟩
  · rintro t h' ⟨rfl, k, hk, t0, t3, t4⟩
    refine vcF_sound mixed (tb := tb0) _ (by kernel_rfl) ?_
    by_cases hkn : k < n
    · have hkn' : (k : Int) < n := by omega
      obtain ⟨w, hx⟩ : ∃ w, l[k]? = some w := ⟨l[k], List.getElem?_eq_getElem (by omega)⟩
      obtain ⟨a', c', b', q1, f1, s1, x1, y1⟩ := sl_el (f := winC) (n := 2) winC_len hv hx
      cases q1
      have y0 : b'.cells[a'.off + k * 2]? = some (.int .u8 w.g) := y1 0 (by omega)
      have y1 : b'.cells[a'.off + k * 2 + 1]? = some (.int .u16 w.s) := y1 1 (by omega)
      have ts := textK_succ hx
      have tl := textK_len hok k (by omega)
      obtain ⟨wo1, wo2⟩ := hok w (List.mem_of_getElem? hx)
      unfold piece at ts
      obtain ⟨g, s⟩ := w
      simp only at wo1 wo2 y0 y1 ts
      have l1 := dec_len5 (n := g) (by omega)
      have l2 := dec_len5 wo2
      have fin : ∀ (T : List UInt8), T = textK l (k + 1) → textK l (k + 1) = T := fun T h => h.symm
      generalize textK l k = T at *
      have d1 : ∀ {K : Value → Hp → Prop}, K (.string (txt (Lib.decDigits g))) h' → ACall prog 26 [.int .i64 g] h' K := fun h => digits_call (by omega) h
      have d2 : ∀ {K : Value → Hp → Prop}, K (.string (txt (Lib.decDigits s))) h' → ACall prog 26 [.int .i64 s] h' K := fun h => digits_call wo2 h
      generalize Lib.decDigits g = G at *
      generalize Lib.decDigits s = S at *
      by_cases h0 : 0 < k
      · have h0' : (0 : Int) < k := by omega
        rw [if_pos h0] at ts
        by_cases h255 : g = 255
        · have h255' : (g : Int) = 255 := by omega
          rw [if_pos h255] at ts
          simp -dsimp (disch := first | omega | (simp; omega)) [t0, t3, t4, hkn, hkn', h0, h0', f1, y0, y1, h255, h255', -getElem?_pos]
          refine d2 ?_
          simp -dsimp (disch := first | omega | (simp; omega)) [t0, t3, t4]
          exact ⟨⟨k + 1, by omega, by rw [ts]; simp, by simp⟩, by simp [ivN]; omega⟩
        · have h255' : ¬ (g : Int) = 255 := by omega
          rw [if_neg h255] at ts
          simp -dsimp (disch := first | omega | (simp; omega)) [t0, t3, t4, hkn, hkn', h0, h0', f1, y0, y1, h255, h255', -getElem?_pos]
          refine d1 ?_
          simp -dsimp (disch := first | omega | (simp; omega)) [t0, t3, t4, f1, y1, -getElem?_pos]
          refine d2 ?_
          simp -dsimp (disch := first | omega | (simp; omega)) [t0, t3, t4]
          exact ⟨⟨k + 1, by omega, by rw [ts]; simp, by simp⟩, by simp [ivN]; omega⟩
      · obtain rfl : k = 0 := by omega
        have t4' : t 4 = .int .i64 0 := t4
        have y0 : b'.cells[a'.off]? = some (.int .u8 g) := by simpa using y0
        have y1 : b'.cells[a'.off + 1]? = some (.int .u16 s) := by simpa using y1
        rw [if_neg h0] at ts
        by_cases h255 : g = 255
        · have h255' : (g : Int) = 255 := by omega
          rw [if_pos h255] at ts
          simp -dsimp (disch := first | omega | (simp; omega)) [t0, t3, t4', hkn, hkn', f1, y0, y1, h255, h255', -getElem?_pos]
          refine d2 ?_
          simp -dsimp (disch := first | omega | (simp; omega)) [t0, t3, t4']
          exact ⟨⟨1, by omega, by rw [ts]; simp, by simp⟩, by simp [ivN]; omega⟩
        · have h255' : ¬ (g : Int) = 255 := by omega
          rw [if_neg h255] at ts
          simp -dsimp (disch := first | omega | (simp; omega)) [t0, t3, t4', hkn, hkn', f1, y0, y1, h255, h255', -getElem?_pos]
          refine d1 ?_
          simp -dsimp (disch := first | omega | (simp; omega)) [t0, t3, t4', f1, y1, -getElem?_pos]
          refine d2 ?_
          simp -dsimp (disch := first | omega | (simp; omega)) [t0, t3, t4']
          exact ⟨⟨1, by omega, by rw [ts]; simp, by simp⟩, by simp [ivN]; omega⟩
    · obtain rfl : k = n := by omega
      simp -dsimp (disch := omega) [t0, t3, t4]
      exact RetF.same hwf (by simp [t3]) (Nat.zero_le _) (fun _ _ => rfl) hK
theorem itoa_call {N : Nat} (hN : N < 65536) (ht : PowAt h) (hK : K (.string (txt (Lib.decDigits N))) h) : ACall prog 24 [.int .i64 N] h K := by
  refine ACall.of_table (r := .string (txt (Lib.decDigits N))) (g := 0) (c := powC) (name := "internal/strconv.uint64pow10") ⟨_, _, func24, rfl, rfl⟩ (by simp [vtop]) rfl (by decide) ht (fun v hv ρ => ?_) gPow (fun w hw => ?_) hK
  · simp only [powC, List.mem_toArray, List.mem_map] at hv
    obtain ⟨z, _, rfl⟩ := hv
    rfl
  · refine (Go.Proofs.Tryd.strconv_Itoa (N : Int) (by omega) (by omega) w hw).mono fun e w' ⟨he, hb⟩ => ⟨?_, hb⟩
    rw [he]
    have : Lib.itoa (N : Int) = Lib.decDigits N := by unfold Lib.itoa; rw [if_neg (by omega), Int.toNat_natCast]
    rw [this]
    rfl
theorem join_call {m : Nat} {xs : List (List UInt8)} {sep : List UInt8} {v : Value} (hr : Row m h 1 xs.length (xs.map fun l => .string (txt l)) v) (hne : xs ≠ []) (hl : xs.length ≤ 140737488355328) (hlen : (Lib.join xs sep).length ≤ 140737488355328) (hK : K (.string (txt (Lib.join xs sep))) h) : ACall prog 25 [v, .string (txt sep)] h K :=
  join_of ⟨_, _, func25, rfl, rfl⟩ (fun bk o c ys s w h1 h2 h3 h4 h5 => Go.Proofs.Tryd.strings_Join bk o c ys s w h1 h2 h3 h4 h5) hr hne hl hlen hK
end
end Go.Proofs.YtndnpmfoegkkeaaDoor
