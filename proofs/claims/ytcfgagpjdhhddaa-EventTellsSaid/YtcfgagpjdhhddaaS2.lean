/-
  Records and their bytes; what is kept of a guest hangs on its own records alone. Plain laws.
-/
import Derived.Test.YtcfgagpjdhhddaaD8
set_option linter.unusedSimpArgs false
set_option linter.unusedVariables false
set_option linter.unusedSectionVars false
namespace Go.Proofs.Ytcfgagpjdhhddaa
open Go Go.Mini

theorem digs_front (N w : Nat) : digs (N : Int) (w + 1) = UInt8.ofNat (N % 256) :: digs ((N / 256 : Nat) : Int) w := by
  unfold digs
  rw [List.range_succ_eq_map, List.map_cons, List.map_map]
  congr 1
  · unfold digAt
    congr 1
    rw [Int.pow_zero, Int.ediv_one]
    omega
  · apply List.map_congr_left
    intro i _
    show digAt (N : Int) (i + 1) = digAt ((N / 256 : Nat) : Int) i
    unfold digAt
    have : ((N / 256 : Nat) : Int) / 256 ^ i = (N : Int) / 256 ^ (i + 1) := by
      rw [Int.natCast_ediv, Int.ediv_ediv_of_nonneg (by omega)]
      congr 1
      rw [Int.pow_succ, Int.mul_comm]; rfl
    rw [this]
theorem num_digs (w : Nat) : ∀ N : Nat, num (digs (N : Int) w) = N % 256 ^ w := by
  induction w with
  | zero => intro N; rw [digs_zero, Nat.pow_zero, Nat.mod_one]; rfl
  | succ w ih =>
    intro N
    rw [digs_front, num, ih, Nat.pow_succ, Nat.mul_comm (256 ^ w), Nat.mod_mul]
    congr 1
    rw [UInt8.toNat_ofNat']
    omega
theorem bytesE_eq (e : Ev) : bytesE e = digs (e.t : Int) 4 ++ (digs (e.g : Int) 1 ++ (digs (e.k : Int) 1 ++ digs (e.v : Int) 4)) := by
  simp [bytesE, Go.Proofs.Ytcfgagpjdhhddaa.putL, wideF]
theorem recA_bytes (e : Ev) (he : e.ok) (r : List UInt8) : recA (bytesE e ++ r) 0 = e := by
  obtain ⟨t, g, k, v⟩ := e
  obtain ⟨h1, h2, h3, h4⟩ := he
  simp only at h1 h2 h3 h4
  rw [bytesE_eq]
  simp only
  have l4 : ∀ N : Nat, (digs (N : Int) 4).length = 4 := fun N => digs_length _ _
  have d1 : ∀ N : Nat, digs (N : Int) 1 = [UInt8.ofNat (N % 256)] := fun N => by rw [digs_front, digs_zero]
  rw [d1, d1]
  unfold recA
  have e1 : ((digs (t : Int) 4 ++ ([UInt8.ofNat (g % 256)] ++ ([UInt8.ofNat (k % 256)] ++ digs (v : Int) 4)) ++ r).drop 0).take 4 = digs (t : Int) 4 := by
    rw [List.drop_zero, List.append_assoc]
    exact List.take_left' (l4 t)
  have e4 : ((digs (t : Int) 4 ++ ([UInt8.ofNat (g % 256)] ++ ([UInt8.ofNat (k % 256)] ++ digs (v : Int) 4)) ++ r).drop (0 + 6)).take 4 = digs (v : Int) 4 := by
    have : digs (t : Int) 4 ++ ([UInt8.ofNat (g % 256)] ++ ([UInt8.ofNat (k % 256)] ++ digs (v : Int) 4)) ++ r = (digs (t : Int) 4 ++ [UInt8.ofNat (g % 256), UInt8.ofNat (k % 256)]) ++ (digs (v : Int) 4 ++ r) := by simp
    rw [this, List.drop_left' (by rw [List.length_append, l4]; rfl)]
    exact List.take_left' (l4 v)
  rw [e1, e4, num_digs, num_digs, Nat.mod_eq_of_lt (show t < 256 ^ 4 from h1), Nat.mod_eq_of_lt (show v < 256 ^ 4 from h4)]
  have g1 : byteAt (digs (t : Int) 4 ++ ([UInt8.ofNat (g % 256)] ++ ([UInt8.ofNat (k % 256)] ++ digs (v : Int) 4)) ++ r) (0 + 4) = g := by
    unfold byteAt
    rw [List.append_assoc, List.getElem?_append_right (by rw [l4]; omega), l4]
    simp
    omega
  have g2 : byteAt (digs (t : Int) 4 ++ ([UInt8.ofNat (g % 256)] ++ ([UInt8.ofNat (k % 256)] ++ digs (v : Int) 4)) ++ r) (0 + 5) = k := by
    unfold byteAt
    rw [List.append_assoc, List.getElem?_append_right (by rw [l4]; omega), l4]
    simp
    omega
  rw [g1, g2]
theorem recA_drop (L : List UInt8) (o : Nat) : recA L o = recA (L.drop o) 0 := by
  unfold recA byteAt
  simp [List.drop_drop]
theorem buildL_drop (l : List Ev) : ∀ i, (buildL l).drop (10 * i) = buildL (l.drop i) := by
  induction l with
  | nil => intro i; simp [buildL]
  | cons e l ih =>
    intro i
    cases i with
    | zero => rfl
    | succ i =>
      have h1 : buildL (e :: l) = bytesE e ++ buildL l := rfl
      rw [h1, show 10 * (i + 1) = (bytesE e).length + 10 * i from by rw [bytesE_length]; omega, List.drop_length_add_append, ih i]
      rfl
theorem recs_build (l : List Ev) (h : ∀ e ∈ l, e.ok) (i : Nat) (e : Ev) (hi : l[i]? = some e) : recs (buildL l) i = e := by
  unfold recs
  rw [recA_drop, buildL_drop]
  have : l.drop i = e :: l.drop (i + 1) := by
    have hlt := (List.getElem?_eq_some_iff.1 hi).1
    rw [List.drop_eq_getElem_cons hlt]
    congr 1
    exact (List.getElem?_eq_some_iff.1 hi).2
  rw [this]
  exact recA_bytes e (h e (List.mem_of_getElem? hi)) _

/-- What is kept of a list. -/
def kpF (guests : Int) (K : List Ev) (e : Ev) : List Ev := if whyE guests K e = 0 then K ++ [e] else K
def kpt (guests : Int) (l : List Ev) : List Ev := l.foldl (kpF guests) []
theorem pst_kpt (guests : Int) (R : Nat → Ev) (n : Nat) : (pst guests R n).1 = kpt guests ((List.range n).map R) := by
  induction n with
  | zero => rfl
  | succ n ih =>
    unfold kpt at ih ⊢
    rw [List.range_succ, List.map_append, List.foldl_append, ← ih]
    show _ = kpF guests (pst guests R n).1 (R n)
    unfold kpF
    rw [pst]
    split <;> rfl
theorem map_recs (l : List Ev) (h : ∀ e ∈ l, e.ok) : (List.range l.length).map (recs (buildL l)) = l := by
  apply List.ext_getElem?
  intro i
  rw [List.getElem?_map]
  by_cases hi : i < l.length
  · rw [List.getElem?_range hi, List.getElem?_eq_getElem hi]
    simp only [Option.map_some]
    rw [recs_build l h i l[i] (List.getElem?_eq_getElem hi)]
  · rw [List.getElem?_eq_none (by simpa using hi), List.getElem?_eq_none (by omega)]; rfl
theorem parse_build (guests : Int) (l : List Ev) (h : ∀ e ∈ l, e.ok) : parse guests (buildL l) = pst guests (recs (buildL l)) l.length := by
  unfold parse
  rw [buildL_length, if_pos (by omega), show 10 * l.length / 10 = l.length from by omega]
theorem parse_build_kept (guests : Int) (l : List Ev) (h : ∀ e ∈ l, e.ok) : (parse guests (buildL l)).1 = kpt guests l := by
  rw [parse_build guests l h, pst_kpt, map_recs l h]

theorem great_filter (K : List Ev) (g : Nat) : great K g = great (K.filter fun e => e.g == g) g := by
  unfold great
  generalize 0 = n
  induction K generalizing n with
  | nil => rfl
  | cons e K ih =>
    rw [List.filter_cons]
    by_cases hg : e.g = g
    · rw [if_pos (by simpa using hg), List.foldl_cons, List.foldl_cons]
      exact ih _
    · rw [if_neg (by simpa using hg), List.foldl_cons, if_neg (fun q => hg q.1)]
      exact ih _
theorem why_filter (guests : Int) (K K' : List Ev) (e : Ev) (h : (K.filter fun x => x.g == e.g) = (K'.filter fun x => x.g == e.g)) : whyE guests K e = whyE guests K' e := by
  unfold whyE
  rw [great_filter K, h, ← great_filter K']
theorem kpt_filter (guests : Int) (g : Nat) (l : List Ev) : ∀ K K' : List Ev, (K.filter fun x => x.g == g) = K' → ((l.foldl (kpF guests) K).filter fun x => x.g == g) = (l.filter fun x => x.g == g).foldl (kpF guests) K' := by
  induction l with
  | nil => intro K K' h; exact h
  | cons e l ih =>
    intro K K' h
    rw [List.foldl_cons, List.filter_cons]
    by_cases hg : e.g = g
    · rw [if_pos (by simpa using hg), List.foldl_cons]
      apply ih
      have hw : whyE guests K e = whyE guests K' e := by
        apply why_filter
        rw [hg, ← h, List.filter_filter]
        congr 1
        funext x
        simp
      unfold kpF
      rw [hw]
      split
      · rw [List.filter_append, h]; simp [hg]
      · exact h
    · rw [if_neg (by simpa using hg)]
      apply ih
      unfold kpF
      split
      · rw [List.filter_append, h]; simp [hg]
      · exact h
theorem kpt_guest (guests : Int) (g : Nat) (l : List Ev) : ((kpt guests l).filter fun x => x.g == g) = kpt guests (l.filter fun x => x.g == g) := kpt_filter guests g l [] [] rfl

end Go.Proofs.Ytcfgagpjdhhddaa
