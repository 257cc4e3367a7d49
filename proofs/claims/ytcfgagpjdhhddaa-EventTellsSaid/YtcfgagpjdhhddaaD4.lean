/-
  Build; whether two lists are the same.
-/
import Derived.Test.YtcfgagpjdhhddaaD3
set_option linter.unusedSimpArgs false
set_option linter.unusedVariables false
set_option linter.unusedSectionVars false
namespace Go.Proofs.Ytcfgagpjdhhddaa
open Go Go.Mini Go.Proofs.Try

theorem row_sl {m : Nat} {h : Hp} {esz n : Nat} {cs : List Value} {v : Value} (hr : Row m h esz n cs v) : Sl h esz n cs v := by
  obtain ⟨h0, ⟨rfl, rfl⟩ | ⟨b, h1, h2, rfl, h3⟩⟩ := hr
  · exact ⟨h0, .inl ⟨_, _, rfl, rfl⟩⟩
  · exact ⟨h0, .inr ⟨_, _, _, rfl, h3, by simp [h0], fun j hj => by simp⟩⟩
theorem evsC_length (l : List Ev) : (evsC l).length = l.length * 4 := by
  induction l with
  | nil => rfl
  | cons e l ih =>
    have h1 : evsC (e :: l) = evC e ++ evsC l := rfl
    have h2 : (evC e).length = 4 := rfl
    rw [h1, List.length_append, ih, h2, List.length_cons]; omega
theorem evsC_at (l : List Ev) : ∀ (k : Nat) (e : Ev), l[k]? = some e → (evsC l)[k * 4]? = some (.int .u32 e.t) ∧ (evsC l)[k * 4 + 1]? = some (.int .u8 e.g) ∧ (evsC l)[k * 4 + 2]? = some (.int .u8 e.k) ∧ (evsC l)[k * 4 + 3]? = some (.int .u32 e.v) := by
  induction l with
  | nil => intro k e h; simp at h
  | cons x l ih =>
    intro k e h
    cases k with
    | zero => simp only [List.getElem?_cons_zero, Option.some.injEq] at h; subst h; exact ⟨rfl, rfl, rfl, rfl⟩
    | succ k =>
      have := ih k e (by simpa using h)
      rw [show (k + 1) * 4 = k * 4 + 1 + 1 + 1 + 1 from by omega]
      simpa [evsC, evC] using this
theorem extract4 {cs : Array Value} {o : Nat} {x y z u : Value} (hx : cs[o]? = some x) (hy : cs[o + 1]? = some y) (hz : cs[o + 2]? = some z) (hu : cs[o + 3]? = some u) : cs.extract o (o + 4) = #[x, y, z, u] := by
  obtain ⟨q1, q2⟩ := Array.getElem?_eq_some_iff.1 hu
  apply Array.ext'
  apply List.ext_getElem?
  intro i
  rw [Array.getElem?_toList, Array.getElem?_extract]
  by_cases h0 : i = 0
  · subst h0; rw [if_pos (by omega)]; simpa using hx
  · by_cases h1 : i = 1
    · subst h1; rw [if_pos (by omega)]; simpa using hy
    · by_cases h2 : i = 2
      · subst h2; rw [if_pos (by omega)]; simpa using hz
      · by_cases h3 : i = 3
        · subst h3; rw [if_pos (by omega)]; simpa using hu
        · rw [if_neg (by omega)]; symm; simp; omega
/-- An element of a slice of events. -/
theorem sl_ev {h : Hp} {l : List Ev} {v : Value} {k : Nat} {e : Ev} (hv : Sl h 4 l.length (evsC l) v) (hk : l[k]? = some e) :
    ∃ a c b, v = .slice (some a) l.length c ∧ h.blks a.block = some b ∧ a.off + k * 4 + 4 ≤ b.cells.size ∧ b.cells.extract (a.off + k * 4) (a.off + k * 4 + 4) = #[.int .u32 e.t, .int .u8 e.g, .int .u8 e.k, .int .u32 e.v] := by
  have hlt : k < l.length := (List.getElem?_eq_some_iff.1 hk).1
  obtain ⟨h0, ⟨_, _, _, h1⟩ | ⟨a, c, b, rfl, h2, h3, h4⟩⟩ := hv
  · omega
  · obtain ⟨c1, c2, c3, c4⟩ := evsC_at l k e hk
    exact ⟨a, c, b, rfl, h2, by omega, extract4 ((h4 _ (by omega)).trans c1) ((by have := h4 (k * 4 + 1) (by omega); rw [← Nat.add_assoc] at this; exact this.trans c2)) ((by have := h4 (k * 4 + 2) (by omega); rw [← Nat.add_assoc] at this; exact this.trans c3)) ((by have := h4 (k * 4 + 3) (by omega); rw [← Nat.add_assoc] at this; exact this.trans c4))⟩

def bytesE (e : Ev) : List UInt8 := Go.Proofs.Ytcfgagpjdhhddaa.putL [((e.t : Int), 4), ((e.g : Int), 1), ((e.k : Int), 1), ((e.v : Int), 4)]
def buildL (l : List Ev) : List UInt8 := l.flatMap bytesE
theorem bytesE_length (e : Ev) : (bytesE e).length = 10 := by simp [bytesE, Go.Proofs.Ytcfgagpjdhhddaa.putL, digs_length, wideF]
theorem buildL_length (l : List Ev) : (buildL l).length = 10 * l.length := by
  induction l with
  | nil => rfl
  | cons e l ih => simp only [buildL, List.flatMap_cons, List.length_append, bytesE_length, List.length_cons] at ih ⊢; omega
theorem buildL_snoc (l : List Ev) (e : Ev) : buildL (l ++ [e]) = buildL l ++ bytesE e := by simp [buildL]

theorem same_call {a b : List Ev} {va vb : Value} {h : Hp} {K : Value → Hp → Prop} (hn : a.length ≤ 2000000) (ha : Sl h 4 a.length (evsC a) va) (hb : Sl h 4 b.length (evsC b) vb) (hK : K (.bool (decide (a = b))) h) : ACall prog 13 [va, vb] h K := by
  refine acallF_of tb0 func13 rfl rfl mixed (by kernel_rfl) fun hwf => ?_
  obtain ⟨aa, ca, rfl⟩ := ha.slice
  obtain ⟨ab, cb, rfl⟩ := hb.slice
  by_cases hl : a.length = b.length
  · have hl' : (a.length : Int) = b.length := by omega
    simp -dsimp (disch := omega) [hl, hl']
    refine awp_loop (fun t h' => h' = h ∧ ∃ k : Nat, k ≤ a.length ∧ t 0 = .slice aa a.length ca ∧ t 1 = .slice ab b.length cb ∧ t 5 = .int .i64 k ∧ a.take k = b.take k) (fun t _ => a.length - ivN (t 5)) ?_ ?_
    · simp -dsimp (disch := omega) [hl]
      exact ⟨0, by omega, rfl, rfl⟩
    · rintro t _ ⟨rfl, k, hk, g0, g1, g5, htk⟩
      refine vcF_sound mixed (tb := tb0) _ (by kernel_rfl) ?_
      simp -dsimp (disch := omega) [g0, g1, g5]
      refine CondF_dec (fun hcc => ?_) (fun hcc => ?_)
      · obtain ⟨x, hx⟩ : ∃ x, a[k]? = some x := ⟨a[k]'(by omega), List.getElem?_eq_getElem _⟩
        obtain ⟨y, hy⟩ : ∃ y, b[k]? = some y := ⟨b[k]'(by omega), List.getElem?_eq_getElem _⟩
        obtain ⟨a1, c1, b1, e1, f1, s1, x1⟩ := sl_ev ha hx
        obtain ⟨a2, c2, b2, e2, f2, s2, x2⟩ := sl_ev hb hy
        cases e1
        cases e2
        by_cases hxy : x = y
        · subst hxy
          simp -dsimp (disch := omega) [g0, g1, g5, f1, f2, s1, s2, x1, x2]
          exact ⟨⟨k + 1, by omega, by simp, by rw [take_snoc hx, take_snoc hy, htk]⟩, by simp [ivN]; omega⟩
        · have hbool : (!decide ((x.t : Int) = y.t) || (!decide ((x.g : Int) = y.g) || (!decide ((x.k : Int) = y.k) || !decide ((x.v : Int) = y.v)))) = true := by
            have : ¬ (x.t = y.t ∧ x.g = y.g ∧ x.k = y.k ∧ x.v = y.v) := fun q => hxy (by cases x; cases y; simp at q; simp [q])
            simp
            omega
          have hne : a ≠ b := fun e => hxy (by rw [e, hy] at hx; exact (Option.some.inj hx).symm)
          rw [decide_eq_false hne] at hK
          simp -dsimp (disch := omega) [g0, g1, g5, f1, f2, s1, s2, x1, x2, hbool]
          exact RetF.same hwf (by simp) (Nat.zero_le _) (fun _ _ => rfl) hK
      · have hkl : k = a.length := by omega
        have heq : a = b := by rw [← List.take_length (l := a), ← hkl, htk, hkl, hl, List.take_length]
        rw [decide_eq_true heq] at hK
        simp -dsimp (disch := omega) [g0, g1, g5]
        exact RetF.same hwf (by simp) (Nat.zero_le _) (fun _ _ => rfl) hK
  · have hl' : ¬ (a.length : Int) = b.length := by omega
    have hne : a ≠ b := fun e => hl (by rw [e])
    rw [decide_eq_false hne] at hK
    simp -dsimp (disch := omega) [hl, hl']
    exact RetF.same hwf (by simp) (Nat.zero_le _) (fun _ _ => rfl) hK

theorem build_call {l : List Ev} {v : Value} {h : Hp} {K : Value → Hp → Prop} (hl : l.length ≤ 200000) (hok : ∀ e ∈ l, e.ok) (hv : Sl h 4 l.length (evsC l) v) (hK : K (.string (txt (buildL l))) h) : ACall prog 14 [v] h K := by
  refine acallF_of tb0 func14 rfl rfl mixed (by kernel_rfl) fun hwf => ?_
  have hvb := sblk_lt (hwf.args v (by simp))
  obtain ⟨va, vc, rfl⟩ := hv.slice
  simp -dsimp (disch := omega)
  refine awp_loop (fun t h' => Ext h h' ∧ ∃ k : Nat, k ≤ l.length ∧ t 5 = .slice va l.length vc ∧ t 6 = .int .i64 l.length ∧ t 7 = .int .i64 k ∧ t 2 = .string (txt (buildL (l.take k)))) (fun t _ => l.length - ivN (t 7)) ?_ ?_
  · simp -dsimp (disch := omega)
    exact ⟨Ext.refl h, 0, by omega, rfl, rfl⟩
  · rintro t h' ⟨he, k, hk, g5, g6, g7, g2⟩
    refine vcF_sound mixed (tb := tb0) _ (by kernel_rfl) ?_
    simp -dsimp (disch := omega) [g5, g6, g7, g2]
    refine CondF_dec (fun hcc => ?_) (fun hcc => ?_)
    · obtain ⟨e, hx⟩ : ∃ e, l[k]? = some e := ⟨l[k]'(by omega), List.getElem?_eq_getElem _⟩
      obtain ⟨o1, o2, o3, o4⟩ := hok e (List.mem_of_getElem? hx)
      obtain ⟨a1, c1, b1, e1, f1, s1, x1⟩ := sl_ev hv hx
      cases e1
      have hf : h'.blks a1.block = some b1 := by rw [he.same _ (hvb _ rfl)]; exact f1
      have hlen := buildL_length (l.take k)
      rw [List.length_take] at hlen
      simp -dsimp (disch := omega) [g5, g6, g7, g2, hf, s1, x1]
      refine put_call (l := [((e.t : Int), 4), ((e.g : Int), 1), ((e.k : Int), 1), ((e.v : Int), 4)]) ?_ (by simp) ?_ ?_
      · exact ⟨by simp [fldCells], .inr ⟨_, _, _, rfl, blks_alloc_eq _ _, by simp, fun j _ => by simp [fldCells]⟩⟩
      · intro f hf
        simp only [List.mem_cons, List.not_mem_nil, or_false] at hf
        rcases hf with rfl | rfl | rfl | rfl <;> simp only <;> omega
      have hbe : Go.Proofs.Ytcfgagpjdhhddaa.putL [((e.t : Int), 4), ((e.g : Int), 1), ((e.k : Int), 1), ((e.v : Int), 4)] = bytesE e := rfl
      have hb10 := bytesE_length e
      rw [hbe]
      simp -dsimp (disch := first | omega | (simp; omega)) [g5, g6, g7, g2, hf, s1, x1]
      exact ⟨⟨(he.then_alloc _).then_alloc _, k + 1, by omega, by simp, by rw [take_snoc hx, buildL_snoc]⟩, by simp [ivN]; omega⟩
    · have hkl : k = l.length := by omega
      subst hkl
      rw [List.take_length] at g2
      simp -dsimp (disch := omega) [g5, g6, g7, g2]
      exact RetF.same hwf (by simp) (Nat.zero_le _) he.same hK

end Go.Proofs.Ytcfgagpjdhhddaa
