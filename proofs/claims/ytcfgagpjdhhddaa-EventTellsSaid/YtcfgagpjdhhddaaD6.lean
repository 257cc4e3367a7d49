/-
  The document's records.
-/
import Derived.Test.YtcfgagpjdhhddaaD5
set_option linter.unusedSimpArgs false
set_option linter.unusedVariables false
set_option linter.unusedSectionVars false
namespace Go.Proofs.Ytcfgagpjdhhddaa
open Go Go.Mini Go.Proofs.Try

theorem sl_ev2 {h : Hp} {l : List Ev} {v : Value} {k : Nat} {e : Ev} (hv : Sl h 4 l.length (evsC l) v) (hk : l[k]? = some e) :
    ∃ a c b, v = .slice (some a) l.length c ∧ h.blks a.block = some b ∧ a.off + k * 4 + 4 ≤ b.cells.size ∧ b.cells.extract (a.off + k * 4) (a.off + k * 4 + 4) = #[.int .u32 e.t, .int .u8 e.g, .int .u8 e.k, .int .u32 e.v] ∧ b.cells[a.off + k * 4]? = some (.int .u32 e.t) ∧ b.cells[a.off + k * 4 + 1]? = some (.int .u8 e.g) := by
  obtain ⟨a, c, b, e1, e2, e3, e4⟩ := sl_ev hv hk
  have h0 : ∀ j, j < 4 → b.cells[a.off + k * 4 + j]? = (#[.int .u32 e.t, .int .u8 e.g, .int .u8 e.k, .int .u32 e.v] : Array Value)[j]? := fun j hj => by
    rw [← e4, Array.getElem?_extract, if_pos (by omega)]
  exact ⟨a, c, b, e1, e2, e3, e4, h0 0 (by omega), h0 1 (by omega)⟩
theorem refMay_call {e : Ev} {h : Hp} {K : Value → Hp → Prop} (he : e.ok) (hK : K (.bool (mayE e)) h) : ACall prog 39 [.agg (evA e)] h K := by
  obtain ⟨t, g, k, v⟩ := e
  obtain ⟨h1, h2, h3, h4⟩ := he
  simp only at h1 h2 h3 h4
  unfold evA at *
  refine acallF_of tb0 func39 rfl rfl mixed (by kernel_rfl) fun hwf => ?_
  unfold mayE at hK
  simp only at hK
  by_cases k1 : k = 1
  · subst k1
    simp -dsimp (disch := omega)
    refine RetF.same hwf ?_ (Nat.zero_le _) (fun i hi => by simp (disch := omega)) hK
    simp
    try omega
  · have n1 : ¬ ((k : Nat) : Int) = 1 := by omega
    by_cases k2 : k = 2
    · subst k2
      by_cases hv : 8 ≤ v
      · have hv' : (8 : Int) ≤ v := by omega
        simp -dsimp (disch := omega) [hv, hv']
        refine RetF.same hwf ?_ (Nat.zero_le _) (fun i hi => by simp (disch := omega)) hK
        simp [hv]
        try omega
      · have hv' : ¬ (8 : Int) ≤ v := by omega
        simp -dsimp (disch := omega) [hv, hv']
        refine RetF.same hwf ?_ (Nat.zero_le _) (fun i hi => by simp (disch := omega)) hK
        simp [hv]
    · have n2 : ¬ ((k : Nat) : Int) = 2 := by omega
      by_cases k3 : k = 3
      · subst k3
        simp -dsimp (disch := omega)
        refine RetF.same hwf ?_ (Nat.zero_le _) (fun i hi => by simp (disch := omega)) hK
        simp
        try omega
      · have n3 : ¬ ((k : Nat) : Int) = 3 := by omega
        simp -dsimp (disch := omega) [n1, n2, n3]
        exact RetF.same hwf (by simp [k1, k2, k3]) (Nat.zero_le _) (fun i hi => by simp (disch := omega)) hK

theorem greatest_call {l : List Ev} {v : Value} {g : Nat} {h : Hp} {K : Value → Hp → Prop} (hn : l.length ≤ 2000000) (hok : ∀ e ∈ l, e.ok) (hv : Sl h 4 l.length (evsC l) v) (hK : K (.int .u32 (great l g)) h) : ACall prog 40 [v, .int .u8 g] h K := by
  refine acallF_of tb0 func40 rfl rfl mixed (by kernel_rfl) fun hwf => ?_
  obtain ⟨va, vc, rfl⟩ := hv.slice
  simp -dsimp (disch := omega)
  refine awp_loop (fun t h' => h' = h ∧ ∃ k : Nat, k ≤ l.length ∧ t 0 = .slice va l.length vc ∧ t 1 = .int .u8 g ∧ t 6 = .int .i64 k ∧ t 5 = .int .u32 (great (l.take k) g)) (fun t _ => l.length - ivN (t 6)) ?_ ?_
  · simp -dsimp (disch := omega)
    exact ⟨0, by omega, rfl, rfl⟩
  · rintro t _ ⟨rfl, k, hk, g0, g1, g6, g5⟩
    refine vcF_sound mixed (tb := tb0) _ (by kernel_rfl) ?_
    simp -dsimp (disch := omega) [g0, g1, g6, g5]
    refine CondF_dec (fun hcc => ?_) (fun hcc => ?_)
    · obtain ⟨e, hx⟩ : ∃ e, l[k]? = some e := ⟨l[k]'(by omega), List.getElem?_eq_getElem _⟩
      obtain ⟨o1, o2, o3, o4⟩ := hok e (List.mem_of_getElem? hx)
      obtain ⟨a, c, b, e1, f1, s1, x1, y1, y2⟩ := sl_ev2 hv hx
      cases e1
      have hs : great (l.take (k + 1)) g = if e.g = g ∧ great (l.take k) g < e.t then e.t else great (l.take k) g := by rw [take_snoc hx, great_snoc]
      clear s1 x1
      by_cases hg : e.g = g
      · have hg' : ((e.g : Nat) : Int) = g := by omega
        by_cases ht : great (l.take k) g < e.t
        · have ht' : ((great (l.take k) g : Nat) : Int) < e.t := by omega
          rw [if_pos ⟨hg, ht⟩] at hs
          simp -dsimp (disch := omega) [g0, g1, g6, g5, f1, y1, y2, hg, hg', ht, ht']
          exact ⟨⟨k + 1, by omega, by simp, by rw [hs]⟩, by simp [ivN]; omega⟩
        · have ht' : ¬ ((great (l.take k) g : Nat) : Int) < e.t := by omega
          rw [if_neg (fun q => ht q.2)] at hs
          simp -dsimp (disch := omega) [g0, g1, g6, g5, f1, y1, y2, hg, hg', ht, ht']
          exact ⟨⟨k + 1, by omega, by simp, by rw [hs]⟩, by simp [ivN]; omega⟩
      · have hg' : ¬ ((e.g : Nat) : Int) = g := by omega
        rw [if_neg (fun q => hg q.1)] at hs
        simp -dsimp (disch := omega) [g0, g1, g6, g5, f1, y1, y2, hg, hg']
        exact ⟨⟨k + 1, by omega, by simp, by rw [hs]⟩, by simp [ivN]; omega⟩
    · have hkl : k = l.length := by omega
      subst hkl
      rw [List.take_length] at g5
      simp -dsimp (disch := omega) [g0, g1, g6, g5]
      exact RetF.same hwf (by simp [g5]) (Nat.zero_le _) (fun _ _ => rfl) hK

end Go.Proofs.Ytcfgagpjdhhddaa
