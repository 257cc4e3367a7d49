/-
  Channels: their numbers, both. A channel's ends, both. The channels' Check. The document's Check of channels.
-/
import Derived.Test.YtmnemfeofhinaaaDoorNA
import Derived.Test.YtmnemfeofhinaaaDoorM33
import Derived.Test.YtmnemfeofhinaaaDoorM34
set_option linter.unusedSimpArgs false
set_option linter.unusedVariables false
set_option linter.unusedSectionVars false

namespace Go.Proofs.YtmnemfeofhinaaaDoor
open Go Go.Mini Go.Proofs.Tryd
set_option maxRecDepth 100000

/-- A channel: kind, source, destinations, most, depth, validity. -/
structure Ch where
  k : Nat
  g : Nat
  p : Nat
  to : List (Nat × Nat)
  m : Nat
  d : Nat
  v : Nat
def Ch.ok (c : Ch) : Prop := c.k < 256 ∧ c.g < 256 ∧ c.p < 256 ∧ c.m < 256 ∧ c.d < 256 ∧ c.v < 4294967296 ∧ (∀ e ∈ c.to, e.1 < 256 ∧ e.2 < 256) ∧ c.to.length < 9223372036854775808
def chC (c : Ch) (vt : Value) : List Value := [.int .u8 c.k, .int .u8 c.g, .int .u8 c.p, vt, .int .u8 c.m, .int .u8 c.d, .int .u32 c.v]
def endC (e : Nat × Nat) : List Value := [.int .u8 e.1, .int .u8 e.2]
def endsC (l : List (Nat × Nat)) : List Value := l.flatMap endC
theorem endC_len (e : Nat × Nat) : (endC e).length = 2 := rfl
theorem endsC_len (l : List (Nat × Nat)) : (endsC l).length = 2 * l.length := by
  induction l with
  | nil => rfl
  | cons w l ih => rw [endsC, List.flatMap_cons, List.length_append, ← endsC, ih, endC_len, List.length_cons]; omega
/-- Destinations, as a slice, or as one that holds nothing and lies nowhere. -/
def ToV (h : Hp) (l : List (Nat × Nat)) (v : Value) : Prop := Sl h 2 l.length (endsC l) v ∨ (l = [] ∧ ∃ k a b, v = .complex k a b)
theorem ToV.len {h : Hp} {l : List (Nat × Nat)} {v : Value} (t : ToV h l v) : alen .slice v = some (.int .i64 l.length) ∧ v.oneCell' = true := by
  rcases t with t | ⟨rfl, k, a, b, rfl⟩
  · obtain ⟨a, c, rfl⟩ := t.slice
    exact ⟨rfl, rfl⟩
  · exact ⟨rfl, rfl⟩
theorem ToV.mono {h h' : Hp} {l : List (Nat × Nat)} {v : Value} (t : ToV h l v) (hs : ∀ b, sblk v = some b → h'.blks b = h.blks b) : ToV h' l v := t.elim (fun t => .inl (t.mono hs)) .inr
theorem ToV.sl {h : Hp} {l : List (Nat × Nat)} {v : Value} (t : ToV h l v) (hl : 0 < l.length) : Sl h 2 l.length (endsC l) v := by
  rcases t with t | ⟨rfl, _⟩
  · exact t
  · simp at hl

def shapeB (c : Ch) : Bool :=
  if c.m = 0 ∨ 64 < c.m then false
  else if c.k = 0 then decide (1 ≤ c.to.length ∧ c.to.length ≤ 4 ∧ c.d = 0)
  else if c.k = 1 then decide (c.to.length = 1 ∧ 1 ≤ c.d ∧ c.d ≤ 16 ∧ c.v = 0) else false
theorem shapeB_len {c : Ch} (h : shapeB c = true) : 1 ≤ c.to.length ∧ c.to.length ≤ 4 := by
  unfold shapeB at h
  split at h
  · cases h
  · split at h
    · have := of_decide_eq_true h; omega
    · split at h
      · have := of_decide_eq_true h; omega
      · cases h

section
variable {h : Hp} {K : Value → Hp → Prop}
set_option maxHeartbeats 1000000 in
theorem shape_call {c : Ch} {vt : Value} (hto : ToV h c.to vt) (hK : K (.bool (shapeB c)) h) : ACall prog 82 [.agg (chC c vt).toArray] h K := by
  refine acallF_of tb0 func82 rfl rfl mixed (by kernel_rfl) fun hwf => ?_
  obtain ⟨hlen, hone⟩ := hto.len
  obtain ⟨k, g, p, to, m, d, v⟩ := c
  unfold chC
  unfold shapeB at hK
  simp only at hlen hK ⊢
  obtain ⟨n, hn⟩ : ∃ n, n = to.length := ⟨_, rfl⟩
  rw [← hn] at hlen hK
  clear hto hn
  by_cases c1 : m = 0
  · rw [if_pos (.inl c1)] at hK
    simp -dsimp (disch := omega) [c1, hone]
    exact RetF.same hwf (by simp) (Nat.zero_le _) (fun i hi => by simp [Hp.blks_alloc, Nat.ne_of_lt hi]) hK
  by_cases c2 : 64 < m
  · rw [if_pos (.inr c2)] at hK
    have c2' : (64 : Int) < m := by omega
    simp -dsimp (disch := omega) [c1, c2, c2', hone]
    exact RetF.same hwf (by simp) (Nat.zero_le _) (fun i hi => by simp [Hp.blks_alloc, Nat.ne_of_lt hi]) hK
  have c2' : ¬ (64 : Int) < m := by omega
  rw [if_neg (by omega)] at hK
  by_cases c3 : k = 0
  · rw [if_pos c3] at hK
    by_cases c4 : 1 ≤ n
    · have c4' : (1 : Int) ≤ n := by omega
      by_cases c5 : n ≤ 4
      · have c5' : (n : Int) ≤ 4 := by omega
        by_cases c6 : d = 0
        · rw [decide_eq_true ⟨c4, c5, c6⟩] at hK
          simp -dsimp (disch := omega) [c1, c2, c2', c3, c4, c4', c5, c5', c6, hone, hlen]
          exact RetF.same hwf (by simp) (Nat.zero_le _) (fun i hi => by simp [Hp.blks_alloc, Nat.ne_of_lt hi]) hK
        · rw [decide_eq_false (fun q => c6 q.2.2)] at hK
          simp -dsimp (disch := omega) [c1, c2, c2', c3, c4, c4', c5, c5', c6, hone, hlen]
          exact RetF.same hwf (by simp) (Nat.zero_le _) (fun i hi => by simp [Hp.blks_alloc, Nat.ne_of_lt hi]) hK
      · have c5' : ¬ (n : Int) ≤ 4 := by omega
        rw [decide_eq_false (fun q => c5 q.2.1)] at hK
        simp -dsimp (disch := omega) [c1, c2, c2', c3, c4, c4', c5, c5', hone, hlen]
        exact RetF.same hwf (by simp) (Nat.zero_le _) (fun i hi => by simp [Hp.blks_alloc, Nat.ne_of_lt hi]) hK
    · have c4' : ¬ (1 : Int) ≤ n := by omega
      rw [decide_eq_false (fun q => c4 q.1)] at hK
      simp -dsimp (disch := omega) [c1, c2, c2', c3, c4, c4', hone, hlen]
      exact RetF.same hwf (by simp) (Nat.zero_le _) (fun i hi => by simp [Hp.blks_alloc, Nat.ne_of_lt hi]) hK
  rw [if_neg c3] at hK
  by_cases c3b : k = 1
  · rw [if_pos c3b] at hK
    have c3b' : (k : Int) = 1 := by omega
    by_cases c4 : n = 1
    · have c4' : (n : Int) = 1 := by omega
      by_cases c5 : 1 ≤ d
      · have c5' : (1 : Int) ≤ d := by omega
        by_cases c6 : d ≤ 16
        · have c6' : (d : Int) ≤ 16 := by omega
          by_cases c7 : v = 0
          · rw [decide_eq_true ⟨c4, c5, c6, c7⟩] at hK
            simp -dsimp (disch := omega) [c1, c2, c2', c3b, c4, c4', c5, c5', c6, c6', c7, hone, hlen]
            exact RetF.same hwf (by simp) (Nat.zero_le _) (fun i hi => by simp [Hp.blks_alloc, Nat.ne_of_lt hi]) hK
          · rw [decide_eq_false (fun q => c7 q.2.2.2)] at hK
            simp -dsimp (disch := omega) [c1, c2, c2', c3b, c4, c4', c5, c5', c6, c6', c7, hone, hlen]
            exact RetF.same hwf (by simp) (Nat.zero_le _) (fun i hi => by simp [Hp.blks_alloc, Nat.ne_of_lt hi]) hK
        · have c6' : ¬ (d : Int) ≤ 16 := by omega
          rw [decide_eq_false (fun q => c6 q.2.2.1)] at hK
          simp -dsimp (disch := omega) [c1, c2, c2', c3b, c4, c4', c5, c5', c6, c6', hone, hlen]
          exact RetF.same hwf (by simp) (Nat.zero_le _) (fun i hi => by simp [Hp.blks_alloc, Nat.ne_of_lt hi]) hK
      · have c5' : ¬ (1 : Int) ≤ d := by omega
        rw [decide_eq_false (fun q => c5 q.2.1)] at hK
        simp -dsimp (disch := omega) [c1, c2, c2', c3b, c4, c4', c5, c5', hone, hlen]
        exact RetF.same hwf (by simp) (Nat.zero_le _) (fun i hi => by simp [Hp.blks_alloc, Nat.ne_of_lt hi]) hK
    · have c4' : ¬ (n : Int) = 1 := by omega
      rw [decide_eq_false (fun q => c4 q.1)] at hK
      simp -dsimp (disch := omega) [c1, c2, c2', c3b, c4, c4', hone, hlen]
      exact RetF.same hwf (by simp) (Nat.zero_le _) (fun i hi => by simp [Hp.blks_alloc, Nat.ne_of_lt hi]) hK
  · rw [if_neg c3b] at hK
    have c3b' : ¬ (k : Int) = 1 := by omega
    simp -dsimp (disch := omega) [c1, c2, c2', c3, c3b, c3b', hone, hlen]
    exact RetF.same hwf (by simp) (Nat.zero_le _) (fun i hi => by simp [Hp.blks_alloc, Nat.ne_of_lt hi]) hK
set_option maxHeartbeats 1000000 in
theorem refShape_call {c : Ch} {vt : Value} (hto : ToV h c.to vt) (hK : K (.bool (shapeB c)) h) : ACall prog 74 [.agg (chC c vt).toArray] h K := by
  refine acallF_of tb0 func74 rfl rfl mixed (by kernel_rfl) fun hwf => ?_
  obtain ⟨hlen, hone⟩ := hto.len
  obtain ⟨k, g, p, to, m, d, v⟩ := c
  unfold chC
  unfold shapeB at hK
  simp only at hlen hK ⊢
  obtain ⟨n, hn⟩ : ∃ n, n = to.length := ⟨_, rfl⟩
  rw [← hn] at hlen hK
  clear hto hn
  by_cases c1 : m = 0
  · rw [if_pos (.inl c1)] at hK
    simp -dsimp (disch := omega) [c1, hone]
    exact RetF.same hwf (by simp) (Nat.zero_le _) (fun i hi => by simp [Hp.blks_alloc, Nat.ne_of_lt hi]) hK
  have c1' : ¬ (m : Int) < 1 := by omega
  by_cases c2 : 64 < m
  · rw [if_pos (.inr c2)] at hK
    have c2' : (64 : Int) < m := by omega
    simp -dsimp (disch := omega) [c1, c1', c2, c2', hone]
    exact RetF.same hwf (by simp) (Nat.zero_le _) (fun i hi => by simp [Hp.blks_alloc, Nat.ne_of_lt hi]) hK
  have c2' : ¬ (64 : Int) < m := by omega
  rw [if_neg (by omega)] at hK
  by_cases c3 : k = 0
  · rw [if_pos c3] at hK
    by_cases c6 : d = 0
    · by_cases c4 : 1 ≤ n
      · have c4' : (1 : Int) ≤ n := by omega
        by_cases c5 : n ≤ 4
        · have c5' : (n : Int) ≤ 4 := by omega
          rw [decide_eq_true ⟨c4, c5, c6⟩] at hK
          simp -dsimp (disch := omega) [c1, c1', c2, c2', c3, c4, c4', c5, c5', c6, hone, hlen]
          exact RetF.same hwf (by simp) (Nat.zero_le _) (fun i hi => by simp [Hp.blks_alloc, Nat.ne_of_lt hi]) hK
        · have c5' : ¬ (n : Int) ≤ 4 := by omega
          rw [decide_eq_false (fun q => c5 q.2.1)] at hK
          simp -dsimp (disch := omega) [c1, c1', c2, c2', c3, c4, c4', c5, c5', c6, hone, hlen]
          exact RetF.same hwf (by simp) (Nat.zero_le _) (fun i hi => by simp [Hp.blks_alloc, Nat.ne_of_lt hi]) hK
      · have c4' : ¬ (1 : Int) ≤ n := by omega
        rw [decide_eq_false (fun q => c4 q.1)] at hK
        simp -dsimp (disch := omega) [c1, c1', c2, c2', c3, c4, c4', c6, hone, hlen]
        exact RetF.same hwf (by simp) (Nat.zero_le _) (fun i hi => by simp [Hp.blks_alloc, Nat.ne_of_lt hi]) hK
    · rw [decide_eq_false (fun q => c6 q.2.2)] at hK
      simp -dsimp (disch := omega) [c1, c1', c2, c2', c3, c6, hone, hlen]
      exact RetF.same hwf (by simp) (Nat.zero_le _) (fun i hi => by simp [Hp.blks_alloc, Nat.ne_of_lt hi]) hK
  rw [if_neg c3] at hK
  by_cases c3b : k = 1
  · rw [if_pos c3b] at hK
    have c3b' : (k : Int) = 1 := by omega
    by_cases c5 : 1 ≤ d
    · have c5' : (1 : Int) ≤ d := by omega
      by_cases c6 : d ≤ 16
      · have c6' : (d : Int) ≤ 16 := by omega
        by_cases c4 : n = 1
        · have c4' : (n : Int) = 1 := by omega
          by_cases c7 : v = 0
          · rw [decide_eq_true ⟨c4, c5, c6, c7⟩] at hK
            simp -dsimp (disch := omega) [c1, c1', c2, c2', c3b, c4, c4', c5, c5', c6, c6', c7, hone, hlen]
            exact RetF.same hwf (by simp) (Nat.zero_le _) (fun i hi => by simp [Hp.blks_alloc, Nat.ne_of_lt hi]) hK
          · rw [decide_eq_false (fun q => c7 q.2.2.2)] at hK
            simp -dsimp (disch := omega) [c1, c1', c2, c2', c3b, c4, c4', c5, c5', c6, c6', c7, hone, hlen]
            exact RetF.same hwf (by simp) (Nat.zero_le _) (fun i hi => by simp [Hp.blks_alloc, Nat.ne_of_lt hi]) hK
        · have c4' : ¬ (n : Int) = 1 := by omega
          rw [decide_eq_false (fun q => c4 q.1)] at hK
          simp -dsimp (disch := omega) [c1, c1', c2, c2', c3b, c4, c4', c5, c5', c6, c6', hone, hlen]
          exact RetF.same hwf (by simp) (Nat.zero_le _) (fun i hi => by simp [Hp.blks_alloc, Nat.ne_of_lt hi]) hK
      · have c6' : ¬ (d : Int) ≤ 16 := by omega
        rw [decide_eq_false (fun q => c6 q.2.2.1)] at hK
        simp -dsimp (disch := omega) [c1, c1', c2, c2', c3b, c5, c5', c6, c6', hone, hlen]
        exact RetF.same hwf (by simp) (Nat.zero_le _) (fun i hi => by simp [Hp.blks_alloc, Nat.ne_of_lt hi]) hK
    · have c5' : ¬ (1 : Int) ≤ d := by omega
      rw [decide_eq_false (fun q => c5 q.2.1)] at hK
      simp -dsimp (disch := omega) [c1, c1', c2, c2', c3b, c5, c5', hone, hlen]
      exact RetF.same hwf (by simp) (Nat.zero_le _) (fun i hi => by simp [Hp.blks_alloc, Nat.ne_of_lt hi]) hK
  · rw [if_neg c3b] at hK
    have c3b' : ¬ (k : Int) = 1 := by omega
    simp -dsimp (disch := omega) [c1, c1', c2, c2', c3, c3b, c3b', hone, hlen]
    exact RetF.same hwf (by simp) (Nat.zero_le _) (fun i hi => by simp [Hp.blks_alloc, Nat.ne_of_lt hi]) hK
end
end Go.Proofs.YtmnemfeofhinaaaDoor
namespace Go.Proofs.YtmnemfeofhinaaaDoor
open Go Go.Mini Go.Proofs.Tryd
set_option maxRecDepth 100000

theorem row_src {m : Nat} {h : Hp} {esz n : Nat} {cs : List Value} {v : Value} (hr : Row m h esz n cs v) : srcCells h esz v = some (n, cs.toArray) := by
  obtain ⟨h0, ⟨rfl, rfl⟩ | ⟨b, h1, h2, rfl, h3⟩⟩ := hr
  · have : cs = [] := List.length_eq_zero_iff.1 (by simpa using h0)
    subst this
    rfl
  · apply src_slice
    unfold Mini.rowAt
    rw [h3]
    simp [← h0]
theorem sl_src {h : Hp} {esz n : Nat} {cs : List Value} {v : Value} (hv : Sl h esz n cs v) : ∃ new : Array Value, srcCells h esz v = some (n, new) ∧ new.toList = cs := by
  obtain ⟨h0, ⟨_, _, rfl, rfl⟩ | ⟨a, c, b, rfl, h2, h3, h4⟩⟩ := hv
  · have : cs = [] := List.length_eq_zero_iff.1 (by simpa using h0)
    subst this
    exact ⟨#[], src_zero _ _ _ _, rfl⟩
  · refine ⟨b.cells.extract a.off (a.off + n * esz), ?_, ?_⟩
    · apply src_slice
      unfold Mini.rowAt
      rw [h2]
      simp only
      rw [if_pos h3]
    · apply List.ext_getElem?
      intro i
      rw [Array.getElem?_toList, Array.getElem?_extract]
      by_cases hi : i < n * esz
      · rw [if_pos (by omega)]; exact h4 i hi
      · rw [if_neg (by omega)]; symm; simp; omega

def endsL (c : Ch) : List (Nat × Nat) := (c.g, c.p) :: c.to
theorem endsL_C (c : Ch) : endsC (endsL c) = [.int .u8 c.g, .int .u8 c.p] ++ endsC c.to := rfl
theorem endsL_len (c : Ch) : (endsL c).length = c.to.length + 1 := rfl

section
variable {h : Hp} {K : Value → Hp → Prop}
set_option maxHeartbeats 1000000 in
theorem ends_call {c : Ch} {vt : Value} (hv : Sl h 2 c.to.length (endsC c.to) vt) (h1 : 1 ≤ c.to.length ∧ c.to.length ≤ 4) (hK : ∀ v' h', Ext h h' → Row h.next h' 2 (endsL c).length (endsC (endsL c)) v' → K v' h') : ACall prog 83 [.agg (chC c vt).toArray] h K := by
  refine acallF_of tb0 func83 rfl rfl mixed (by kernel_rfl) fun hwf => ?_
  have hvb := sblk_lt (Nat.le_trans (show vtop vt ≤ vtop (.agg (chC c vt).toArray) by simp [chC, vtop, vtopL]) (hwf.args _ (List.mem_cons_self ..)))
  obtain ⟨va, vc, rfl⟩ := hv.slice
  rw [endsL_len, endsL_C] at hK
  unfold chC
  obtain ⟨k, g, p, to, m, d, v⟩ := c
  simp only at hv h1 hK hvb ⊢
  obtain ⟨n, hn⟩ : ∃ n, n = to.length := ⟨_, rfl⟩
  rw [← hn] at hv h1 hK hvb ⊢
  simp -dsimp (disch := omega)
  have hv2 : Sl ((h.alloc ⟨#[.int .u8 k, .int .u8 g, .int .u8 p, .slice va n vc, .int .u8 m, .int .u8 d, .int .u32 v], 1, true⟩).alloc ⟨#[.int .u8 g, .int .u8 p], 2, true⟩) 2 n (endsC to) (.slice va n vc) := hv.mono fun b hb => by have := hvb b hb; rw [blks_alloc_ne _ _ _ (by simp; omega), blks_alloc_ne _ _ _ (by omega)]
  obtain ⟨new, x1, x2⟩ := sl_src hv2
  have x3 : new.size = n * 2 := by have := congrArg List.length x2; rw [Array.length_toList, endsC_len] at this; omega
  refine app_new (b0 := h.next + 1) (n := 1) (m := h.next) (cs := #[.int .u8 g, .int .u8 p]) (e0 := 2) (ow := true) (by simp (disch := omega)) rfl (by simp; omega) x1 (by omega) x3 (by unfold ROOM; omega) fun v' h' r1 r2 r3 r4 => ?_
  rw [x2, Nat.add_comm 1 n] at r1
  simp -dsimp (disch := omega)
  exact RetF.all (by simp) (hK _ _ ⟨by rw [r2]; simp; omega, fun i hi => by rw [r4 i (by simp; omega)]; simp (disch := omega)⟩ r1)
set_option maxHeartbeats 1000000 in
theorem refEnds_call {c : Ch} {vt : Value} (hv : Sl h 2 c.to.length (endsC c.to) vt) (h1 : 1 ≤ c.to.length ∧ c.to.length ≤ 4) (hK : ∀ v' h', Ext h h' → Row h.next h' 2 (endsL c).length (endsC (endsL c)) v' → K v' h') : ACall prog 75 [.agg (chC c vt).toArray] h K := by
  refine acallF_of tb0 func75 rfl rfl mixed (by kernel_rfl) fun hwf => ?_
  have hvb := sblk_lt (Nat.le_trans (show vtop vt ≤ vtop (.agg (chC c vt).toArray) by simp [chC, vtop, vtopL]) (hwf.args _ (List.mem_cons_self ..)))
  obtain ⟨va, vc, rfl⟩ := hv.slice
  rw [endsL_len, endsL_C] at hK
  unfold chC
  obtain ⟨k, g, p, to, m, d, v⟩ := c
  simp only at hv h1 hK hvb ⊢
  obtain ⟨n, hn⟩ : ∃ n, n = to.length := ⟨_, rfl⟩
  rw [← hn] at hv h1 hK hvb ⊢
  simp -dsimp (disch := omega)
  refine app_row (Row.nil h.next _ 2) (by simp; omega) (src_slice _ 2 1 2 ⟨h.next + 1, 0, none⟩ #[.int .u8 g, .int .u8 p] (by simp (disch := omega))) (by omega) rfl (by unfold ROOM; omega) fun v1 h1' r1 r2 r3 r4 => ?_
  have r2' : h1'.next = h.next + 3 := by rw [r2]; simp
  have b0 : h1'.blks h.next = some ⟨#[.int .u8 k, .int .u8 g, .int .u8 p, .slice va n vc, .int .u8 m, .int .u8 d, .int .u32 v], 1, true⟩ := by rw [r4 _ (by simp; omega) (by simp [sblk])]; simp (disch := omega)
  have e1 : Ext h h1' := ⟨by omega, fun i hi => by rw [r4 i (by simp; omega) (by simp [sblk])]; simp (disch := omega)⟩
  obtain ⟨a1, c1, rfl⟩ := r1.slice
  simp -dsimp (disch := omega) [b0]
  have hv2 : Sl h1' 2 n (endsC to) (.slice va n vc) := hv.mono fun b hb => e1.same _ (hvb b hb)
  obtain ⟨new, x1, x2⟩ := sl_src hv2
  have x3 : new.size = n * 2 := by have := congrArg List.length x2; rw [Array.length_toList, endsC_len] at this; omega
  refine app_row r1 (by omega) x1 (by omega) x3 (by unfold ROOM; omega) fun v2 h2 s1 s2 s3 s4 => ?_
  rw [x2, show 0 + 1 + n = n + 1 from by omega] at s1
  simp -dsimp (disch := omega)
  exact RetF.all (by simp) (hK _ _ ⟨by omega, fun i hi => by rw [s4 i (by omega) (fun e => by have := (r1.blk _ e).1; omega), e1.same i hi]⟩ s1)
end
end Go.Proofs.YtmnemfeofhinaaaDoor
namespace Go.Proofs.YtmnemfeofhinaaaDoor
open Go Go.Mini Go.Proofs.Tryd
set_option maxRecDepth 100000

theorem pmP : PairMap prog 153 66 3 := by
  refine ⟨by kernel_rfl, by kernel_rfl, fun e k => ?_, fun k k' => ?_, by kernel_rfl⟩
  · cases e <;> kernel_rfl
  · have := eqA_equal (P := prog) (ty := 66) (xs := #[.int .u8 k.1, .int .u8 k.2]) (ys := #[.int .u8 k'.1, .int .u8 k'.2]) (b := decide (k = k')) (by
      obtain ⟨a, b⟩ := k
      obtain ⟨a', b'⟩ := k'
      simp [Prod.mk.injEq])
    exact this.2.2.2

def keyI (e : Nat × Nat) : Int × Int := ((e.1 : Int), (e.2 : Int))
theorem mem_keyI {e : Nat × Nat} {l : List (Nat × Nat)} : keyI e ∈ l.map keyI ↔ e ∈ l := by
  constructor
  · intro h
    obtain ⟨x, h1, h2⟩ := List.mem_map.1 h
    obtain ⟨a, b⟩ := x
    obtain ⟨a', b'⟩ := e
    simp only [keyI, Prod.mk.injEq] at h2
    obtain ⟨h3, h4⟩ := h2
    have e1 : a = a' := by omega
    have e2 : b = b' := by omega
    rw [← e1, ← e2]; exact h1
  · exact fun h => List.mem_map.2 ⟨e, h, rfl⟩
/-- What has been met, as the map has it. -/
def MJ (met : List (Nat × Nat)) (j : Option Code) : Prop := j = some (encE (entK 0 (met.map keyI)) (met.map keyI).length)

/-! ### Check, by definition -/
def badE (gs : Nat) (e : Nat × Nat) : Bool := decide (gs ≤ e.1 ∨ 16 ≤ e.2)
def addE : List (Nat × Nat) → List (Nat × Nat) → Option (List (Nat × Nat))
  | [], met => some met
  | x :: l, met => if x ∈ met then none else addE l (met ++ [x])
def runC (gs : Nat) : List Ch → List (Nat × Nat) → Nat
  | [], _ => 0
  | c :: l, met => if shapeB c = false then 3 else if (endsL c).any (badE gs) = true then 6 else match addE (endsL c) met with
    | none => 12
    | some met => runC gs l met
def checkC (l : List Ch) (gs : Int) : Nat := if gs < 1 ∨ 16 < gs then 2 else if 16 < l.length then 5 else runC gs.toNat l []
theorem runC_step {gs : Nat} {l : List Ch} {k : Nat} {met : List (Nat × Nat)} {c : Ch} (hx : l[k]? = some c) : runC gs (l.drop k) met = if shapeB c = false then 3 else if (endsL c).any (badE gs) = true then 6 else match addE (endsL c) met with
    | none => 12
    | some met => runC gs (l.drop (k + 1)) met := by
  obtain ⟨h1, h2⟩ := List.getElem?_eq_some_iff.1 hx
  rw [List.drop_eq_getElem_cons h1, h2]
  rfl
theorem addE_step {l : List (Nat × Nat)} {k : Nat} {met : List (Nat × Nat)} {e : Nat × Nat} (hx : l[k]? = some e) : addE (l.drop k) met = if e ∈ met then none else addE (l.drop (k + 1)) (met ++ [e]) := by
  obtain ⟨h1, h2⟩ := List.getElem?_eq_some_iff.1 hx
  rw [List.drop_eq_getElem_cons h1, h2]
  rfl

/-- Channels as they lie: each with the slice of its destinations. -/
def chsC (L : List (Ch × Value)) : List Value := L.flatMap fun x => chC x.1 x.2
theorem chC_len (x : Ch × Value) : (chC x.1 x.2).length = 7 := rfl
structure ChV (h : Hp) (L : List (Ch × Value)) (v : Value) : Prop where
  sl : Sl h 7 L.length (chsC L) v
  ok : ∀ x ∈ L, x.1.ok ∧ ToV h x.1.to x.2

def tb68 : Nat → Marks := fun k => if k = 22 then ⟨[4000000], fun _ => True⟩ else ⟨[], fun _ => True⟩
section
variable {h : Hp} {K : Value → Hp → Prop}
set_option maxHeartbeats 4000000 in
theorem chanCheck_call {L : List (Ch × Value)} {v : Value} {gs : Int} (hv : ChV h L v) (hl : L.length < 9223372036854775808) (hK : K (.int .i64 (checkC (L.map (·.1)) gs)) h) : ACall prog 68 [v, .int .i64 gs] h K := by
  refine acall_awp func68 rfl rfl (by kernel_rfl) fun hwf => ?_
  have hvb := sblk_lt (hwf.args v (by simp))
  have hsl := hv.sl
  obtain ⟨va, vc, rfl⟩ := hsl.slice
  unfold checkC at hK
  rw [List.length_map] at hK
  refine awp_seq (vcF_sound (tb := tb68) mixed _ (by kernel_rfl) ?_)
  simp -dsimp (disch := omega)
  refine awp_seq (vcF_sound (tb := tb68) mixed _ (by kernel_rfl) ?_)
  by_cases c1 : gs < 1
  · rw [if_pos (.inl c1)] at hK
    simp -dsimp (disch := omega) [c1]
    exact RetF.same hwf (by simp) (Nat.zero_le _) (fun _ _ => rfl) hK
  by_cases c2 : 16 < gs
  · rw [if_pos (.inr c2)] at hK
    simp -dsimp (disch := omega) [c1, c2]
    exact RetF.same hwf (by simp) (Nat.zero_le _) (fun _ _ => rfl) hK
  rw [if_neg (by omega)] at hK
  obtain ⟨G, rfl⟩ : ∃ G : Nat, gs = G := ⟨gs.toNat, by omega⟩
  rw [Int.toNat_natCast] at hK
  obtain ⟨n, hn⟩ : ∃ n, n = L.length := ⟨_, rfl⟩
  rw [← hn] at hK
  by_cases c4 : 16 < n
  · have c4' : (16 : Int) < n := by omega
    rw [if_pos c4] at hK
    simp -dsimp (disch := omega) [c1, c2, ← hn, c4, c4']
    exact RetF.same hwf (by simp) (Nat.zero_le _) (fun _ _ => rfl) hK
  rw [if_neg c4] at hK
  have c4' : ¬ (16 : Int) < n := by omega
  simp -dsimp (disch := omega) [c1, c2, ← hn, c4, c4']
  refine awp_makeMap (by decide) (by decide) fun E1 hcan hmN => ?_
  refine vcF_sound (tb := tb68) mixed _ (by kernel_rfl) ?_
  simp -dsimp (disch := omega) [← hn]
  refine awp_loop (fun t h' => h.next < h'.next ∧ (∀ i, i < h.next → h'.blks i = h.blks i) ∧ ∃ (k : Nat) (met : List (Nat × Nat)), k ≤ n ∧ t 1 = .int .i64 G ∧ t 5 = .map (some h.next) ∧ t 24 = .slice va n vc ∧ t 25 = .int .i64 n ∧ t 26 = .int .i64 k ∧ MJ met h'.jump ∧ runC G (L.map (·.1)) [] = runC G ((L.map (·.1)).drop k) met) (fun t _ => n - ivN (t 26)) ?_ ?_
  · simp -dsimp (disch := omega)
    exact ⟨0, by omega, rfl, [], rfl, rfl⟩
  · rintro t h' ⟨hn1, hs, k, met, hk, g1, g5, g24, g25, g26, hmj, hrun⟩
    refine vcF_sound (tb := tb68) mixed _ (by kernel_rfl) ?_
    simp -dsimp (disch := omega) [g24, g25, g26]
    refine CondF_dec (fun hc => ?_) (fun hc => ?_)
    · have hkl : k < L.length := by omega
      obtain ⟨⟨c, vt⟩, hx⟩ : ∃ w, L[k]? = some w := ⟨L[k], List.getElem?_eq_getElem hkl⟩
      obtain ⟨a', cc, b', q2, fa, s1, x1, y1⟩ := sl_el (f := fun x : Ch × Value => chC x.1 x.2) (n := 7) chC_len hsl hx
      cases q2
      have hab : a'.block < h.next := hvb _ rfl
      have htop : vtop vt ≤ h.next := hwf.top _ _ fa vt (Array.mem_of_getElem? (y1 3 (by omega)))
      rw [← hs _ hab] at fa
      obtain ⟨cok, cto⟩ := hv.ok _ (List.mem_of_getElem? hx)
      simp only at cok cto
      rw [runC_step (c := c) (by rw [List.getElem?_map, hx]; rfl)] at hrun
      have x1' : b'.cells.extract (a'.off + k * 7) (a'.off + k * 7 + 7) = #[.int .u8 c.k, .int .u8 c.g, .int .u8 c.p, vt, .int .u8 c.m, .int .u8 c.d, .int .u32 c.v] := x1
      clear x1 y1
      have hone := cto.len.2
      have hvt := sblk_lt htop
      simp -dsimp (disch := omega) [g24, g26, fa, s1, x1', hone]
      have cto1 : ToV (h'.alloc ⟨#[.int .u8 c.k, .int .u8 c.g, .int .u8 c.p, vt, .int .u8 c.m, .int .u8 c.d, .int .u32 c.v], 1, true⟩) c.to vt := cto.mono fun b hb => by have := hvt b hb; rw [blks_alloc_ne _ _ _ (by omega)]; exact hs b this
      refine ACall.any (shape_call (c := c) (vt := vt) cto1 ?_)
      cases hsb : shapeB c with
      | false =>
        rw [if_pos hsb] at hrun
        rw [hrun] at hK
        simp -dsimp (disch := omega)
        exact RetF.same (E := noEnv) hwf (by simp) (Nat.zero_le _) (fun i hi => by simp (disch := omega) [hs i hi]) hK
      | true =>
        rw [if_neg (by rw [hsb]; simp)] at hrun
        have hlen := shapeB_len hsb
        simp -dsimp (disch := omega) [hone]
        refine ACall.anyJ (ends_call (c := c) (vt := vt) (cto1.sl (by omega)) hlen fun v1 h1 e1 r1 hj1 => ?_)
        have hj1 : h1.jump = h'.jump := hj1
        have e1n := e1.le
        have hE : ∀ i, i < h'.next → h1.blks i = h'.blks i := fun i hi => by rw [e1.same i (by simp; omega), blks_alloc_ne _ _ _ (by omega)]
        have hp7 : h1.blks h'.next = some ⟨#[.int .u8 c.k, .int .u8 c.g, .int .u8 c.p, vt, .int .u8 c.m, .int .u8 c.d, .int .u32 c.v], 1, true⟩ := by rw [e1.same _ (by simp)]; exact blks_alloc_eq _ _
        have hs1 := row_sl r1
        have hb1 := r1.blk
        obtain ⟨a1, c1', rfl⟩ := hs1.slice
        obtain ⟨m, hm⟩ : ∃ m, m = (endsL c).length := ⟨_, rfl⟩
        have hm5 : m ≤ 5 := by rw [hm, endsL_len]; omega
        rw [← hm]
        have heb : ∀ e ∈ endsL c, e.1 < 256 ∧ e.2 < 256 := by
          obtain ⟨o1, o2, o3, o4, o5, o6, o7, o8⟩ := cok
          intro e he
          rcases List.mem_cons.1 he with rfl | he
          · exact ⟨o2, o3⟩
          · exact o7 e he
        have hnn : h'.next + 1 ≤ h1.next := by simpa using e1n
        simp -dsimp (disch := omega)
        refine awp_loop (fun t hh => h1.next ≤ hh.next ∧ (∀ i, i < h1.next → hh.blks i = h1.blks i) ∧ hh.jump = h1.jump ∧ ∃ j : Nat, j ≤ m ∧ t 1 = .int .i64 G ∧ t 5 = .map (some h.next) ∧ t 7 = ptr h'.next ∧ t 24 = .slice (some a') n vc ∧ t 25 = .int .i64 n ∧ t 26 = .int .i64 k ∧ t 34 = .slice a1 m c1' ∧ t 35 = .int .i64 m ∧ t 36 = .int .i64 j ∧ ∀ i, i < j → ∀ e, (endsL c)[i]? = some e → badE G e = false) (fun t _ => m - ivN (t 36)) ?_ ?_
        · simp -dsimp (disch := omega) [g1, g5, g24, g25, g26]
          exact ⟨0, by omega, rfl, fun i hi => by omega⟩
        · rintro t2 h2 ⟨hn2, hs2, hj2, j, hj, k1, k5, k7, k24, k25, k26, k34, k35, k36, hall⟩
          refine vcF_sound (tb := tb68) mixed _ (by kernel_rfl) ?_
          simp -dsimp (disch := omega) [k34, k35, k36]
          refine CondF_dec (fun hc2 => ?_) (fun hc2 => ?_)
          · obtain ⟨⟨e1', e2'⟩, hxe⟩ : ∃ e, (endsL c)[j]? = some e := ⟨(endsL c)[j]'(by omega), List.getElem?_eq_getElem (by omega)⟩
            obtain ⟨a2, cc2, b2, q3, fb, s2, x2, y2⟩ := sl_el (f := endC) (n := 2) endC_len hs1 hxe
            cases q3
            have hab2 := hb1 _ rfl
            rw [← hs2 _ hab2.2] at fb
            have x2' : b2.cells.extract (a2.off + j * 2) (a2.off + j * 2 + 2) = #[.int .u8 e1', .int .u8 e2'] := x2
            clear x2 y2
            have hem : (e1', e2') ∈ endsL c := List.mem_of_getElem? hxe
            have heb1 : e1' < 256 := (heb _ hem).1
            have heb2 : e2' < 256 := (heb _ hem).2
            by_cases d1 : G ≤ e1'
            · have d1' : (G : Int) ≤ e1' := by omega
              rw [if_pos (List.any_eq_true.2 ⟨_, hem, by simp [badE, d1]⟩)] at hrun
              rw [hrun] at hK
              simp -dsimp (disch := omega) [k1, k34, k36, fb, s2, x2', d1, d1']
              exact RetF.same (E := noEnv) hwf (by simp) (Nat.zero_le _) (fun i hi => by simp (disch := omega) [hs2 i (by omega), hE i (by omega), hs i hi]) hK
            have d1' : ¬ (G : Int) ≤ e1' := by omega
            by_cases d2 : 16 ≤ e2'
            · have d2' : (16 : Int) ≤ e2' := by omega
              rw [if_pos (List.any_eq_true.2 ⟨_, hem, by simp [badE, d2]⟩)] at hrun
              rw [hrun] at hK
              simp -dsimp (disch := omega) [k1, k34, k36, fb, s2, x2', d1, d1', d2, d2']
              exact RetF.same (E := noEnv) hwf (by simp) (Nat.zero_le _) (fun i hi => by simp (disch := omega) [hs2 i (by omega), hE i (by omega), hs i hi]) hK
            have d2' : ¬ (16 : Int) ≤ e2' := by omega
            simp -dsimp (disch := omega) [k1, k5, k7, k24, k25, k26, k34, k35, k36, fb, s2, x2', d1, d1', d2, d2']
            refine ⟨⟨by omega, fun i hi => by rw [if_neg (by omega)]; exact hs2 i hi, hj2, j + 1, by omega, by simp, fun i hi ea eb he => ?_⟩, by simp [ivN]; omega⟩
            rcases Nat.lt_or_ge i j with h | h
            · exact hall i h _ he
            · obtain rfl : i = j := by omega
              rw [hxe] at he
              cases he
              simp [badE, d1, d2]
          · have hjm : j = m := by omega
            have hany : (endsL c).any (badE G) = false := by
              rw [List.any_eq_false]
              intro e he
              obtain ⟨i, hi⟩ := List.getElem?_of_mem he
              have := (List.getElem?_eq_some_iff.1 hi).1
              rw [hall i (by omega) e hi]
              simp
            rw [if_neg (by rw [hany]; simp)] at hrun
            have hp7' : h2.blks h'.next = some ⟨#[.int .u8 c.k, .int .u8 c.g, .int .u8 c.p, vt, .int .u8 c.m, .int .u8 c.d, .int .u32 c.v], 1, true⟩ := by rw [hs2 _ (by omega)]; exact hp7
            simp -dsimp (disch := omega) [k34, k35, k36, k7, hp7', hone]
            have cto2 : ToV h2 c.to vt := cto.mono fun b hb => by have := hvt b hb; rw [hs2 _ (by omega), hE _ (by omega)]; exact hs b this
            refine ACall.anyJ (ends_call (c := c) (vt := vt) (cto2.sl (by omega)) hlen fun v3 h3 e3 r3 hj3 => ?_)
            have hs3 := row_sl r3
            have hb3 := r3.blk
            have e3n := e3.le
            obtain ⟨a3, c3', rfl⟩ := hs3.slice
            rw [← hm]
            have hmj3 : MJ met h3.jump := by rw [hj3, hj2, hj1]; exact hmj
            clear hall
            simp -dsimp (disch := omega)
            refine awp_loop (fun t hh => h3.next ≤ hh.next ∧ (∀ i, i < h3.next → hh.blks i = h3.blks i) ∧ ∃ (j : Nat) (me : List (Nat × Nat)), j ≤ m ∧ t 1 = .int .i64 G ∧ t 5 = .map (some h.next) ∧ t 24 = .slice (some a') n vc ∧ t 25 = .int .i64 n ∧ t 26 = .int .i64 k ∧ t 52 = .slice a3 m c3' ∧ t 53 = .int .i64 m ∧ t 54 = .int .i64 j ∧ MJ me hh.jump ∧ addE (endsL c) met = addE ((endsL c).drop j) me) (fun t _ => m - ivN (t 54)) ?_ ?_
            · simp -dsimp (disch := omega) [k1, k5, k24, k25, k26]
              exact ⟨0, by omega, rfl, met, hmj3, rfl⟩
            · rintro t4 h4 ⟨hn4, hs4, j, me, hj, k1, k5, k24, k25, k26, k52, k53, k54, hmj4, hadd⟩
              refine vcF_sound (tb := tb68) mixed _ (by kernel_rfl) ?_
              simp -dsimp (disch := omega) [k52, k53, k54]
              refine CondF_dec (fun hc3 => ?_) (fun hc3 => ?_)
              · obtain ⟨⟨e1', e2'⟩, hxe⟩ : ∃ e, (endsL c)[j]? = some e := ⟨(endsL c)[j]'(by omega), List.getElem?_eq_getElem (by omega)⟩
                obtain ⟨a2, cc2, b2, q3, fb, s2, x2, y2⟩ := sl_el (f := endC) (n := 2) endC_len hs3 hxe
                cases q3
                have hab2 := hb3 _ rfl
                rw [← hs4 _ hab2.2] at fb
                have x2' : b2.cells.extract (a2.off + j * 2) (a2.off + j * 2 + 2) = #[.int .u8 e1', .int .u8 e2'] := x2
                clear x2 y2
                rw [addE_step hxe] at hadd
                obtain ⟨l, hl0⟩ : ∃ l, l = me.map keyI := ⟨_, rfl⟩
                have hk : ((e1' : Int), (e2' : Int)) ∈ l ↔ (e1', e2') ∈ me := by rw [hl0]; exact mem_keyI (e := (e1', e2')) (l := me)
                have hl1 : l ++ [((e1' : Int), (e2' : Int))] = (me ++ [(e1', e2')]).map keyI := by rw [hl0, List.map_append]; rfl
                unfold MJ at hmj4
                rw [← hl0] at hmj4
                obtain ⟨H4, hH4⟩ : ∃ H, H = h4.alloc ⟨#[.int .u8 e1', .int .u8 e2'], 1, true⟩ := ⟨_, rfl⟩
                have hjH : H4.jump = some (encE (entK 0 l) l.length) := by rw [hH4, Hp.jump_alloc]; exact hmj4
                have look := pmP.look (r := h.next) (h := H4) (l := l) (a := e1') (b := e2') hmN hjH
                by_cases d1 : (e1', e2') ∈ me
                · rw [if_pos d1] at hadd
                  rw [hadd] at hrun
                  rw [hrun] at hK
                  rw [if_pos (hk.2 d1), hH4] at look
                  simp -dsimp (disch := omega) [k5, k52, k54, fb, s2, x2', look]
                  exact RetF.same (E := noEnv) hwf (by simp) (Nat.zero_le _) (fun i hi => by simp (disch := omega) [hs4 i (by omega), e3.same i (by omega), hs2 i (by omega), hE i (by omega), hs i hi]) hK
                · rw [if_neg d1] at hadd
                  rw [if_neg (fun q => d1 (hk.1 q))] at look
                  have look0 := look
                  rw [hH4] at look0
                  have ent := pmP.ent (r := h.next) (h := H4) (l := l) (a := e1') (b := e2') hmN hjH (fun q => d1 (hk.1 q))
                  obtain ⟨J5, hJ5⟩ : ∃ J, J = some (encE (entK 0 l ++ [MapEntry.mk (pairV ((e1' : Int), (e2' : Int))) (.int .i64 0) l.length]) (l.length + 1)) := ⟨_, rfl⟩
                  rw [← hJ5] at ent
                  have lookN := pmP.lookNew (r := h.next) (h := { H4 with jump := J5 }) (l := l) (a := e1') (b := e2') hmN hJ5 (fun q => d1 (hk.1 q))
                  have stn := PairMap.st (P := prog) (r := h.next) (h := { H4 with jump := J5 }) (l := l) (k := ((e1' : Int), (e2' : Int))) (ck := l.length + 1) hmN hJ5
                  have hb11 : H4.blks h4.next = some ⟨#[.int .u8 e1', .int .u8 e2'], 1, true⟩ := by rw [hH4]; exact blks_alloc_eq _ _
                  simp -dsimp (disch := omega) [k5, k52, k54, fb, s2, x2', look0, tb68]
                  rw [← hH4]
                  refine awpF_of (awp_orders mixed [[0, 1, 2, 3, 4, 5, 6], [0, 1, 2, 4, 3, 5, 6], [0, 1, 2, 4, 5, 3, 6], [0, 1, 4, 2, 3, 5, 6], [0, 1, 4, 2, 5, 3, 6], [0, 1, 4, 5, 2, 3, 6], [1, 0, 2, 3, 4, 5, 6], [1, 0, 2, 4, 3, 5, 6], [1, 0, 2, 4, 5, 3, 6], [1, 0, 4, 2, 3, 5, 6], [1, 0, 4, 2, 5, 3, 6], [1, 0, 4, 5, 2, 3, 6]] (by kernel_rfl) (by kernel_rfl) ?_)
                  intro Lx hLx
                  simp only [List.mem_cons, List.not_mem_nil, or_false] at hLx
                  rcases hLx with rfl | rfl | rfl | rfl | rfl | rfl | rfl | rfl | rfl | rfl | rfl | rfl
                  all_goals simp -dsimp (disch := omega) [k1, k5, k24, k25, k26, k52, k53, k54, hb11, look, ent, lookN, stn]
                  all_goals exact ⟨⟨by rw [hH4]; simp; omega, fun i hi => by rw [hH4, blks_alloc_ne _ _ _ (by omega)]; exact hs4 i hi, j + 1, by omega, by simp, me ++ [(e1', e2')], by unfold MJ; rw [← hl1, List.length_append]; rfl, hadd⟩, by simp [ivN]; omega⟩
              · have hjm : j = m := by omega
                rw [hjm, hm, List.drop_length] at hadd
                have hadd : addE (endsL c) met = some me := hadd
                rw [hadd] at hrun
                simp -dsimp (disch := omega) [k1, k5, k24, k25, k26, k52, k53, k54]
                exact ⟨⟨by omega, fun i hi => by rw [hs4 i (by omega), e3.same i (by omega), hs2 i (by omega), hE i (by omega), hs i hi], k + 1, by omega, by simp, me, hmj4, hrun⟩, by simp [ivN, g26]; omega⟩
    · have hkn : k = n := by omega
      have hlm : (L.map (·.1)).length = n := by rw [List.length_map, hn]
      rw [hkn, ← hlm, List.drop_length] at hrun
      have hrun : runC G (L.map (·.1)) [] = 0 := hrun
      rw [hrun] at hK
      simp -dsimp (disch := omega) [g24, g25, g26]
      exact RetF.same (E := noEnv) hwf (by simp) (Nat.zero_le _) hs hK
end
end Go.Proofs.YtmnemfeofhinaaaDoor
namespace Go.Proofs.YtmnemfeofhinaaaDoor
open Go Go.Mini Go.Proofs.Tryd
set_option maxRecDepth 100000

section
variable {h : Hp} {K : Value → Hp → Prop}
theorem endsC_app (l : List (Nat × Nat)) (e : Nat × Nat) : endsC (l ++ [e]) = endsC l ++ endC e := by simp [endsC]
set_option maxHeartbeats 4000000 in
theorem refChan_call {L : List (Ch × Value)} {v : Value} {gs : Int} (hv : ChV h L v) (hl : L.length < 9223372036854775808) (hK : K (.int .i64 (checkC (L.map (·.1)) gs)) h) : ACall prog 54 [v, .int .i64 gs] h K := by
  refine acallF_of tb0 func54 rfl rfl mixed (by kernel_rfl) fun hwf => ?_
  have hvb := sblk_lt (hwf.args v (by simp))
  have hsl := hv.sl
  obtain ⟨va, vc, rfl⟩ := hsl.slice
  unfold checkC at hK
  rw [List.length_map] at hK
  by_cases c1 : gs < 1
  · rw [if_pos (.inl c1)] at hK
    simp -dsimp (disch := omega) [c1]
    exact RetF.same hwf (by simp) (Nat.zero_le _) (fun _ _ => rfl) hK
  by_cases c2 : 16 < gs
  · rw [if_pos (.inr c2)] at hK
    simp -dsimp (disch := omega) [c1, c2]
    exact RetF.same hwf (by simp) (Nat.zero_le _) (fun _ _ => rfl) hK
  rw [if_neg (by omega)] at hK
  obtain ⟨G, rfl⟩ : ∃ G : Nat, gs = G := ⟨gs.toNat, by omega⟩
  rw [Int.toNat_natCast] at hK
  obtain ⟨n, hn⟩ : ∃ n, n = L.length := ⟨_, rfl⟩
  rw [← hn] at hK
  by_cases c4 : 16 < n
  · have c4' : (16 : Int) < n := by omega
    rw [if_pos c4] at hK
    simp -dsimp (disch := omega) [c1, c2, ← hn, c4, c4']
    exact RetF.same hwf (by simp) (Nat.zero_le _) (fun _ _ => rfl) hK
  rw [if_neg c4] at hK
  have c4' : ¬ (16 : Int) < n := by omega
  simp -dsimp (disch := omega) [c1, c2, ← hn, c4, c4']
  refine awp_loop (fun t h' => Ext h h' ∧ ∃ (k : Nat) (met : List (Nat × Nat)) (v5 : Value), k ≤ n ∧ t 0 = .slice va n vc ∧ t 1 = .int .i64 G ∧ t 5 = v5 ∧ t 6 = .int .i64 k ∧ Row h.next h' 2 met.length (endsC met) v5 ∧ met.length ≤ 5 * k ∧ runC G (L.map (·.1)) [] = runC G ((L.map (·.1)).drop k) met) (fun t _ => n - ivN (t 6)) ?_ ?_
  · simp -dsimp (disch := omega) [← hn]
    exact ⟨Ext.refl _, 0, by omega, rfl, [], Row.nil _ _ _, by simp, rfl⟩
  · rintro t h' ⟨hs, k, met, v5, hk, g0, g1, g5, g6, hrow, hml, hrun⟩
    refine vcF_sound (tb := tb0) mixed _ (by kernel_rfl) ?_
    simp -dsimp (disch := omega) [g0, g6]
    have hsn := hs.le
    refine CondF_dec (fun hc => ?_) (fun hc => ?_)
    · have hkl : k < L.length := by omega
      obtain ⟨⟨c, vt⟩, hx⟩ : ∃ w, L[k]? = some w := ⟨L[k], List.getElem?_eq_getElem hkl⟩
      obtain ⟨a', cc, b', q2, fa, s1, x1, y1⟩ := sl_el (f := fun x : Ch × Value => chC x.1 x.2) (n := 7) chC_len hsl hx
      cases q2
      have hab : a'.block < h.next := hvb _ rfl
      have htop : vtop vt ≤ h.next := hwf.top _ _ fa vt (Array.mem_of_getElem? (y1 3 (by omega)))
      rw [← hs.same _ hab] at fa
      obtain ⟨cok, cto⟩ := hv.ok _ (List.mem_of_getElem? hx)
      simp only at cok cto
      rw [runC_step (c := c) (by rw [List.getElem?_map, hx]; rfl)] at hrun
      have x1' : b'.cells.extract (a'.off + k * 7) (a'.off + k * 7 + 7) = #[.int .u8 c.k, .int .u8 c.g, .int .u8 c.p, vt, .int .u8 c.m, .int .u8 c.d, .int .u32 c.v] := x1
      clear x1 y1
      have hone := cto.len.2
      have hvt := sblk_lt htop
      have cto1 : ToV h' c.to vt := cto.mono fun b hb => hs.same _ (hvt b hb)
      simp -dsimp (disch := omega) [g0, g6, fa, s1, x1']
      refine refShape_call (c := c) (vt := vt) cto1 ?_
      cases hsb : shapeB c with
      | false =>
        rw [if_pos hsb] at hrun
        rw [hrun] at hK
        simp -dsimp (disch := omega)
        exact RetF.same hwf (by simp) (Nat.zero_le _) hs.same hK
      | true =>
        rw [if_neg (by rw [hsb]; simp)] at hrun
        have hlen := shapeB_len hsb
        simp -dsimp (disch := omega) [g0, g6, fa, s1, x1']
        refine refEnds_call (c := c) (vt := vt) (cto1.sl (by omega)) hlen fun v1 h1 e1 r1 => ?_
        have e1n := e1.le
        have hs1 := row_sl r1
        have hb1 := r1.blk
        obtain ⟨a1, c1', rfl⟩ := hs1.slice
        obtain ⟨m, hm⟩ : ∃ m, m = (endsL c).length := ⟨_, rfl⟩
        have hm5 : m ≤ 5 := by rw [hm, endsL_len]; omega
        have heb : ∀ e ∈ endsL c, e.1 < 256 ∧ e.2 < 256 := by
          obtain ⟨o1, o2, o3, o4, o5, o6, o7, o8⟩ := cok
          intro e he
          rcases List.mem_cons.1 he with rfl | he
          · exact ⟨o2, o3⟩
          · exact o7 e he
        rw [← hm] at hb1 ⊢
        simp -dsimp (disch := omega)
        refine awp_loop (fun t hh => hh = h1 ∧ ∃ j : Nat, j ≤ m ∧ t 0 = .slice (some a') n vc ∧ t 1 = .int .i64 G ∧ t 5 = v5 ∧ t 6 = .int .i64 k ∧ t 7 = .slice a1 m c1' ∧ t 8 = .int .i64 j ∧ ∀ i, i < j → ∀ e, (endsL c)[i]? = some e → badE G e = false) (fun t _ => m - ivN (t 8)) ?_ ?_
        · simp -dsimp (disch := omega) [g0, g1, g5, g6]
          exact ⟨0, by omega, rfl, fun i hi => by omega⟩
        · rintro t2 h2 ⟨rfl, j, hj, k0, k1, k5, k6, k7, k8, hall⟩
          refine vcF_sound (tb := tb0) mixed _ (by kernel_rfl) ?_
          simp -dsimp (disch := omega) [k7, k8]
          refine CondF_dec (fun hc2 => ?_) (fun hc2 => ?_)
          · obtain ⟨⟨e1', e2'⟩, hxe⟩ : ∃ e, (endsL c)[j]? = some e := ⟨(endsL c)[j]'(by omega), List.getElem?_eq_getElem (by omega)⟩
            obtain ⟨a2, cc2, b2, q3, fb, s2, x2, y2⟩ := sl_el (f := endC) (n := 2) endC_len hs1 hxe
            cases q3
            have y0 : b2.cells[a2.off + j * 2]? = some (.int .u8 e1') := y2 0 (by omega)
            have y1 : b2.cells[a2.off + j * 2 + 1]? = some (.int .u8 e2') := y2 1 (by omega)
            clear x2 y2
            have hem : (e1', e2') ∈ endsL c := List.mem_of_getElem? hxe
            have heb1 : e1' < 256 := (heb _ hem).1
            have heb2 : e2' < 256 := (heb _ hem).2
            by_cases d1 : G ≤ e1'
            · have d1' : (G : Int) ≤ e1' := by omega
              rw [if_pos (List.any_eq_true.2 ⟨_, hem, by simp [badE, d1]⟩)] at hrun
              rw [hrun] at hK
              simp -dsimp (disch := omega) [k1, k7, k8, fb, y0, y1, d1, d1', -getElem?_pos]
              exact RetF.same hwf (by simp) (Nat.zero_le _) (fun i hi => by rw [e1.same i (by omega), hs.same i hi]) hK
            have d1' : ¬ (G : Int) ≤ e1' := by omega
            by_cases d2 : 16 ≤ e2'
            · have d2' : (15 : Int) < e2' := by omega
              have d2'' : 15 < e2' := by omega
              rw [if_pos (List.any_eq_true.2 ⟨_, hem, by simp [badE, d2]⟩)] at hrun
              rw [hrun] at hK
              simp -dsimp (disch := omega) [k1, k7, k8, fb, y0, y1, d1, d1', d2', d2'', -getElem?_pos]
              exact RetF.same hwf (by simp) (Nat.zero_le _) (fun i hi => by rw [e1.same i (by omega), hs.same i hi]) hK
            have d2' : ¬ (15 : Int) < e2' := by omega
            have d2'' : ¬ 15 < e2' := by omega
            simp -dsimp (disch := omega) [k0, k1, k5, k6, k7, k8, fb, y0, y1, d1, d1', d2', d2'', -getElem?_pos]
            refine ⟨⟨j + 1, by omega, by simp, fun i hi ea eb he => ?_⟩, by simp [ivN]; omega⟩
            rcases Nat.lt_or_ge i j with h | h
            · exact hall i h _ he
            · obtain rfl : i = j := by omega
              rw [hxe] at he
              cases he
              simp [badE, d1, d2]
          · have hjm : j = m := by omega
            have hany : (endsL c).any (badE G) = false := by
              rw [List.any_eq_false]
              intro e he
              obtain ⟨i, hi⟩ := List.getElem?_of_mem he
              have := (List.getElem?_eq_some_iff.1 hi).1
              rw [hall i (by omega) e hi]
              simp
            rw [if_neg (by rw [hany]; simp)] at hrun
            clear hall
            have hrow1 : Row h.next h2 2 met.length (endsC met) v5 := hrow.mono e1n fun b hb => e1.same _ (hrow.blk b hb).2
            simp -dsimp (disch := omega) [k7, k8]
            refine awp_loop (fun t hh => h2.next ≤ hh.next ∧ (∀ i, i < h.next → hh.blks i = h.blks i) ∧ (∀ b, sblk (.slice a1 m c1') = some b → hh.blks b = h2.blks b) ∧ ∃ (j : Nat) (me : List (Nat × Nat)) (v5 : Value), j ≤ m ∧ t 0 = .slice (some a') n vc ∧ t 1 = .int .i64 G ∧ t 5 = v5 ∧ t 6 = .int .i64 k ∧ t 7 = .slice a1 m c1' ∧ t 9 = .int .i64 j ∧ Row h.next hh 2 me.length (endsC me) v5 ∧ (∀ b, sblk v5 = some b → sblk (.slice a1 m c1') ≠ some b) ∧ me.length ≤ 5 * k + j ∧ addE (endsL c) met = addE ((endsL c).drop j) me) (fun t _ => m - ivN (t 9)) ?_ ?_
            · simp -dsimp (disch := omega) [k0, k1, k5, k6, k7]
              exact ⟨fun i hi => by rw [e1.same i (by omega), hs.same i hi], 0, by omega, rfl, met, hrow1, fun b hb q => by have := (hb1 b q).1; have := (hrow.blk b hb).2; omega, by omega, rfl⟩
            · rintro t4 h4 ⟨hn4, hs4, hs7, j, me, v5, hj, k0, k1, k5, k6, k7, k9, hrow4, hne, hme, hadd⟩
              refine vcF_sound (tb := tb0) mixed _ (by kernel_rfl) ?_
              simp -dsimp (disch := omega) [k7, k9]
              refine CondF_dec (fun hc3 => ?_) (fun hc3 => ?_)
              · obtain ⟨⟨e1', e2'⟩, hxe⟩ : ∃ e, (endsL c)[j]? = some e := ⟨(endsL c)[j]'(by omega), List.getElem?_eq_getElem (by omega)⟩
                obtain ⟨a2, cc2, b2, q3, fb, s2, x2, y2⟩ := sl_el (f := endC) (n := 2) endC_len hs1 hxe
                cases q3
                rw [← hs7 _ rfl] at fb
                have x2' : b2.cells.extract (a2.off + j * 2) (a2.off + j * 2 + 2) = #[.int .u8 e1', .int .u8 e2'] := x2
                clear x2 y2
                rw [addE_step hxe] at hadd
                have hs5 := row_sl hrow4
                obtain ⟨a5, c5, rfl⟩ := hs5.slice
                obtain ⟨N, hN⟩ : ∃ N, N = me.length := ⟨_, rfl⟩
                rw [← hN] at k5
                simp -dsimp (disch := omega)
                refine awp_loop (fun t hh => hh = h4 ∧ ∃ i : Nat, i ≤ N ∧ t 0 = .slice (some a') n vc ∧ t 1 = .int .i64 G ∧ t 5 = .slice a5 N c5 ∧ t 6 = .int .i64 k ∧ t 7 = .slice (some a2) m c1' ∧ t 9 = .int .i64 j ∧ t 10 = .int .i64 i ∧ (e1', e2') ∉ me.take i) (fun t _ => N - ivN (t 10)) ?_ ?_
                · simp -dsimp (disch := omega) [k0, k1, k5, k6, k7, k9]
                  exact ⟨0, by omega, rfl, by simp⟩
                · rintro t6 h6 ⟨rfl, i, hi, l0, l1, l5, l6, l7, l9, l10, hnot⟩
                  refine vcF_sound (tb := tb0) mixed _ (by kernel_rfl) ?_
                  simp -dsimp (disch := omega) [l5, l10]
                  refine CondF_dec (fun hc4 => ?_) (fun hc4 => ?_)
                  · obtain ⟨⟨f1, f2⟩, hxf⟩ : ∃ e, me[i]? = some e := ⟨me[i]'(by omega), List.getElem?_eq_getElem (by omega)⟩
                    obtain ⟨a3, cc3, b3, q4, fc, s3, x3, y3⟩ := sl_el (f := endC) (n := 2) endC_len hs5 hxf
                    cases q4
                    have x3' : b3.cells.extract (a3.off + i * 2) (a3.off + i * 2 + 2) = #[.int .u8 f1, .int .u8 f2] := x3
                    clear x3 y3
                    by_cases d1 : f1 = e1' ∧ f2 = e2'
                    · obtain ⟨rfl, rfl⟩ := d1
                      rw [if_pos (List.mem_of_getElem? hxf)] at hadd
                      rw [hadd] at hrun
                      rw [hrun] at hK
                      simp -dsimp (disch := omega) [l5, l7, l9, l10, fb, fc, s2, s3, x2', x3']
                      exact RetF.same hwf (by simp) (Nat.zero_le _) hs4 hK
                    · have d1' : ¬ (f1 = e1' ∧ f2 = e2') := d1
                      have d2 : (decide ((f1 : Int) = e1') && decide ((f2 : Int) = e2')) = false := by
                        simp only [Bool.and_eq_false_iff, decide_eq_false_iff_not]; omega
                      have d3 : (decide (f1 = e1') && decide (f2 = e2')) = false := by
                        simp only [Bool.and_eq_false_iff, decide_eq_false_iff_not]; omega
                      simp -dsimp (disch := omega) [l0, l1, l5, l6, l7, l9, l10, fb, fc, s2, s3, x2', x3', d2, d3]
                      refine ⟨⟨i + 1, by omega, by simp, fun q => ?_⟩, by simp [ivN]; omega⟩
                      rw [List.take_add_one, hxf] at q
                      rcases List.mem_append.1 q with q | q
                      · exact hnot q
                      · simp at q
                        exact d1 ⟨q.1.symm, q.2.symm⟩
                  · have hiN : i = N := by omega
                    rw [hiN, hN, List.take_length] at hnot
                    rw [if_neg hnot] at hadd
                    simp -dsimp (disch := omega) [l5, l7, l9, l10, fb, s2, x2']
                    have hrow6 : Row h.next (h6.alloc ⟨#[.int .u8 e1', .int .u8 e2'], 2, true⟩) 2 N (endsC me) (.slice a5 N c5) := by rw [hN]; exact hrow4.alloc _
                    refine app_row hrow6 (by simp; omega) (src_slice _ 2 1 2 ⟨h6.next, 0, none⟩ #[.int .u8 e1', .int .u8 e2'] (by simp (disch := omega))) (by omega) rfl (by unfold ROOM; omega) fun v8 h8 r1' r2' r3' r4' => ?_
                    have r2n : h8.next = h6.next + 2 := by rw [r2']; simp
                    have hbl := hrow4.blk
                    rw [← hN] at hbl hne
                    simp -dsimp (disch := omega) [l0, l1, l6, l7, l9]
                    refine ⟨⟨by omega, fun i hi => ?_, fun b hb => ?_, j + 1, by omega, by simp, me ++ [(e1', e2')], ?_, fun b hb q => ?_, by simp; omega, hadd⟩, by simp [ivN, k9]; omega⟩
                    · rw [r4' i (by simp; omega) (fun q => by have := (hbl _ q).1; omega), blks_alloc_ne _ _ _ (by omega)]
                      exact hs4 i hi
                    · have hb2 := (hb1 b hb).2
                      rw [r4' b (by simp; omega) (fun q => hne _ q hb), blks_alloc_ne _ _ _ (by omega)]
                      exact hs7 b hb
                    · rw [List.length_append, endsC_app, ← hN]
                      exact r1'
                    · rw [r3'] at hb
                      have := (hb1 b q).2
                      simp at hb
                      omega
              · have hjm : j = m := by omega
                rw [hjm, hm, List.drop_length] at hadd
                have hadd : addE (endsL c) met = some me := hadd
                rw [hadd] at hrun
                simp -dsimp (disch := omega) [k0, k1, k5, k6, k7, k9]
                exact ⟨⟨⟨by omega, hs4⟩, k + 1, by omega, by simp, me, hrow4, by omega, hrun⟩, by simp [ivN, g6]; omega⟩
    · have hkn : k = n := by omega
      have hlm : (L.map (·.1)).length = n := by rw [List.length_map, hn]
      rw [hkn, ← hlm, List.drop_length] at hrun
      have hrun : runC G (L.map (·.1)) [] = 0 := hrun
      rw [hrun] at hK
      simp -dsimp (disch := omega) [g0, g6]
      exact RetF.same hwf (by simp) (Nat.zero_le _) hs.same hK
end
end Go.Proofs.YtmnemfeofhinaaaDoor
