/-
  The queue: New, Left, Due.
-/
import Derived.Test.YtcfgagpjdhhddaaD11
set_option linter.unusedSimpArgs false
set_option linter.unusedVariables false
set_option linter.unusedSectionVars false
namespace Go.Proofs.Ytcfgagpjdhhddaa
open Go Go.Mini Go.Proofs.Try

theorem row_src {m : Nat} {h : Hp} {esz n : Nat} {cs : List Value} {v : Value} (hr : Row m h esz n cs v) : srcCells h esz v = some (n, cs.toArray) := by
  obtain ⟨h0, ⟨rfl, rfl⟩ | ⟨b, h1, h2, rfl, h3⟩⟩ := hr
  · have : cs = [] := List.length_eq_zero_iff.1 (by simpa using h0)
    subst this
    rfl
  · apply src_slice
    unfold Mini.rowAt
    rw [h3]
    simp [← h0]
/-- Appending any number. -/
theorem app_any {m : Nat} {h : Hp} {esz bytes n : Nat} {cs : List Value} {v x : Value} {k : Nat} {new : Array Value} {K : Value → Hp → Prop} {u : Tag K} (hr : Row m h esz n cs v) (hm : m ≤ h.next) (hx : srcCells h esz x = some (k, new)) (hsz : new.size = k * esz) (room : (n + k) * bytes ≤ ROOM ∧ n + k ≤ ROOM)
    (hK : ∀ v' h', Row m h' esz (n + k) (cs ++ new.toList) v' → h.next ≤ h'.next → (∀ b, sblk v' = some b → sblk v = some b ∨ h.next ≤ b) → (∀ i, i < h.next → sblk v ≠ some i → h'.blks i = h.blks i) → K v' h') : OptF (aappend h esz bytes v x) K u := by
  rcases Nat.eq_zero_or_pos k with rfl | hk
  · have hnew : new = #[] := Array.size_eq_zero_iff.1 (by simpa using hsz)
    subst hnew
    have hr' : Row m h esz (n + 0) (cs ++ (#[] : Array Value).toList) v := by simpa using hr
    have hgo : K v h := hK v h hr' (Nat.le_refl _) (fun b hb => .inl hb) (fun _ _ _ => rfl)
    obtain ⟨h0, ⟨rfl, rfl⟩ | ⟨b, h1, h2, rfl, h3⟩⟩ := hr
    · unfold aappend
      simp only [hx]
      rw [if_pos ⟨trivial, trivial⟩, if_pos trivial]
      exact hgo
    · unfold aappend
      simp only [hx]
      rw [if_pos (by omega), if_pos trivial]
      exact hgo
  · exact app_row hr hm hx hk hsz room fun v' h' r1 r2 r3 r4 => hK v' h' r1 (by omega) (fun b hb => .inr (by rw [r3] at hb; cases hb; exact Nat.le_refl _)) r4

/-- Appending to an empty one of one's own. -/
theorem app_empty {h : Hp} {esz bytes b0 : Nat} {x : Value} {k : Nat} {new : Array Value} {K : Value → Hp → Prop} {u : Tag K} {b : Blk} (hb : h.blks b0 = some b) (hx : srcCells h esz x = some (k, new)) (hsz : new.size = k * esz) (room : k * bytes ≤ ROOM ∧ k ≤ ROOM)
    (hK : ∀ v' h', Ext h h' → Sl h' esz k new.toList v' → (∀ b, sblk v' = some b → b = b0 ∨ (h.next ≤ b ∧ b < h'.next)) → K v' h') : OptF (aappend h esz bytes (.slice (some ⟨b0, 0, none⟩) 0 0) x) K u := by
  have hr0 : Mini.rowAt h ⟨b0, 0, none⟩ (0 * esz) = some #[] := by
    unfold Mini.rowAt
    rw [hb]
    simp
  rcases Nat.eq_zero_or_pos k with rfl | hk
  · unfold aappend
    simp only [hx]
    rw [if_pos (by omega), if_pos trivial]
    exact hK _ _ (Ext.refl h) ⟨by simpa using hsz, .inl ⟨_, _, rfl, rfl⟩⟩ fun b hb => .inl (by simp [sblk] at hb; omega)
  · unfold aappend
    simp only [hx]
    rw [if_neg (by omega), if_pos trivial, hr0]
    simp only
    unfold agrown
    rw [if_pos (by simpa using room)]
    refine hK _ _ (Ext.alloc h _) ⟨by simpa using hsz, .inr ⟨_, _, _, by rw [Nat.zero_add], blks_alloc_eq _ _, by simp [hsz], fun j hj => by simp⟩⟩ fun b hb => .inr ?_
    simp [sblk] at hb
    subst hb
    simp

/-- A queue of events. -/
structure Que (h : Hp) (q : Nat) (l : List Ev) (v : Value) : Prop where
  blk : h.blks q = some ⟨#[v], 1, true⟩
  sl : Sl h 4 l.length (evsC l) v
  lt : q < h.next
  vlt : ∀ b, sblk v = some b → b < h.next ∧ b ≠ q
theorem Que.mono {h h' : Hp} {q : Nat} {l : List Ev} {v : Value} (a : Que h q l v) (hn : h.next ≤ h'.next) (hq : h'.blks q = h.blks q) (hs : ∀ b, sblk v = some b → h'.blks b = h.blks b) : Que h' q l v :=
  ⟨by rw [hq]; exact a.blk, a.sl.mono hs, Nat.lt_of_lt_of_le a.lt hn, fun b hb => ⟨Nat.lt_of_lt_of_le (a.vlt b hb).1 hn, (a.vlt b hb).2⟩⟩

theorem clone_call {m : Nat} {l : List Ev} {v : Value} {h : Hp} {K : Value → Hp → Prop} (hn : l.length ≤ 2000000) (hr : Row m h 4 l.length (evsC l) v) (hK : ∀ h' v', Ext h h' → Sl h' 4 l.length (evsC l) v' → (∀ b, sblk v' = some b → h.next ≤ b ∧ b < h'.next) → K v' h') : ACall prog 33 [v] h K := by
  refine acallF_of tb0 func33 rfl rfl mixed (by kernel_rfl) fun hwf => ?_
  have hsrc := row_src hr
  have hlen := evsC_length l
  obtain ⟨h0, ⟨rfl, hz⟩ | ⟨b, h1, h2, rfl, h3⟩⟩ := hr
  · simp -dsimp (disch := omega)
    exact RetF.all (by simp) (hK _ (.slice none 0 0) (Ext.refl h) ⟨h0, .inl ⟨_, _, rfl, hz⟩⟩ (by simp [sblk]))
  · simp -dsimp (disch := omega)
    refine app_empty (blks_alloc_eq _ _) (by rw [show srcCells (h.alloc ⟨#[], 4, true⟩) 4 (.slice (some ⟨b, 0, none⟩) l.length (2 * l.length + 1)) = srcCells h 4 (.slice (some ⟨b, 0, none⟩) l.length (2 * l.length + 1)) from by unfold srcCells Mini.rowAt; simp only; rw [blks_alloc_ne _ _ _ (by omega)]]; exact hsrc) (by simp; omega) (by unfold ROOM; omega) fun v' h' he hs hb => ?_
    simp -dsimp (disch := omega)
    refine RetF.all ?_ (hK _ _ ((Ext.alloc h _).trans he) (by simpa using hs) fun b hb' => ?_)
    · obtain ⟨a, c, rfl⟩ := hs.slice
      simp
    · have := he.le
      simp at this
      rcases hb b hb' with rfl | ⟨q1, q2⟩
      · omega
      · simp at q1; omega

theorem qleft_call {l : List Ev} {q : Nat} {v : Value} {h : Hp} {K : Value → Hp → Prop} (hq : Que h q l v) (hK : K (.int .i64 l.length) h) : ACall prog 22 [.pointer (some ⟨q, 0, none⟩)] h K := by
  refine acallF_of tb0 func22 rfl rfl mixed (by kernel_rfl) fun hwf => ?_
  have hb := hq.blk
  obtain ⟨a, c, rfl⟩ := hq.sl.slice
  simp -dsimp (disch := omega) [hb]
  exact RetF.same hwf (by simp) (Nat.zero_le _) (fun _ _ => rfl) hK

theorem new_call {m : Nat} {l : List Ev} {v : Value} {h : Hp} {K : Value → Hp → Prop} (hn : l.length ≤ 2000000) (hr : Row m h 4 l.length (evsC l) v) (hK : ∀ h' q v', Ext h h' → h.next ≤ q → Que h' q l v' → K (.pointer (some ⟨q, 0, none⟩)) h') : ACall prog 17 [v] h K := by
  refine acallF_of tb0 func17 rfl rfl mixed (by kernel_rfl) fun hwf => ?_
  simp -dsimp (disch := omega)
  refine clone_call hn hr fun h' v' he hs hb => ?_
  obtain ⟨a, c, rfl⟩ := hs.slice
  simp -dsimp (disch := omega)
  refine RetF.all (by simp) (hK _ _ _ (he.then_alloc _) he.le ⟨blks_alloc_eq _ _, hs.mono fun b hb' => blks_alloc_ne _ _ _ (by have := hb b hb'; omega), by simp, fun b hb' => by have := hb b hb'; simp; omega⟩)

def dueL (t : Nat) (l : List Ev) : List Ev := l.filter fun e => decide (e.t ≤ t)
def laterL (t : Nat) (l : List Ev) : List Ev := l.filter fun e => !decide (e.t ≤ t)
theorem dueL_snoc (t : Nat) (l : List Ev) (e : Ev) : dueL t (l ++ [e]) = if e.t ≤ t then dueL t l ++ [e] else dueL t l := by
  unfold dueL
  rw [List.filter_append]
  by_cases h : e.t ≤ t <;> simp [h]
theorem laterL_snoc (t : Nat) (l : List Ev) (e : Ev) : laterL t (l ++ [e]) = if e.t ≤ t then laterL t l else laterL t l ++ [e] := by
  unfold laterL
  rw [List.filter_append]
  by_cases h : e.t ≤ t
  · simp [h]
  · simp [h]
theorem dueL_len (t : Nat) (l : List Ev) : (dueL t l).length ≤ l.length := List.length_filter_le _ _
theorem laterL_len (t : Nat) (l : List Ev) : (laterL t l).length ≤ l.length := List.length_filter_le _ _

/-- Two rows that are apart. -/
structure Two (m : Nat) (h : Hp) (l l' : List Ev) (v v' : Value) : Prop where
  a : Row m h 4 l.length (evsC l) v
  b : Row m h 4 l'.length (evsC l') v'
  ne : ∀ b, sblk v = some b → sblk v' ≠ some b
theorem Two.mono {m : Nat} {h h' : Hp} {l l' : List Ev} {v v' : Value} (x : Two m h l l' v v') (hn : h.next ≤ h'.next) (hs : ∀ b, m ≤ b → b < h.next → h'.blks b = h.blks b) : Two m h' l l' v v' :=
  ⟨x.a.mono hn fun b hb => hs b (x.a.blk b hb).1 (x.a.blk b hb).2, x.b.mono hn fun b hb => hs b (x.b.blk b hb).1 (x.b.blk b hb).2, x.ne⟩
theorem Two.swap {m : Nat} {h : Hp} {l l' : List Ev} {v v' : Value} (x : Two m h l l' v v') : Two m h l' l v' v := ⟨x.b, x.a, fun b h1 h2 => x.ne b h2 h1⟩
theorem Two.add {m : Nat} {h h3 : Hp} {l l' : List Ev} {v v' w : Value} {e : Ev} {x : Nat} (a : Two m h l l' v v') (r3 : Row m h3 4 (l.length + 1) (evsC l ++ evC e) w) (b3 : sblk w = some x) (hx : h.next ≤ x) (hs : ∀ j, j < h.next → sblk v ≠ some j → h3.blks j = h.blks j) (hn : h.next ≤ h3.next) : Two m h3 (l ++ [e]) l' w v' :=
  ⟨by rw [evsC_snoc, List.length_append]; exact r3, a.b.mono hn fun b hb => hs b (a.b.blk b hb).2 fun hq => a.ne b hq hb, fun b hb hb' => by have := (a.b.blk b hb').2; rw [b3] at hb; cases hb; omega⟩

theorem due_call {l : List Ev} {q : Nat} {v : Value} {t : Nat} {h : Hp} {K : Value → Hp → Prop} (hn : l.length ≤ 2000000) (hok : ∀ e ∈ l, e.ok) (ht : t < 18446744073709551616) (hq : Que h q l v)
    (hK : ∀ h' v' w, Mod q h h' → Que h' q (laterL t l) v' → (∀ b, sblk v' = some b → sblk v = some b ∨ h.next ≤ b) → Row h.next h' 4 (dueL t l).length (evsC (dueL t l)) w → K w h') : ACall prog 20 [.pointer (some ⟨q, 0, none⟩), .int .u64 t] h K := by
  refine acallF_of tb0 func20 rfl rfl mixed (by kernel_rfl) fun hwf => ?_
  simp -dsimp (disch := omega)
  refine qleft_call hq ?_
  have hqb := hq.blk
  have hql := hq.lt
  have hvl := hq.vlt
  have hsl := hq.sl
  obtain ⟨va, vc, rfl⟩ := hsl.slice
  by_cases hz : l.length = 0
  · have hl : l = [] := List.length_eq_zero_iff.1 hz
    subst hl
    simp -dsimp (disch := omega)
    exact RetF.all (by simp) (hK _ _ (.slice none 0 0) ⟨Nat.le_refl _, fun _ _ _ => rfl⟩ hq (fun b hb => .inl hb) (Row.nil _ _ _))
  have hz' : ¬ (l.length : Int) = 0 := by omega
  simp -dsimp (disch := omega) [hz, hz', hqb]
  refine awp_loop (fun s h' => Ext h h' ∧ ∃ k : Nat, k ≤ l.length ∧ s 0 = .pointer (some ⟨q, 0, none⟩) ∧ s 1 = .int .u64 t ∧ s 14 = .slice va l.length vc ∧ s 15 = .int .i64 l.length ∧ s 16 = .int .i64 k ∧ Two h.next h' (dueL t (l.take k)) (laterL t (l.take k)) (s 4) (s 5)) (fun s _ => l.length - ivN (s 16)) ?_ ?_
  · simp -dsimp (disch := omega)
    exact ⟨Ext.refl h, 0, by omega, rfl, Row.nil _ _ _, Row.nil _ _ _, fun b hb => by simp [sblk] at hb⟩
  · rintro s h' ⟨he, k, hk, g0, g1, g14, g15, g16, h2⟩
    refine vcF_sound mixed (tb := tb0) _ (by kernel_rfl) ?_
    simp -dsimp (disch := omega) [g0, g1, g14, g15, g16]
    have hn0 := he.le
    refine CondF_dec (fun hcc => ?_) (fun hcc => ?_)
    · obtain ⟨e, hx⟩ : ∃ e, l[k]? = some e := ⟨l[k]'(by omega), List.getElem?_eq_getElem _⟩
      obtain ⟨a, c, b, q1, f1, s1, x1, y1, y2⟩ := sl_ev2 hsl hx
      cases q1
      have hf : h'.blks a.block = some b := by rw [he.same _ (hvl _ rfl).1]; exact f1
      obtain ⟨o1, _⟩ := hok e (List.mem_of_getElem? hx)
      have q2 := dueL_len t (l.take k)
      have q3 := laterL_len t (l.take k)
      rw [List.length_take] at q2 q3
      have hds := dueL_snoc t (l.take k) e
      have hls := laterL_snoc t (l.take k) e
      rw [← take_snoc hx] at hds hls
      by_cases hd : e.t ≤ t
      · have hd' : (e.t : Int) ≤ t := by omega
        rw [if_pos hd] at hds hls
        simp -dsimp (disch := omega) [g0, g1, g14, g15, g16, hf, s1, x1, hd, hd']
        refine app_row ((h2.a.alloc _).alloc _) (by simp; omega) (src_slice _ _ _ _ _ (evA e) (by simp [evA])) (by omega) (by simp [evA]) (by unfold ROOM; omega) ?_
        intro v' h3 r3 n3 b3 s3
        simp -dsimp (disch := omega) [g0, g1, g14, g15, g16]
        simp at n3 b3
        have hs4 : ∀ j, j < h'.next → sblk (s 4) ≠ some j → h3.blks j = h'.blks j := fun j hj hd => by
          rw [s3 j (by simp; omega) hd]; simp (disch := omega)
        have hnk : ∀ i, i < h.next → sblk (s 4) ≠ some i := fun i hi e => by have := (h2.a.blk i e).1; omega
        refine ⟨⟨⟨by omega, fun i hi => by rw [hs4 i (by omega) (hnk i hi)]; exact he.same i hi⟩, k + 1, by omega, by simp, ?_⟩, by simp [ivN]; omega⟩
        rw [hds, hls]
        exact h2.add (x := h'.next + 2) (by simpa [evA, evC] using r3) b3 (by omega) hs4 (by omega)
      · have hd' : ¬ (e.t : Int) ≤ t := by omega
        rw [if_neg hd] at hds hls
        simp -dsimp (disch := omega) [g0, g1, g14, g15, g16, hf, s1, x1, hd, hd']
        refine app_row ((h2.b.alloc _).alloc _) (by simp; omega) (src_slice _ _ _ _ _ (evA e) (by simp [evA])) (by omega) (by simp [evA]) (by unfold ROOM; omega) ?_
        intro v' h3 r3 n3 b3 s3
        simp -dsimp (disch := omega) [g0, g1, g14, g15, g16]
        simp at n3 b3
        have hs4 : ∀ j, j < h'.next → sblk (s 5) ≠ some j → h3.blks j = h'.blks j := fun j hj hd => by
          rw [s3 j (by simp; omega) hd]; simp (disch := omega)
        have hnk : ∀ i, i < h.next → sblk (s 5) ≠ some i := fun i hi e => by have := (h2.b.blk i e).1; omega
        refine ⟨⟨⟨by omega, fun i hi => by rw [hs4 i (by omega) (hnk i hi)]; exact he.same i hi⟩, k + 1, by omega, by simp, ?_⟩, by simp [ivN]; omega⟩
        rw [hds, hls]
        exact (h2.swap.add (x := h'.next + 2) (by simpa [evA, evC] using r3) b3 (by omega) hs4 (by omega)).swap
    · have hkl : k = l.length := by omega
      subst hkl
      rw [List.take_length] at h2
      have hqb' : h'.blks q = some ⟨#[.slice va l.length vc], 1, true⟩ := by rw [he.same q hql]; exact hqb
      obtain ⟨wa, wc, g5⟩ := h2.b.slice
      obtain ⟨xa, xc, g4⟩ := h2.a.slice
      rw [g4, g5] at h2
      simp -dsimp (disch := omega) [g0, g1, g4, g5, g14, g15, g16, hqb']
      have hw : ∀ b, sblk (.slice wa (laterL t l).length wc) = some b → h.next ≤ b ∧ b < h'.next := h2.b.blk
      have hx : ∀ b, sblk (.slice xa (dueL t l).length xc) = some b → h.next ≤ b ∧ b < h'.next := h2.a.blk
      refine RetF.all (by simp) (hK _ _ _ ⟨by simpa using hn0, fun i hi hs => by rw [blks_set_ne _ _ _ _ hs]; exact he.same i hi⟩ ⟨by rw [blks_set_eq], (row_sl h2.b).mono fun b hb => blks_set_ne _ _ _ _ (by have := hw b hb; omega), by simp; omega, fun b hb => by have := hw b hb; simp; omega⟩ (fun b hb => .inr (hw b hb).1) (h2.a.set _ _ fun e => by have := hx _ e; omega))

end Go.Proofs.Ytcfgagpjdhhddaa
