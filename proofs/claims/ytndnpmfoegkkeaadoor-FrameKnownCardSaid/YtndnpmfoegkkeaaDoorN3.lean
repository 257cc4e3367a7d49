/-
  New: a table.
-/
import Derived.Test.YtndnpmfoegkkeaaDoorN2
set_option linter.unusedSimpArgs false
set_option linter.unusedVariables false
set_option linter.unusedSectionVars false
namespace Go.Proofs.YtndnpmfoegkkeaaDoor
open Go Go.Mini Go.Proofs.Tryd
set_option maxRecDepth 100000

theorem row_sl {m : Nat} {h : Hp} {esz n : Nat} {cs : List Value} {v : Value} (hr : Row m h esz n cs v) : Sl h esz n cs v := by
  obtain ⟨h0, ⟨rfl, rfl⟩ | ⟨b, h1, h2, rfl, h3⟩⟩ := hr
  · exact ⟨h0, .inl ⟨_, _, rfl, rfl⟩⟩
  · exact ⟨h0, .inr ⟨_, _, _, rfl, h3, by simp [h0], fun j _ => by simp⟩⟩
/-- Appending to a full one: what comes is a row of one's own. -/
theorem app_new {h : Hp} {esz bytes b0 n m : Nat} {cs : Array Value} {x : Value} {k : Nat} {new : Array Value} {K : Value → Hp → Prop} {u : Tag K} {e0 : Nat} {ow : Bool} (hb : h.blks b0 = some ⟨cs, e0, ow⟩) (hcs : cs.size = n * esz) (hm : m ≤ h.next) (hx : srcCells h esz x = some (k, new)) (hk : 0 < k) (hsz : new.size = k * esz) (room : (n + k) * bytes ≤ ROOM ∧ n + k ≤ ROOM)
    (hK : ∀ v' h', Row m h' esz (n + k) (cs.toList ++ new.toList) v' → h'.next = h.next + 1 → sblk v' = some h.next → (∀ i, i < h.next → h'.blks i = h.blks i) → K v' h') : OptF (aappend h esz bytes (.slice (some ⟨b0, 0, none⟩) n (2 * n)) x) K u := by
  have hr0 : Mini.rowAt h ⟨b0, 0, none⟩ (n * esz) = some cs := by
    unfold Mini.rowAt
    rw [hb]
    simp only
    rw [if_pos (by rw [Nat.zero_add, hcs]; exact Nat.le_refl _)]
    simp [← hcs]
  unfold aappend
  simp only [hx]
  rw [if_neg (by omega), if_pos (by omega), hr0]
  simp only
  unfold agrown
  rw [if_pos room]
  refine hK _ _ ⟨by simp [hcs, hsz, Nat.add_mul], .inr ⟨h.next, hm, by simp, by simp, by rw [blks_alloc_eq]; simp⟩⟩ rfl rfl (fun i hi => blks_alloc_ne _ _ _ (by omega))
/-- Appending to one that is full, or that is one's own. -/
theorem app_one {h : Hp} {esz bytes b0 n m c : Nat} {cs : Array Value} {x : Value} {k : Nat} {new : Array Value} {K : Value → Hp → Prop} {u : Tag K} (hb : h.blks b0 = some ⟨cs, esz, true⟩) (hc : c = 2 * n ∨ c = 2 * n + 1) (hlt : b0 < h.next) (hcs : cs.size = n * esz) (hm : m ≤ h.next) (hx : srcCells h esz x = some (k, new)) (hk : 0 < k) (hsz : new.size = k * esz) (room : (n + k) * bytes ≤ ROOM ∧ n + k ≤ ROOM)
    (hK : ∀ v' h', Row m h' esz (n + k) (cs.toList ++ new.toList) v' → h'.next = h.next + 1 → sblk v' = some h.next → (∀ i, i < h.next → i ≠ b0 → h'.blks i = h.blks i) → K v' h') : OptF (aappend h esz bytes (.slice (some ⟨b0, 0, none⟩) n c) x) K u := by
  rcases hc with rfl | rfl
  · exact app_new hb hcs hm hx hk hsz room fun v' h' r1 r2 r3 r4 => hK v' h' r1 r2 r3 fun i hi _ => r4 i hi
  · have hr : Row 0 h esz n cs.toList (.slice (some ⟨b0, 0, none⟩) n (2 * n + 1)) := ⟨by simpa using hcs, .inr ⟨b0, Nat.zero_le _, hlt, rfl, by simpa using hb⟩⟩
    refine app_row hr (Nat.zero_le _) hx hk hsz room fun v' h' r1 r2 r3 r4 => hK v' h' ?_ r2 r3 fun i hi hn => r4 i hi (by simp [sblk]; omega)
    obtain ⟨r0, ⟨rfl, z⟩ | ⟨b, y1, y2, rfl, y3⟩⟩ := r1
    · omega
    · have : b = h.next := by simpa [sblk] using r3
      exact ⟨r0, .inr ⟨b, by omega, y2, rfl, y3⟩⟩

theorem app_w {H : Hp} {esz bytes m k n : Nat} {cs : List Value} {vl x : Value} {new : Array Value} {K : Value → Hp → Prop} {u : Tag K} (hP : (vl = .slice none 0 0 ∧ k = 0) ∨ ∃ bl, vl = .slice (some ⟨bl, 0, none⟩) k (2 * k) ∧ H.blks bl = some ⟨cs.toArray, esz, true⟩) (hcs : cs.length = k * esz) (hm : m ≤ H.next) (hx : srcCells H esz x = some (n, new)) (hn : 0 < n) (hsz : new.size = n * esz) (room : (k + n) * bytes ≤ ROOM ∧ k + n ≤ ROOM)
    (hK : ∀ v' h', Row m h' esz (k + n) (cs ++ new.toList) v' → h'.next = H.next + 1 → sblk v' = some H.next → (∀ i, i < H.next → h'.blks i = H.blks i) → K v' h') : OptF (aappend H esz bytes vl x) K u := by
  rcases hP with ⟨rfl, rfl⟩ | ⟨bl, rfl, hb⟩
  · have : cs = [] := List.length_eq_zero_iff.1 (by omega)
    subst this
    exact app_row (Row.nil m H esz) hm hx hn hsz room fun v' h' r1 r2 r3 r4 => hK v' h' r1 r2 r3 fun i hi => r4 i hi (by simp [sblk])
  · exact app_new hb (by simpa using hcs) hm hx hn hsz room fun v' h' r1 r2 r3 r4 => hK v' h' (by simpa using r1) r2 r3 r4

def sumS (l : List Win) : Nat := (l.map (·.s)).sum
def begK (l : List Win) (k : Nat) : List Value := (List.range (k + 1)).map fun i => .int .u64 (sumS (l.take i))
theorem begK_succ (l : List Win) (k : Nat) : begK l (k + 1) = begK l k ++ [.int .u64 (sumS (l.take (k + 1)))] := by
  unfold begK; rw [List.range_succ, List.map_append]; rfl
theorem begK_len (l : List Win) (k : Nat) : (begK l k).length = k + 1 := by simp [begK]
theorem begK_at (l : List Win) {k i : Nat} (h : i ≤ k) : (begK l k)[i]? = some (.int .u64 (sumS (l.take i))) := by
  unfold begK
  rw [List.getElem?_map, List.getElem?_range (by omega)]
  rfl
theorem sumS_succ {l : List Win} {k : Nat} {w : Win} (hx : l[k]? = some w) : sumS (l.take (k + 1)) = sumS (l.take k) + w.s := by
  have e : l.take (k + 1) = l.take k ++ [w] := by rw [List.take_add_one, hx]; rfl
  rw [e]; simp [sumS]
theorem winsC_succ {l : List Win} {k : Nat} {w : Win} (hx : l[k]? = some w) : winsC (l.take (k + 1)) = winsC (l.take k) ++ winC w := by
  have e : l.take (k + 1) = l.take k ++ [w] := by rw [List.take_add_one, hx]; rfl
  rw [e]; simp [winsC]
theorem winsC_len (l : List Win) : (winsC l).length = 2 * l.length := by
  induction l with
  | nil => rfl
  | cons w l ih => rw [winsC, List.flatMap_cons, List.length_append, ← winsC, ih, winC_len, List.length_cons]; omega
theorem sumS_le {l : List Win} (hok : ∀ w ∈ l, w.ok) : ∀ k, sumS (l.take k) ≤ 65536 * k := by
  intro k
  induction k with
  | zero => simp [sumS]
  | succ k ih =>
    cases hx : l[k]? with
    | none =>
      have : l.length ≤ k := List.getElem?_eq_none_iff.1 hx
      rw [List.take_of_length_le (by omega)] at ih ⊢
      omega
    | some w =>
      rw [sumS_succ hx]
      have := (hok w (List.mem_of_getElem? hx)).2
      omega

/-- A table of these windows. -/
def Tab (h : Hp) (p : Nat) (l : List Win) : Prop :=
  ∃ vl vb, h.blks p = some ⟨#[vl, vb], 1, true⟩ ∧ Sl h 2 l.length (winsC l) vl ∧ Sl h 1 (l.length + 1) (begK l l.length) vb ∧ p < h.next ∧ (∀ b, sblk vl = some b → b < h.next) ∧ (∀ b, sblk vb = some b → b < h.next)
theorem Tab.mono {h h' : Hp} {p : Nat} {l : List Win} (t : Tab h p l) (e : Ext h h') : Tab h' p l := by
  obtain ⟨vl, vb, t1, t2, t3, t4, t5, t6⟩ := t
  have := e.le
  exact ⟨vl, vb, by rw [e.same _ t4]; exact t1, t2.mono fun b hb => e.same _ (t5 b hb), t3.mono fun b hb => e.same _ (t6 b hb), by omega, fun b hb => by have := t5 b hb; omega, fun b hb => by have := t6 b hb; omega⟩
section
variable {h : Hp} {K : Value → Hp → Prop}
set_option maxHeartbeats 1000000 in
theorem new_call {l : List Win} {v : Value} {gs : Int} (hok : ∀ w ∈ l, w.ok) (hv : Sl h 2 l.length (winsC l) v) (hl : l.length < 9223372036854775808) (k0 : checkW l gs ≠ 0 → K (.tuple #[.pointer none, .int .i64 (checkW l gs)]) h)
    (k1 : checkW l gs = 0 → l.length ≤ 32 → ∀ h' p, Ext h h' → h.next ≤ p → Tab h' p l → K (.tuple #[ptr p, .int .i64 0]) h') : ACall prog 7 [v, .int .i64 gs] h K := by
  refine acallF_of tb0 func7 rfl rfl mixed (by kernel_rfl) fun hwf => ?_
  have hvb := sblk_lt (hwf.args v (by simp))
  obtain ⟨va, vc, rfl⟩ := hv.slice
  simp -dsimp (disch := omega)
  refine check_call hok hv hl ?_
  by_cases hc0 : checkW l gs = 0
  · have k1 := k1 hc0
    have hl32 : l.length ≤ 32 := by
      unfold checkW at hc0
      split at hc0
      · omega
      · split at hc0
        · omega
        · split at hc0
          · omega
          · omega
    have k1 := k1 hl32
    rw [hc0]
    obtain ⟨n, hn⟩ : ∃ n, n = l.length := ⟨_, rfl⟩
    simp -dsimp (disch := omega) [← hn]
    refine awp_loop (fun t h' => h.next + 2 ≤ h'.next ∧ (∀ i, i < h.next → h'.blks i = h.blks i) ∧ ∃ (k : Nat) (vl : Value) (bb cb : Nat), k ≤ n ∧ t 7 = ptr (h.next + 1) ∧ t 19 = .slice va n vc ∧ t 20 = .int .i64 n ∧ t 21 = .int .i64 k ∧ h'.blks (h.next + 1) = some ⟨#[vl, .slice (some ⟨bb, 0, none⟩) (k + 1) cb], 1, true⟩ ∧ Row (h.next + 2) h' 2 k (winsC (l.take k)) vl ∧
      h'.blks bb = some ⟨(begK l k).toArray, 1, true⟩ ∧ (cb = 2 * (k + 1) ∨ cb = 2 * (k + 1) + 1) ∧ bb ≠ h.next + 1 ∧ h.next ≤ bb ∧ bb < h'.next ∧ sblk vl ≠ some bb ∧ (k = 0 → vl = .slice none 0 0)) (fun t _ => n - ivN (t 21)) ?_ ?_
    · simp -dsimp (disch := omega)
      exact ⟨fun i hi => by rw [if_neg (by omega), if_neg (by omega)], 0, by omega, rfl, _, _, _, ⟨rfl, rfl, rfl, rfl⟩, Row.nil _ _ _, by rw [if_neg (by omega), if_pos rfl]; simp [begK, sumS], by omega, by omega, by omega, by omega, by simp [sblk], fun _ => rfl⟩
    · rintro t h' ⟨hn1, hs, k, vl, bb, cb, hk, g7, g19, g20, g21, hp, hrow, hbb, hcb, bb1, bb2, bb3, hvl, hv0⟩
      refine vcF_sound mixed (tb := tb0) _ (by kernel_rfl) ?_
      simp -dsimp (disch := omega) [g19, g20, g21]
      refine CondF_dec (fun hc => ?_) (fun hc => ?_)
      · have hkl : k < l.length := by omega
        obtain ⟨w, hx⟩ : ∃ w, l[k]? = some w := ⟨l[k], List.getElem?_eq_getElem hkl⟩
        obtain ⟨a', c, b', q2, fa, s1, x1, y1⟩ := sl_el (f := winC) (n := 2) winC_len hv hx
        cases q2
        have hab : a'.block < h.next := hvb _ rfl
        rw [← hs _ hab] at fa
        have wo := hok w (List.mem_of_getElem? hx)
        have hwc := winsC_succ hx
        have hbc := begK_succ l k
        have hsc := sumS_succ hx
        have hsl := sumS_le hok k
        have hba := begK_at l (Nat.le_refl k)
        have x1' : b'.cells.extract (a'.off + k * 2) (a'.off + k * 2 + 2) = #[.int .u8 w.g, .int .u16 w.s] := x1
        clear x1 y1
        have hwl := winsC_len (l.take k)
        rw [List.length_take, Nat.min_eq_left (by omega)] at hwl
        obtain ⟨vl', hsl', hP⟩ : ∃ vl', aslice prog 22 vl none (some (.int .i64 k)) (some (.int .i64 k)) = some vl' ∧ ((vl' = .slice none 0 0 ∧ k = 0) ∨ ∃ bl, vl' = .slice (some ⟨bl, 0, none⟩) k (2 * k) ∧ h'.blks bl = some ⟨(winsC (l.take k)).toArray, 2, true⟩ ∧ bl < h'.next) := by
          obtain ⟨r0, ⟨rfl, z⟩ | ⟨bl, y1, y2, rfl, y3⟩⟩ := hrow
          · subst z
            exact ⟨.slice none 0 0, by kernel_rfl, .inl ⟨rfl, rfl⟩⟩
          · rcases Nat.eq_zero_or_pos k with rfl | hk0
            · cases hv0 rfl
            · refine ⟨_, ?_, .inr ⟨bl, rfl, y3, y2⟩⟩
              have hsr : asliceRow ⟨bl, 0, none⟩ 2 k (2 * k + 1) none (some (.int .i64 k)) (some (.int .i64 k)) = some (.slice (some ⟨bl, 0, none⟩) k (2 * k)) := by
                have b1 : bnd (.int .i64 k) ((2 * k + 1) / 2) = some k := by simp [bnd]; omega
                have b2 : bnd (.int .i64 k) k = some k := by simp [bnd]
                unfold asliceRow
                simp only [b1, b2]
                simp [bndD]
              simp [hsr]
        obtain ⟨g, s⟩ := w
        obtain ⟨wo1, wo2⟩ := wo
        simp only at x1' hsc wo1 wo2
        simp -dsimp (disch := omega) [g7, g19, g20, g21, fa, s1, x1', hp, hsl']
        refine app_w (m := h.next + 2) (k := k) (cs := winsC (l.take k)) (new := #[.int .u8 g, .int .u16 s]) ?_ (by omega) (by simp; omega) (src_slice _ _ _ _ _ #[.int .u8 g, .int .u16 s] (by simp (disch := omega))) (by omega) (by simp) (by unfold ROOM; omega) ?_
        · rcases hP with hP | ⟨bl, e1, e2, e3⟩
          · exact .inl hP
          · exact .inr ⟨bl, e1, by simp (disch := omega) [e2]⟩
        intro v1 h1 r1 r2 r3 r4
        have r2' : h1.next = h'.next + 3 := by rw [r2]; simp
        obtain ⟨va1, vc1, rfl⟩ := r1.slice
        have hp1 : h1.blks (h.next + 1) = some ⟨#[vl, .slice (some ⟨bb, 0, none⟩) (k + 1) cb], 1, true⟩ := by rw [r4 _ (by simp; omega)]; simp (disch := omega) [hp]
        have hbb1 : h1.blks bb = some ⟨(begK l k).toArray, 1, true⟩ := by rw [r4 _ (by simp; omega)]; simp (disch := omega) [hbb]
        have hw1 : h1.blks h'.next = some ⟨#[.int .u8 g, .int .u16 s], 1, true⟩ := by rw [r4 _ (by simp; omega)]; simp (disch := omega)
        have hs1 : ∀ i, i < h.next → h1.blks i = h.blks i := fun i hi => by rw [r4 _ (by simp; omega)]; simp (disch := omega) [hs i hi]
        have hbz : (begK l k).toArray.size = k + 1 := by simp [begK_len]
        have hba' : (begK l k).toArray[k]? = some (.int .u64 (sumS (l.take k))) := by rw [List.getElem?_toArray]; exact hba
        have hBl : (begK l k).toArray.toList = begK l k := rfl
        obtain ⟨BA, hBA⟩ : ∃ BA, BA = (begK l k).toArray := ⟨_, rfl⟩
        rw [← hBA] at hbb1 hbz hba' hBl
        have hkz : k < BA.size := by omega
        simp -dsimp (disch := omega) [g7, g19, g20, g21, hp1, hbb1, hw1, hba', hbz, hkz, -getElem?_pos]
        refine app_one (n := k + 1) (m := h.next + 2) (b0 := bb) (cs := BA) (new := #[.int .u64 (sumS (l.take k) + s : Nat)]) (by simp (disch := omega) [hbb1]) hcb (by simp; omega) (by omega) (by simp; omega) (src_slice _ _ _ _ _ _ (by simp (disch := omega))) (by omega) (by simp) (by unfold ROOM; omega) ?_
        intro v2 h2 z1 z2 z3 z4
        have z2' : h2.next = h1.next + 2 := by rw [z2]; simp
        have hp2 : h2.blks (h.next + 1) = some ⟨#[.slice va1 (k + 1) vc1, .slice (some ⟨bb, 0, none⟩) (k + 1) cb], 1, true⟩ := by rw [z4 _ (by simp; omega) (by omega)]; simp (disch := omega)
        have hr2 : Row (h.next + 2) h2 2 (k + 1) (winsC (l.take (k + 1))) (.slice va1 (k + 1) vc1) := by
          rw [hwc]
          refine r1.mono (by omega) fun x hx => ?_
          have e : x = h'.next + 2 := by rw [r3] at hx; simp at hx; omega
          rw [z4 x (by simp; omega) (by omega)]
          simp (disch := omega)
        obtain ⟨y0, ⟨_, y⟩ | ⟨b2, y1, y2, rfl, y3⟩⟩ := z1
        · omega
        have hb2 : b2 = h1.next + 1 := by simpa [sblk] using z3
        have hvn : sblk (.slice va1 (k + 1) vc1) ≠ some b2 := fun e => by have := (r1.blk _ e).2; omega
        rw [hBl] at y3
        simp -dsimp (disch := omega) [g7, g19, g20, g21, hp2]
        refine ⟨⟨by omega, fun i hi => ?_, k + 1, by omega, by simp, _, _, _, ⟨rfl, rfl, rfl, rfl⟩, hr2.set _ _ (fun e => by have := (hr2.blk _ e).1; omega), ?_, by omega, by omega, by omega, by omega, hvn, by omega⟩, by simp [ivN]; omega⟩
        · rw [if_neg (by omega), z4 i (by simp; omega) (by omega)]
          simp (disch := omega) [hs1 i hi]
        · rw [if_neg (by omega), y3, hbc, hsc]
      · have hkn : k = n := by omega
        subst hkn
        simp -dsimp (disch := omega) [g7, g19, g20, g21]
        rw [hn, List.take_length] at hrow
        rw [hn] at hp hbb
        refine RetF.all (by simp [g7]) (k1 h' (h.next + 1) ⟨by omega, hs⟩ (by omega) ⟨_, _, hp, row_sl hrow, ⟨by rw [begK_len, Nat.mul_one], .inr ⟨_, _, _, rfl, hbb, by simp [begK_len], fun j hj => by simp⟩⟩, by omega, fun b hb => (hrow.blk b hb).2, fun b hb => by simp [sblk] at hb; omega⟩)
  · have k0 := k0 hc0
    have hc0' : ¬ (checkW l gs : Int) = 0 := by omega
    simp -dsimp (disch := omega) [hc0, hc0']
    exact RetF.same hwf (by simp) (Nat.zero_le _) (fun _ _ => rfl) k0
end
end Go.Proofs.YtndnpmfoegkkeaaDoor
