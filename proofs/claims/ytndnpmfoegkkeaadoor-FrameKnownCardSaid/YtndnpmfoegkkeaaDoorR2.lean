/-
  The document's Frame, Count, Owned, Next.
-/
import Derived.Test.YtndnpmfoegkkeaaDoorR1
import Derived.Test.YtndnpmfoegkkeaaDoorM29
set_option linter.unusedSimpArgs false
set_option linter.unusedVariables false
set_option linter.unusedSectionVars false
namespace Go.Proofs.YtndnpmfoegkkeaaDoor
open Go Go.Mini Go.Proofs.Tryd
set_option maxRecDepth 100000

def u8V (n : Nat) : Value := .int .u8 (n : Nat)
theorem el8 {h : Hp} {f : List Nat} {v : Value} {k x : Nat} (hv : Sl h 1 f.length (f.map u8V) v) (hk : f[k]? = some x) : ∃ a c b, v = .slice (some a) f.length c ∧ h.blks a.block = some b ∧ b.cells[a.off + k]? = some (u8V x) := by
  have hlt : k < f.length := (List.getElem?_eq_some_iff.1 hk).1
  obtain ⟨h0, ⟨_, _, _, h1⟩ | ⟨a, c, b, rfl, h2, h3, h4⟩⟩ := hv
  · omega
  · refine ⟨a, c, b, rfl, h2, ?_⟩
    rw [h4 k (by omega), List.getElem?_map, hk]
    rfl
section
variable {h : Hp} {K : Value → Hp → Prop} {l : List Win}
set_option maxHeartbeats 1000000 in
theorem frame_call {v : Value} (hok : ∀ w ∈ l, w.ok) (hv : Sl h 2 l.length (winsC l) v) (hl : l.length < 9223372036854775808) (hN : sumS l ≤ 1024) (hK : ∀ h' v', Ext h h' → Row h.next h' 1 (sumS l) ((frL l).map u8V) v' → K v' h') : ACall prog 8 [v] h K := by
  refine acallF_of tb0 func8 rfl rfl mixed (by kernel_rfl) fun hwf => ?_
  have hvb := sblk_lt (hwf.args v (by simp))
  obtain ⟨va, vc, rfl⟩ := hv.slice
  obtain ⟨n, hn⟩ : ∃ n, n = l.length := ⟨_, rfl⟩
  rw [← hn]
  simp -dsimp (disch := omega)
  refine awp_loop (fun t h' => ∃ k : Nat, k ≤ n ∧ Ext h h' ∧ Row h.next h' 1 (sumS (l.take k)) ((frL (l.take k)).map u8V) (t 3) ∧ t 0 = .slice va n vc ∧ t 4 = .int .i64 k) (fun t _ => n - ivN (t 4)) ?_ ?_
  · simp -dsimp (disch := omega)
    exact ⟨0, by omega, Ext.refl _, Row.nil _ _ _, rfl⟩
  · rintro t h' ⟨k, hk, he, hrow, t0, t4⟩
    refine vcF_sound mixed (tb := tb0) _ (by kernel_rfl) ?_
    by_cases hkn : k < n
    · have hkn' : (k : Int) < n := by omega
      obtain ⟨w, hx⟩ : ∃ w, l[k]? = some w := ⟨l[k], List.getElem?_eq_getElem (by omega)⟩
      have hs := sumS_succ hx
      have hall := sumS_all l (k := k + 1)
      have hft := frL_take l hx
      obtain ⟨wo1, wo2⟩ := hok w (List.mem_of_getElem? hx)
      simp -dsimp (disch := omega) [t0, t4, hkn, hkn']
      refine awp_loop (fun t2 h2 => ∃ j : Nat, j ≤ w.s ∧ Ext h h2 ∧ Row h.next h2 1 (sumS (l.take k) + j) ((frL (l.take k) ++ List.replicate j w.g).map u8V) (t2 3) ∧ t2 0 = .slice va n vc ∧ t2 4 = .int .i64 k ∧ t2 5 = .int .i64 j) (fun t _ => w.s - ivN (t 5)) ?_ ?_
      · simp -dsimp (disch := omega) [t0, t4]
        exact ⟨0, by omega, he, by simpa using hrow, rfl⟩
      · clear hrow he t0 
        rintro t2 h2 ⟨j, hj, he, hrow, t0, t4', t5⟩
        refine vcF_sound mixed (tb := tb0) _ (by kernel_rfl) ?_
        obtain ⟨a', c', b', q1, f1, s1, x1, y1⟩ := sl_el (f := winC) (n := 2) winC_len (hv.mono fun b hb => he.same b (hvb b hb)) hx
        cases q1
        have y0 : b'.cells[a'.off + k * 2]? = some (.int .u8 w.g) := y1 0 (by omega)
        have y1 : b'.cells[a'.off + k * 2 + 1]? = some (.int .u16 w.s) := y1 1 (by omega)
        by_cases hjs : j < w.s
        · have hjs' : (j : Int) < w.s := by omega
          have hle := he.le
          simp -dsimp (disch := omega) [t0, t4', t5, hkn, hkn', f1, y0, y1, hjs, hjs', -getElem?_pos]
          refine app_row (hrow.alloc _) (by simp; omega) (src_slice _ _ _ _ _ #[u8V w.g] (by simp [u8V])) (by omega) (by simp) (by unfold ROOM; omega) fun v' h3 r1 r2 r3 r4 => ?_
          simp -dsimp (disch := omega) [t0, t4', t5]
          refine ⟨⟨j + 1, by omega, ⟨by rw [r2]; simp; omega, fun i hi => ?_⟩, ?_, by simp⟩, by simp [ivN]; omega⟩
          · rw [r4 i (by simp; omega) (fun e => by have := (hrow.blk i e).1; omega), blks_alloc_ne _ _ _ (by omega)]
            exact he.same i hi
          · rw [List.replicate_succ']
            simpa [Nat.add_assoc] using r1
        · obtain rfl : j = w.s := by omega
          simp -dsimp (disch := omega) [t0, t4', t5, hkn, hkn', f1, y1, -getElem?_pos]
          refine ⟨⟨k + 1, by omega, he, ?_, by simp⟩, by simp [ivN, t4]; omega⟩
          rw [hs, hft]
          exact hrow
    · obtain rfl : k = n := by omega
      have e1 : l.take k = l := List.take_of_length_le (by omega)
      rw [e1] at hrow
      simp -dsimp (disch := omega) [t0, t4]
      exact RetF.all (r := t 3) (by simp) (hK _ _ he hrow)
theorem count_call {f : List Nat} {v : Value} {g : Nat} (hv : Sl h 1 f.length (f.map u8V) v) (hf : f.length < 1000000) (hK : K (.int .u64 (cntL f g : Nat)) h) : ACall prog 16 [v, .int .u8 g] h K := by
  refine acallF_of tb0 func16 rfl rfl mixed (by kernel_rfl) fun hwf => ?_
  obtain ⟨va, vc, rfl⟩ := hv.slice
  obtain ⟨n, hn⟩ : ∃ n, n = f.length := ⟨_, rfl⟩
  rw [← hn]
  simp -dsimp (disch := omega)
  refine awp_loop (fun t h' => h' = h ∧ ∃ k : Nat, k ≤ n ∧ t 0 = .slice va n vc ∧ t 1 = .int .u8 g ∧ t 5 = .int .u64 (cntL (f.take k) g : Nat) ∧ t 6 = .int .i64 k) (fun t _ => n - ivN (t 6)) ?_ ?_
  · simp -dsimp (disch := omega)
    exact ⟨0, by omega, rfl, rfl⟩
  · rintro t h' ⟨rfl, k, hk, t0, t1, t5, t6⟩
    refine vcF_sound mixed (tb := tb0) _ (by kernel_rfl) ?_
    by_cases hkn : k < n
    · have hkn' : (k : Int) < n := by omega
      obtain ⟨x, hx⟩ : ∃ x, f[k]? = some x := ⟨f[k], List.getElem?_eq_getElem (by omega)⟩
      obtain ⟨a, c, b, q1, f1, y0⟩ := el8 hv hx
      cases q1
      have y0 : b.cells[a.off + k]? = some (.int .u8 x) := y0
      have hs := cntL_succ (g := g) hx
      have hc := cntL_le (f.take k) g
      rw [List.length_take] at hc
      by_cases e : x = g
      · rw [if_pos e] at hs
        have e' : (x : Int) = g := by omega
        subst e
        simp -dsimp (disch := omega) [t0, t1, t5, t6, hkn, hkn', f1, y0, -getElem?_pos]
        exact ⟨⟨k + 1, by omega, by rw [hs]; simp, by simp⟩, by simp [ivN]; omega⟩
      · rw [if_neg e, Nat.add_zero] at hs
        have e' : ¬ (x : Int) = g := by omega
        simp -dsimp (disch := omega) [t0, t1, t5, t6, hkn, hkn', f1, y0, e, e', -getElem?_pos]
        exact ⟨⟨k + 1, by omega, by rw [hs]; simp, by simp⟩, by simp [ivN]; omega⟩
    · obtain rfl : k = n := by omega
      have e1 : f.take k = f := List.take_of_length_le (by omega)
      rw [e1] at t5
      simp -dsimp (disch := omega) [t0, t1, t5, t6]
      exact RetF.same hwf (by simp [t5]) (Nat.zero_le _) (fun _ _ => rfl) hK
theorem slr {b n m : Nat} (k : IntKind) (hm : m ≤ n) : asliceRow ⟨b, 0, none⟩ 1 n (2 * n + 1) none (some (.int k m)) none = some (.slice (some ⟨b, 0, none⟩) m (2 * n + 1)) := by
  unfold asliceRow
  have e : (2 * n + 1) / 2 = n := by omega
  simp only [e, bndD_some, bndD_none]
  rw [bnd_int _ _ _ ⟨by omega, by omega⟩]
  simp only [Int.toNat_natCast]
  rw [if_pos (by omega), if_neg (by omega)]
  simp
theorem refOwned_call {f : List Nat} {v : Value} {g step M : Nat} (hr : Row M h 1 f.length (f.map u8V) v) (hf : f.length < 1000000) (hf0 : 0 < f.length) (hst : step < 18446744073709551616)
    (hK : ∀ r : Int, r = IntKind.u64.wrap (IntKind.u64.wrap ((step / f.length : Nat) * (cntL f g : Nat)) + (cntL (f.take (step % f.length)) g : Nat)) → K (.int .u64 r) h) : ACall prog 18 [v, .int .u8 g, .int .u64 step] h K := by
  refine acallF_of tb0 func18 rfl rfl mixed (by kernel_rfl) fun hwf => ?_
  obtain ⟨n, hn⟩ : ∃ n, n = f.length := ⟨_, rfl⟩
  have e1 : (step : Int) / n = (step / n : Nat) := by simp
  have e2 : (step : Int) % n = (step % n : Nat) := by simp
  have hm : step % n < n := Nat.mod_lt _ (by omega)
  have hd : step / n ≤ step := Nat.div_le_self _ _
  rw [← hn] at hK
  have hv := row_sl hr
  obtain ⟨_, ⟨_, h0⟩ | ⟨b, _, _, rfl, hb⟩⟩ := hr
  · omega
  have hv2 : Sl h 1 (f.take (step % n)).length ((f.take (step % n)).map u8V) (.slice (some ⟨b, 0, none⟩) (step % n) (2 * n + 1)) := by
    have e : (f.take (step % n)).length = step % n := by rw [List.length_take]; omega
    rw [e]
    refine ⟨by simp; omega, .inr ⟨_, _, _, rfl, hb, by simp; omega, fun j hj => ?_⟩⟩
    simp only [Nat.zero_add, List.getElem?_toArray]
    rw [List.map_take, List.getElem?_take, if_pos (by omega)]
  have hl2 : (f.take (step % n)).length < 1000000 := by rw [List.length_take]; omega
  rw [← hn] at hv ⊢
  generalize step % n = m at *
  generalize step / n = d at *
  have e1' : Int.tdiv (step : Int) n = d := by rw [Int.tdiv_eq_ediv_of_nonneg (by omega)]; exact e1
  have e2' : Int.tmod (step : Int) n = m := by rw [Int.tmod_eq_emod_of_nonneg (by omega)]; exact e2
  have sl := slr (b := b) .u64 (Nat.le_of_lt hm)
  simp -dsimp (disch := omega) [e1, e1', e2, e2']
  refine count_call (f := f) (by rw [← hn]; exact hv) hf ?_
  simp -dsimp (disch := omega) [e1, e1', e2, e2', sl]
  refine count_call (f := f.take m) ?_ hl2 ?_
  · have e : (f.take m).length = m := by rw [List.length_take]; omega
    rw [e] at hv2 ⊢
    exact hv2
  have hK := hK _ rfl
  generalize cntL f g = c1 at *
  generalize cntL (f.take m) g = c2 at *
  simp -dsimp (disch := omega)
  exact RetF.same (r := .int .u64 _) hwf (by simp) (Nat.zero_le _) (fun _ _ => rfl) hK
theorem refNext_call {f : List Nat} {v : Value} {g step : Nat} {R : Nat × Bool} (hv : Sl h 1 f.length (f.map u8V) v) (hf : f.length < 1000000) (hf0 : 0 < f.length) (hst : step < 18446744073709551616)
    (hA : ∀ k, k < f.length → (∀ m, m < k → ∀ x, f[(step + m) % f.length]? = some x → x ≠ g) → 18446744073709551616 ≤ step + k → R = (0, false))
    (hB : ∀ k, k < f.length → (∀ m, m < k → ∀ x, f[(step + m) % f.length]? = some x → x ≠ g) → f[(step + k) % f.length]? = some g → step + k < 18446744073709551616 → R = (step + k, true))
    (hC : (∀ m, m < f.length → ∀ x, f[(step + m) % f.length]? = some x → x ≠ g) → R = (0, false)) (hK : K (.tuple #[.int .u64 (R.1 : Nat), .bool R.2]) h) : ACall prog 13 [v, .int .u8 g, .int .u64 step] h K := by
  refine acallF_of tb0 func13 rfl rfl mixed (by kernel_rfl) fun hwf => ?_
  obtain ⟨va, vc, rfl⟩ := hv.slice
  obtain ⟨n, hn⟩ : ∃ n, n = f.length := ⟨_, rfl⟩
  rw [← hn] at hA hB hC ⊢
  simp -dsimp (disch := omega)
  refine awp_loop (fun t h' => h' = h ∧ ∃ k : Nat, k ≤ n ∧ t 0 = .slice va n vc ∧ t 1 = .int .u8 g ∧ t 2 = .int .u64 step ∧ t 8 = .int .u64 n ∧ t 9 = .int .u64 k ∧ ∀ m, m < k → ∀ x, f[(step + m) % n]? = some x → x ≠ g) (fun t _ => n - ivN (t 9)) ?_ ?_
  · simp -dsimp (disch := omega)
    exact ⟨0, by omega, rfl, fun m hm => by omega⟩
  · rintro t h' ⟨rfl, k, hk, t0, t1, t2, t8, t9, hlt⟩
    refine vcF_sound mixed (tb := tb0) _ (by kernel_rfl) ?_
    by_cases hkn : k < n
    · have hkn' : (k : Int) < n := by omega
      by_cases ho : 18446744073709551616 ≤ step + k
      · have ho' : (18446744073709551615 : Int) - step < k := by omega
        obtain rfl := hA k hkn hlt ho
        simp -dsimp (disch := omega) [t0, t1, t2, t8, t9, hkn, hkn', ho']
        exact RetF.same (r := .tuple #[.int .u64 0, .bool false]) hwf (by simp) (Nat.zero_le _) (fun _ _ => rfl) hK
      · have ho' : ¬ (18446744073709551615 : Int) - step < k := by omega
        obtain ⟨s, hs⟩ : ∃ s, s = step % n := ⟨_, rfl⟩
        have es : (step : Int) % n = s := by rw [hs]; simp
        have es' : Int.tmod (step : Int) n = s := by rw [Int.tmod_eq_emod_of_nonneg (by omega)]; exact es
        have hsn : s < n := by rw [hs]; exact Nat.mod_lt _ (by omega)
        obtain ⟨j, hj⟩ : ∃ j, j = (step + k) % n := ⟨_, rfl⟩
        have hjn : j < n := by rw [hj]; exact Nat.mod_lt _ (by omega)
        have ej : ((s : Int) + k) % n = j := by
          rw [hj, ← Nat.mod_add_mod, ← hs]; simp
        have ej' : Int.tmod ((s : Int) + k) n = j := by rw [Int.tmod_eq_emod_of_nonneg (by omega)]; exact ej
        obtain ⟨x, hx⟩ : ∃ x, f[j]? = some x := ⟨f[j], List.getElem?_eq_getElem (by omega)⟩
        obtain ⟨a, c, b, q1, f1, y0⟩ := el8 hv hx
        cases q1
        have y0 : b.cells[a.off + j]? = some (.int .u8 x) := y0
        by_cases e : x = g
        · subst e
          obtain rfl := hB k hkn hlt (by rw [← hj]; exact hx) (by omega)
          simp -dsimp (disch := omega) [t0, t1, t2, t8, t9, hkn, hkn', ho', es, es', ej, ej', f1, y0, -getElem?_pos]
          refine RetF.same (r := .tuple #[.int .u64 ((step : Int) + k), .bool true]) hwf (by simp) (Nat.zero_le _) (fun _ _ => rfl) ?_
          simpa using hK
        · have e' : ¬ (x : Int) = g := by omega
          simp -dsimp (disch := omega) [t0, t1, t2, t8, t9, hkn, hkn', ho', es, es', ej, ej', f1, y0, e, e', -getElem?_pos]
          refine ⟨⟨k + 1, by omega, by simp, fun m hm y hy => ?_⟩, by simp [ivN]; omega⟩
          rcases Nat.lt_or_ge m k with h2 | h2
          · exact hlt m h2 y hy
          · obtain rfl : m = k := by omega
            rw [← hj, hx] at hy
            rw [← Option.some.inj hy]; exact e
    · obtain rfl : k = n := by omega
      obtain rfl := hC hlt
      simp -dsimp (disch := omega) [t0, t1, t2, t8, t9]
      exact RetF.same (r := .tuple #[.int .u64 0, .bool false]) hwf (by simp) (Nat.zero_le _) (fun _ _ => rfl) hK
end
end Go.Proofs.YtndnpmfoegkkeaaDoor
