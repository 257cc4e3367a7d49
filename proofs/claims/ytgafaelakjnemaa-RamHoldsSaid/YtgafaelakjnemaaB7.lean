/-
  RamHolds.
-/
import Derived.Test.YtgafaelakjnemaaB6
import Derived.Test.YtgafaelakjnemaaM22
set_option linter.unusedSimpArgs false
set_option linter.unusedVariables false
namespace Go.Proofs.Ytgafaelakjnemaa
open Go Go.Mini Go.Proofs.Try

theorem Own.alloc {h0 h : Hp} {p b N : Nat} {M : Nat → Nat} {a : Nat} {w : Int} (r : Own h0 h p b N M a w) (c : Blk) : Own h0 (h.alloc c) p b N M a w :=
  ⟨r.ram.mono (by simp) (blks_alloc_ne _ _ _ (by have := r.ram.plt; omega)) (blks_alloc_ne _ _ _ (by have := r.ram.blt; omega)), r.ext.then_alloc _, r.pn, r.bn⟩
def heldB (q : Nat) (g : Int) (a : Nat) (w : Int) : Bool := decide (g ≠ 0 ∧ a = q ∧ w = g)
def hits (q x n : Nat) : Prop := 0 < n ∧ x / 8 ≤ q / 8 ∧ q / 8 ≤ (x + n - 1) / 8
instance (q x n : Nat) : Decidable (hits q x n) := by unfold hits; infer_instance
theorem heldB_to (q : Nat) (g : Int) (a : Nat) (w : Int) (x n : Nat) : heldB q g (toA a x n) (toW a w x n) = if hits q x n then false else heldB q g a w := by
  unfold heldB toA toW
  by_cases h1 : 0 < n ∧ x < a / 8 * 8 + 8 ∧ a / 8 * 8 < x + n
  · rw [if_pos h1, if_pos h1, decide_eq_false (by omega)]
    by_cases h2 : hits q x n
    · rw [if_pos h2]
    · rw [if_neg h2, eq_comm, decide_eq_false_iff_not]
      unfold hits at h2
      rintro ⟨_, rfl, _⟩
      omega
  · rw [if_neg h1, if_neg h1]
    by_cases h2 : hits q x n
    · rw [if_pos h2, decide_eq_false_iff_not]
      unfold hits at h2
      rintro ⟨_, rfl, _⟩
      omega
    · rw [if_neg h2]
theorem cok_law (q : Nat) (g : Int) : decide (cok 4096 q g) = decide ((g = 4 ∨ g = 8) ∧ q < 4096 ∧ q % g.toNat = 0) := by
  rw [decide_eq_decide]
  unfold cok
  constructor
  · rintro ⟨rfl | rfl, h1, h2⟩ <;> exact ⟨by omega, by simp at h1 h2 ⊢; omega, h2⟩
  · rintro ⟨rfl | rfl, h1, h2⟩ <;> exact ⟨by omega, by simp at h1 h2 ⊢; omega, h2⟩

set_option maxHeartbeats 4000000 in
theorem ramHolds_loop {Q : APost} {h h2 : Hp} {q : Nat} {g : Int} {l : List Act} {va : Option Addr} {vc p b : Nat} {t : Tm} (hq : q < 18446744073709551616) (hok : ∀ e ∈ l, e.ok) (hl : l.length < 9223372036854775808) (hv : Sl h 5 l.length (actsC l) (.slice va l.length vc)) (hvb : ∀ b, sblk (.slice va l.length vc) = some b → b < h.next)
    (h0 : ∃ M a w, Own h h2 p b 4096 M a w ∧ t 8 = .bool (heldB q g a w)) (g0 : t 0 = .int .u64 q) (g1 : t 1 = .int .i64 g) (g2 : t 2 = .slice va l.length vc) (g7 : t 7 = ptr p) (g9 : t 9 = .int .i64 0)
    (hQ : ∀ t h' M a w, Own h h' p b 4096 M a w → t 0 = .int .u64 q → t 1 = .int .i64 g → t 7 = ptr p → t 8 = .bool (heldB q g a w) → apQ Q (.exit 0) t h' (.mk _)) : Awp prog f3.ntmps (.loop (loopC (blkC (sndC (fstC (sndC (sndC (sndC (sndC (sndC (bodyC f3))))))))))) Q t h2 := by
  obtain ⟨n, hn⟩ : ∃ n, n = l.length := ⟨_, rfl⟩
  rw [← hn] at g2
  refine awp_loop (fun t h' => ∃ k M a w, k ≤ n ∧ Own h h' p b 4096 M a w ∧ t 8 = .bool (heldB q g a w) ∧ t 0 = .int .u64 q ∧ t 1 = .int .i64 g ∧ t 2 = .slice va n vc ∧ t 7 = ptr p ∧ t 9 = .int .i64 (k : Nat)) (fun t _ => n - ivN (t 9)) ?_ ?_
  · obtain ⟨M, a, w, r, g8⟩ := h0
    exact ⟨0, M, a, w, by omega, r, g8, g0, g1, g2, g7, g9⟩
  · clear h0 g0 g1 g2 g7 g9
    rintro t h' ⟨k, M, a, w, hk, r, g8, g0, g1, g2, g7, g9⟩
    have e : loopC (blkC (sndC (fstC (sndC (sndC (sndC (sndC (sndC (bodyC f3))))))))) = loopC (blkC (sndC (fstC (sndC (sndC (sndC (sndC (sndC (bodyC f3))))))))) := rfl
    conv at e => rhs; whnf
    rw [e]
    clear e
    refine vcF_sound mixed (tb := tb0) _ (by kernel_rfl) ?_
    by_cases hc1 : k < n
    · have hkl : k < l.length := hn ▸ hc1
      obtain ⟨e, hx⟩ : ∃ e, l[k]? = some e := ⟨l[k], List.getElem?_eq_getElem hkl⟩
      obtain ⟨a', c, b', q1, f1, s1, x1, y1⟩ := sl_el (f := actC) (n := 5) actC_len (hv.mono fun b hb => r.ext.same b (hvb b hb)) hx
      cases q1
      obtain ⟨o1, o2, o3, o4, o5⟩ := hok e (List.mem_of_getElem? hx)
      obtain ⟨ew, ex, ev, en, es⟩ := e
      simp only at o1 o2 o3 o4 o5
      have x1' : b'.cells.extract (a'.off + k * 5) (a'.off + k * 5 + 5) = #[.int .u8 ew, .int .u64 ex, .int .u64 ev, .int .i64 en, .string (txt es)] := x1
      clear x1 y1
      obtain ⟨H, hH⟩ : ∃ H, H = h'.alloc ⟨#[.int .u8 ew, .int .u64 ex, .int .u64 ev, .int .i64 en, .string (txt es)], 1, true⟩ := ⟨_, rfl⟩
      have r2 : Own h H p b 4096 M a w := by rw [hH]; exact r.alloc _
      have hB : H.blks h'.next = some ⟨#[.int .u8 ew, .int .u64 ex, .int .u64 ev, .int .i64 en, .string (txt es)], 1, true⟩ := by rw [hH]; exact blks_alloc_eq _ _
      obtain ⟨c, hcd⟩ : ∃ c, c = ew % 10 := ⟨_, rfl⟩
      have hci : (ew : Int) % 10 = c := by omega
      have hc10 : c < 10 := by omega
      have hpn : ¬ h'.next = p := by have := r.ram.plt; omega
      have hbn : ¬ h'.next = b := by have := r.ram.blt; omega
      rcases (by omega : c = 0 ∨ c = 1 ∨ c = 2 ∨ c = 3 ∨ c = 4 ∨ c = 5 ∨ c = 6 ∨ c = 7 ∨ c = 8 ∨ c = 9) with h | h | h | h | h | h | h | h | h | h
      · have hci : (ew : Int) % 10 = 0 := by omega
        simp -dsimp (disch := omega) [g0, g1, g2, g7, g8, g9, hc1, f1, s1, x1', ← hH, hB, hci]
        refine read_call r2.ram o2 (fun hcc => ?_) (fun hcc => ?_)
        · simp -dsimp (disch := omega) [g0, g1, g2, g7, g8, g9, hB]
          refine held_call r2.ram ?_
          rw [show decide (g ≠ 0 ∧ a = q ∧ w = g) = heldB q g a w from rfl]
          simp -dsimp (disch := omega) [g0, g1, g2, g7, g8, g9, hB]
          exact ⟨⟨k + 1, by omega, _, _, _, r2, rfl, by simp⟩, by simp [ivN]; omega⟩
        · simp -dsimp (disch := omega) [g0, g1, g2, g7, g8, g9, hB]
          refine held_call r2.ram ?_
          rw [show decide (g ≠ 0 ∧ a = q ∧ w = g) = heldB q g a w from rfl]
          simp -dsimp (disch := omega) [g0, g1, g2, g7, g8, g9, hB]
          exact ⟨⟨k + 1, by omega, _, _, _, r2, rfl, by simp⟩, by simp [ivN]; omega⟩
      · have hci : (ew : Int) % 10 = 1 := by omega
        simp -dsimp (disch := omega) [g0, g1, g2, g7, g8, g9, hc1, f1, s1, x1', ← hH, hB, hci]
        refine read_call r2.ram o2 (fun hcc => ?_) (fun hcc => ?_)
        · simp -dsimp (disch := omega) [g0, g1, g2, g7, g8, g9, hB]
          refine held_call r2.ram ?_
          rw [show decide (g ≠ 0 ∧ a = q ∧ w = g) = heldB q g a w from rfl]
          simp -dsimp (disch := omega) [g0, g1, g2, g7, g8, g9, hB]
          exact ⟨⟨k + 1, by omega, _, _, _, r2, rfl, by simp⟩, by simp [ivN]; omega⟩
        · simp -dsimp (disch := omega) [g0, g1, g2, g7, g8, g9, hB]
          refine held_call r2.ram ?_
          rw [show decide (g ≠ 0 ∧ a = q ∧ w = g) = heldB q g a w from rfl]
          simp -dsimp (disch := omega) [g0, g1, g2, g7, g8, g9, hB]
          exact ⟨⟨k + 1, by omega, _, _, _, r2, rfl, by simp⟩, by simp [ivN]; omega⟩
      · have hci : (ew : Int) % 10 = 2 := by omega
        simp -dsimp (disch := omega) [g0, g1, g2, g7, g8, g9, hc1, f1, s1, x1', ← hH, hB, hci]
        refine own_write r2 o3 o2 (fun hcc H2 r3 ch => ?_) (fun hcc => ?_)
        · obtain ⟨m, rfl, hm0, hm8⟩ : ∃ m : Nat, en = m ∧ 0 < m ∧ m ≤ 8 := ⟨en.toNat, by have := hcc.1; unfold wok at this; omega, by have := hcc.1; unfold wok at this; omega, by have := hcc.1; unfold wok at this; omega⟩
          rw [Int.toNat_natCast] at hcc r3
          have hxm := hcc.2
          clear hcc
          have hB2 := hB
          rw [← ch.same _ hpn hbn] at hB2
          have hto := heldB_to q g a w ex m
          have hlt : (ex : Int) < ex + m := by omega
          by_cases hh : hits q ex m
          · rw [if_pos hh] at hto
            unfold hits at hh
            have d1 : (ex : Int) / 8 ≤ q / 8 := by omega
            have d2 : (q : Int) / 8 ≤ (ex + m - 1) / 8 := by omega
            simp -dsimp (disch := omega) [g0, g1, g2, g7, g8, g9, hB2, hlt, d1, d2]
            refine held_call r3.ram ?_
            rw [show decide (g ≠ 0 ∧ toA a ex m = q ∧ toW a w ex m = g) = false from hto]
            simp -dsimp (disch := omega) [g0, g1, g2, g7, g8, g9, hB2]
            exact ⟨⟨k + 1, by omega, _, _, _, r3, hto, by simp⟩, by simp [ivN]; omega⟩
          · rw [if_neg hh] at hto
            unfold hits at hh
            by_cases d1 : (ex : Int) / 8 ≤ q / 8
            · have d2 : ¬ (q : Int) / 8 ≤ (ex + m - 1) / 8 := by omega
              simp -dsimp (disch := omega) [g0, g1, g2, g7, g8, g9, hB2, hlt, d1, d2]
              refine held_call r3.ram ?_
              rw [show decide (g ≠ 0 ∧ toA a ex m = q ∧ toW a w ex m = g) = heldB q g a w from hto]
              simp -dsimp (disch := omega) [g0, g1, g2, g7, g8, g9, hB2]
              exact ⟨⟨k + 1, by omega, _, _, _, r3, hto.symm, by simp⟩, by simp [ivN]; omega⟩
            · skip
              simp -dsimp (disch := omega) [g0, g1, g2, g7, g8, g9, hB2, hlt, d1]
              refine held_call r3.ram ?_
              rw [show decide (g ≠ 0 ∧ toA a ex m = q ∧ toW a w ex m = g) = heldB q g a w from hto]
              simp -dsimp (disch := omega) [g0, g1, g2, g7, g8, g9, hB2]
              exact ⟨⟨k + 1, by omega, _, _, _, r3, hto.symm, by simp⟩, by simp [ivN]; omega⟩
        · simp -dsimp (disch := omega) [g0, g1, g2, g7, g8, g9, hB]
          refine held_call r2.ram ?_
          rw [show decide (g ≠ 0 ∧ a = q ∧ w = g) = heldB q g a w from rfl]
          simp -dsimp (disch := omega) [g0, g1, g2, g7, g8, g9, hB]
          exact ⟨⟨k + 1, by omega, _, _, _, r2, rfl, by simp⟩, by simp [ivN]; omega⟩
      · have hci : (ew : Int) % 10 = 3 := by omega
        simp -dsimp (disch := omega) [g0, g1, g2, g7, g8, g9, hc1, f1, s1, x1', ← hH, hB, hci]
        refine own_write r2 o3 o2 (fun hcc H2 r3 ch => ?_) (fun hcc => ?_)
        · obtain ⟨m, rfl, hm0, hm8⟩ : ∃ m : Nat, en = m ∧ 0 < m ∧ m ≤ 8 := ⟨en.toNat, by have := hcc.1; unfold wok at this; omega, by have := hcc.1; unfold wok at this; omega, by have := hcc.1; unfold wok at this; omega⟩
          rw [Int.toNat_natCast] at hcc r3
          have hxm := hcc.2
          clear hcc
          have hB2 := hB
          rw [← ch.same _ hpn hbn] at hB2
          have hto := heldB_to q g a w ex m
          have hlt : (ex : Int) < ex + m := by omega
          by_cases hh : hits q ex m
          · rw [if_pos hh] at hto
            unfold hits at hh
            have d1 : (ex : Int) / 8 ≤ q / 8 := by omega
            have d2 : (q : Int) / 8 ≤ (ex + m - 1) / 8 := by omega
            simp -dsimp (disch := omega) [g0, g1, g2, g7, g8, g9, hB2, hlt, d1, d2]
            refine held_call r3.ram ?_
            rw [show decide (g ≠ 0 ∧ toA a ex m = q ∧ toW a w ex m = g) = false from hto]
            simp -dsimp (disch := omega) [g0, g1, g2, g7, g8, g9, hB2]
            exact ⟨⟨k + 1, by omega, _, _, _, r3, hto, by simp⟩, by simp [ivN]; omega⟩
          · rw [if_neg hh] at hto
            unfold hits at hh
            by_cases d1 : (ex : Int) / 8 ≤ q / 8
            · have d2 : ¬ (q : Int) / 8 ≤ (ex + m - 1) / 8 := by omega
              simp -dsimp (disch := omega) [g0, g1, g2, g7, g8, g9, hB2, hlt, d1, d2]
              refine held_call r3.ram ?_
              rw [show decide (g ≠ 0 ∧ toA a ex m = q ∧ toW a w ex m = g) = heldB q g a w from hto]
              simp -dsimp (disch := omega) [g0, g1, g2, g7, g8, g9, hB2]
              exact ⟨⟨k + 1, by omega, _, _, _, r3, hto.symm, by simp⟩, by simp [ivN]; omega⟩
            · skip
              simp -dsimp (disch := omega) [g0, g1, g2, g7, g8, g9, hB2, hlt, d1]
              refine held_call r3.ram ?_
              rw [show decide (g ≠ 0 ∧ toA a ex m = q ∧ toW a w ex m = g) = heldB q g a w from hto]
              simp -dsimp (disch := omega) [g0, g1, g2, g7, g8, g9, hB2]
              exact ⟨⟨k + 1, by omega, _, _, _, r3, hto.symm, by simp⟩, by simp [ivN]; omega⟩
        · simp -dsimp (disch := omega) [g0, g1, g2, g7, g8, g9, hB]
          refine held_call r2.ram ?_
          rw [show decide (g ≠ 0 ∧ a = q ∧ w = g) = heldB q g a w from rfl]
          simp -dsimp (disch := omega) [g0, g1, g2, g7, g8, g9, hB]
          exact ⟨⟨k + 1, by omega, _, _, _, r2, rfl, by simp⟩, by simp [ivN]; omega⟩
      · have hci : (ew : Int) % 10 = 4 := by omega
        obtain ⟨m, hm⟩ : ∃ m, m = es.length := ⟨_, rfl⟩
        have hz : (txt es).size = m := hm.symm
        rw [← hm] at o5
        simp -dsimp (disch := omega) [g0, g1, g2, g7, g8, g9, hc1, f1, s1, x1', ← hH, hB, hci, hz]
        refine own_put r2 (by omega) (fun hcc H2 r3 ch => ?_) (fun hcc => ?_)
        · rw [← hm] at hcc r3
          rcases Nat.eq_zero_or_pos m with h0 | h0
          · subst h0
            have hB2 := hB
            rw [← ch.same _ hpn hbn] at hB2
            have hto := heldB_to q g a w ex 0
            rw [if_neg (fun hh => absurd hh.1 (by omega))] at hto
            simp -dsimp (disch := omega) [g0, g1, g2, g7, g8, g9, hB2, hz]
            refine held_call r3.ram ?_
            rw [show decide (g ≠ 0 ∧ toA a ex 0 = q ∧ toW a w ex 0 = g) = heldB q g a w from hto]
            simp -dsimp (disch := omega) [g0, g1, g2, g7, g8, g9, hB2]
            exact ⟨⟨k + 1, by omega, _, _, _, r3, hto.symm, by simp⟩, by simp [ivN]; omega⟩
          · skip
            have hB2 := hB
            rw [← ch.same _ hpn hbn] at hB2
            have hto := heldB_to q g a w ex m
            have hlt : (ex : Int) < ex + m := by omega
            by_cases hh : hits q ex m
            · rw [if_pos hh] at hto
              unfold hits at hh
              have d1 : (ex : Int) / 8 ≤ q / 8 := by omega
              have d2 : (q : Int) / 8 ≤ (ex + m - 1) / 8 := by omega
              simp -dsimp (disch := omega) [g0, g1, g2, g7, g8, g9, hB2, hlt, d1, d2, hz]
              refine held_call r3.ram ?_
              rw [show decide (g ≠ 0 ∧ toA a ex m = q ∧ toW a w ex m = g) = false from hto]
              simp -dsimp (disch := omega) [g0, g1, g2, g7, g8, g9, hB2]
              exact ⟨⟨k + 1, by omega, _, _, _, r3, hto, by simp⟩, by simp [ivN]; omega⟩
            · rw [if_neg hh] at hto
              unfold hits at hh
              by_cases d1 : (ex : Int) / 8 ≤ q / 8
              · have d2 : ¬ (q : Int) / 8 ≤ (ex + m - 1) / 8 := by omega
                simp -dsimp (disch := omega) [g0, g1, g2, g7, g8, g9, hB2, hlt, d1, d2, hz]
                refine held_call r3.ram ?_
                rw [show decide (g ≠ 0 ∧ toA a ex m = q ∧ toW a w ex m = g) = heldB q g a w from hto]
                simp -dsimp (disch := omega) [g0, g1, g2, g7, g8, g9, hB2]
                exact ⟨⟨k + 1, by omega, _, _, _, r3, hto.symm, by simp⟩, by simp [ivN]; omega⟩
              · skip
                simp -dsimp (disch := omega) [g0, g1, g2, g7, g8, g9, hB2, hlt, d1, hz]
                refine held_call r3.ram ?_
                rw [show decide (g ≠ 0 ∧ toA a ex m = q ∧ toW a w ex m = g) = heldB q g a w from hto]
                simp -dsimp (disch := omega) [g0, g1, g2, g7, g8, g9, hB2]
                exact ⟨⟨k + 1, by omega, _, _, _, r3, hto.symm, by simp⟩, by simp [ivN]; omega⟩
        · simp -dsimp (disch := omega) [g0, g1, g2, g7, g8, g9, hB]
          refine held_call r2.ram ?_
          rw [show decide (g ≠ 0 ∧ a = q ∧ w = g) = heldB q g a w from rfl]
          simp -dsimp (disch := omega) [g0, g1, g2, g7, g8, g9, hB]
          exact ⟨⟨k + 1, by omega, _, _, _, r2, rfl, by simp⟩, by simp [ivN]; omega⟩
      · have hci : (ew : Int) % 10 = 5 := by omega
        obtain ⟨V, hV⟩ : ∃ V, V = ev % 100 := ⟨_, rfl⟩
        have hVi : (ev : Int) % 100 = V := by omega
        simp -dsimp (disch := omega) [g0, g1, g2, g7, g8, g9, hc1, f1, s1, x1', ← hH, hB, hci, hVi]
        refine bytes_call r2.ram (fun hcc => ?_) (fun hcc => ?_)
        · simp -dsimp (disch := omega) [g0, g1, g2, g7, g8, g9, hB]
          refine held_call r2.ram ?_
          rw [show decide (g ≠ 0 ∧ a = q ∧ w = g) = heldB q g a w from rfl]
          simp -dsimp (disch := omega) [g0, g1, g2, g7, g8, g9, hB]
          exact ⟨⟨k + 1, by omega, _, _, _, r2, rfl, by simp⟩, by simp [ivN]; omega⟩
        · simp -dsimp (disch := omega) [g0, g1, g2, g7, g8, g9, hB]
          refine held_call r2.ram ?_
          rw [show decide (g ≠ 0 ∧ a = q ∧ w = g) = heldB q g a w from rfl]
          simp -dsimp (disch := omega) [g0, g1, g2, g7, g8, g9, hB]
          exact ⟨⟨k + 1, by omega, _, _, _, r2, rfl, by simp⟩, by simp [ivN]; omega⟩
      · have hci : (ew : Int) % 10 = 6 := by omega
        simp -dsimp (disch := omega) [g0, g1, g2, g7, g8, g9, hc1, f1, s1, x1', ← hH, hB, hci]
        refine own_reserve r2 (fun hcc H2 r3 ch => ?_) (fun hcc => ?_)
        · have hB2 := hB
          rw [← ch.same _ hpn hbn] at hB2
          have hen0 : en ≠ 0 := by have := hcc.1; omega
          by_cases hxq : ex = q
          · subst hxq
            have hto : (decide (en = g)) = heldB ex g ex en := by
              unfold heldB
              rw [decide_eq_decide]
              exact ⟨fun h => ⟨h ▸ hen0, rfl, h⟩, fun h => h.2.2⟩
            simp -dsimp (disch := omega) [g0, g1, g2, g7, g8, g9, hB2]
            refine held_call r3.ram ?_
            rw [show decide (g ≠ 0 ∧ ex = ex ∧ en = g) = decide (en = g) from hto.symm]
            simp -dsimp (disch := omega) [g0, g1, g2, g7, g8, g9, hB2]
            exact ⟨⟨k + 1, by omega, _, _, _, r3, hto, by simp⟩, by simp [ivN]; omega⟩
          · have hxq' : ¬ (ex : Int) = q := by omega
            have hto : heldB q g ex en = false := by
              unfold heldB
              rw [decide_eq_false_iff_not]
              exact fun h => hxq h.2.1
            simp -dsimp (disch := omega) [g0, g1, g2, g7, g8, g9, hB2, hxq, hxq']
            refine held_call r3.ram ?_
            rw [show decide (g ≠ 0 ∧ ex = q ∧ en = g) = false from hto]
            simp -dsimp (disch := omega) [g0, g1, g2, g7, g8, g9, hB2]
            exact ⟨⟨k + 1, by omega, _, _, _, r3, hto, by simp⟩, by simp [ivN]; omega⟩
        · simp -dsimp (disch := omega) [g0, g1, g2, g7, g8, g9, hB]
          refine held_call r2.ram ?_
          rw [show decide (g ≠ 0 ∧ a = q ∧ w = g) = heldB q g a w from rfl]
          simp -dsimp (disch := omega) [g0, g1, g2, g7, g8, g9, hB]
          exact ⟨⟨k + 1, by omega, _, _, _, r2, rfl, by simp⟩, by simp [ivN]; omega⟩
      · have hci : (ew : Int) % 10 = 7 := by omega
        simp -dsimp (disch := omega) [g0, g1, g2, g7, g8, g9, hc1, f1, s1, x1', ← hH, hB, hci]
        refine held_call r2.ram ?_
        rw [show decide (g ≠ 0 ∧ a = q ∧ w = g) = heldB q g a w from rfl]
        simp -dsimp (disch := omega) [g0, g1, g2, g7, g8, g9, hB]
        exact ⟨⟨k + 1, by omega, _, _, _, r2, rfl, by simp⟩, by simp [ivN]; omega⟩
      · have hci : (ew : Int) % 10 = 8 := by omega
        rcases (by omega : 4 < en ∨ ¬ 4 < en) with hen | hen
        · simp -dsimp (disch := omega) [g0, g1, g2, g7, g8, g9, hc1, f1, s1, x1', ← hH, hB, hci, hen]
          refine own_clear r2 fun H2 r3 ch => ?_
          have hB2 := hB
          rw [← ch.same _ hpn hbn] at hB2
          have hto : heldB q g (toA a 0 4096) (toW a w 0 4096) = false := by
            rw [heldB_to]
            split
            · rfl
            · rename_i hh
              unfold heldB
              rw [decide_eq_false_iff_not]
              rintro ⟨_, rfl, _⟩
              have := r.ram.a1
              unfold hits at hh
              omega
          simp -dsimp (disch := omega) [g0, g1, g2, g7, g8, g9, hB2]
          refine held_call r3.ram ?_
          rw [show decide (g ≠ 0 ∧ toA a 0 4096 = q ∧ toW a w 0 4096 = g) = false from hto]
          simp -dsimp (disch := omega) [g0, g1, g2, g7, g8, g9, hB2]
          exact ⟨⟨k + 1, by omega, _, _, _, r3, hto, by simp⟩, by simp [ivN]; omega⟩
        · simp -dsimp (disch := omega) [g0, g1, g2, g7, g8, g9, hc1, f1, s1, x1', ← hH, hB, hci, hen]
          refine own_drop r2 fun H2 r3 ch => ?_
          have hB2 := hB
          rw [← ch.same _ hpn hbn] at hB2
          have hto : heldB q g 0 0 = false := by
            unfold heldB
            rw [decide_eq_false_iff_not]
            rintro ⟨h1, _, h2⟩
            exact h1 h2.symm
          simp -dsimp (disch := omega) [g0, g1, g2, g7, g8, g9, hB2]
          refine held_call r3.ram ?_
          rw [show decide (g ≠ 0 ∧ 0 = q ∧ 0 = g) = false from hto]
          simp -dsimp (disch := omega) [g0, g1, g2, g7, g8, g9, hB2]
          exact ⟨⟨k + 1, by omega, _, _, _, r3, hto, by simp⟩, by simp [ivN]; omega⟩
      · have hci : (ew : Int) % 10 = 9 := by omega
        simp -dsimp (disch := omega) [g0, g1, g2, g7, g8, g9, hc1, f1, s1, x1', ← hH, hB, hci]
        refine held_call r2.ram ?_
        rw [show decide (g ≠ 0 ∧ a = q ∧ w = g) = heldB q g a w from rfl]
        simp -dsimp (disch := omega) [g0, g1, g2, g7, g8, g9, hB]
        exact ⟨⟨k + 1, by omega, _, _, _, r2, rfl, by simp⟩, by simp [ivN]; omega⟩
    · simp -dsimp (disch := omega) [g0, g1, g2, g7, g8, g9, hc1]
      exact hQ _ _ _ _ _ r (by simp [g0]) (by simp [g1]) (by simp [g7]) (by simp [g8])
end Go.Proofs.Ytgafaelakjnemaa
