/-
  RamPlays.
-/
import Derived.Test.YtgafaelakjnemaaR7
set_option linter.unusedSimpArgs false
set_option linter.unusedVariables false
namespace Go.Proofs.Ytgafaelakjnemaa
open Go Go.Mini Go.Proofs.Try

def tb4 : Nat → Marks := fun k => if k = 5 then ⟨[4, 8], fun _ => True⟩ else if k = 17 then ⟨[6, 12, 22, 28], fun _ => True⟩ else ⟨[], fun _ => True⟩
@[simp] theorem tb4_l5 : (tb4 5).l = [4, 8] := rfl
@[simp] theorem tb4_l17 : (tb4 17).l = [6, 12, 22, 28] := rfl
@[simp] theorem tb4_R (k x : Nat) : (tb4 k).R x := by unfold tb4; split <;> (try split) <;> trivial

theorem lt63 {a b : Nat} (h : a = b) (h2 : b ≤ maxLen) : a < 9223372036854775808 := by
  have : maxLen < 9223372036854775808 := by decide
  omega
set_option maxRecDepth 100000 in
set_option maxHeartbeats 4000000 in
theorem ramPlays_call {h : Hp} {K : Value → Hp → Prop} {n : Nat} {l : List Act} {v : Value} (hn : n < 256) (hok : ∀ e ∈ l, e.ok) (hl : l.length < 9223372036854775808) (hv : Sl h 5 l.length (actsC l) v) (hK : ∀ h', (∀ i, i < h.next → h'.blks i = h.blks i) → K (.bool true) h') : ACall prog 4 [.int .u8 n, v] h K := by
  refine acallF_of tb4 func4 rfl rfl mixed (by kernel_rfl) fun hwf => ?_
  have hvb := sblk_lt (hwf.args v (by simp))
  obtain ⟨va, vc, rfl⟩ := hv.slice
  simp -dsimp (disch := omega)
  by_cases hn1 : n < 1 ∨ 16 < n
  · refine ramNew_nil (n := (n : Int)) (by omega) ?_
    by_cases hn2 : n < 1
    · have hn2' : (n : Int) < 1 := by omega
      simp -dsimp (disch := omega) [hn2, hn2']
      refine works_call fun h2 e2 => ?_
      simp -dsimp (disch := omega)
      exact RetF.all (by simp) (hK _ e2.same)
    · have hn2' : ¬ (n : Int) < 1 := by omega
      have hn3' : 16 < (n : Int) := by omega
      simp -dsimp (disch := omega) [hn2, hn2', hn3']
      refine works_call fun h2 e2 => ?_
      simp -dsimp (disch := omega)
      exact RetF.all (by simp) (hK _ e2.same)
  · have hn2' : ¬ (n : Int) < 1 := by omega
    have hn3' : ¬ 16 < (n : Int) := by omega
    have hn2 : ¬ n < 1 := by omega
    have hn3 : ¬ 16 < n := by omega
    refine own_new (by omega) (by omega) fun h1 p b r1 => ?_
    simp -dsimp (disch := omega) [hn2, hn2', hn3, hn3']
    refine few_call hok hl (hv.mono fun b hb => r1.ext.same b (hvb b hb)) ?_
    by_cases hfew : fewL l = true
    · rw [hfew]
      simp -dsimp (disch := omega) [hn2, hn2', hn3, hn3']
      obtain ⟨hl60, hs100⟩ := few_of hfew
      refine rfNew_call (by omega) fun h2 r e2 rn q2 => ?_
      obtain ⟨N, hN⟩ : ∃ N, N = n * 4096 := ⟨_, rfl⟩
      rw [← hN] at r1 q2
      have t2 : Bt h h2 p b N N (fun _ => 0) 0 0 r (.slice none 0 0) [] 0 0 :=
        ⟨r1.ext' e2, q2.low r1.ext.le, by have := r1.ram.plt; omega, by have := r1.ram.blt; omega, by simp [sblk], by simp [sblk]⟩
      have g2 : Ag N (fun _ => 0) 0 0 [] 0 0 := ⟨fun _ _ => rfl, rfl, fun h => absurd rfl h, fun _ => rfl⟩
      have hb2 := q2.blk
      simp -dsimp (disch := omega)
      refine size_call t2.own.ram ?_
      simp -dsimp (disch := omega) [hb2]
      clear hb2 q2 e2 r1
      obtain ⟨k0, hk0⟩ : ∃ k0, k0 = l.length := ⟨_, rfl⟩
      rw [← hk0] at hl60
      refine awp_loop (fun t h' => ∃ (k : Nat) (p b C : Nat) (M : Nat → Nat) (a : Nat) (w : Int) (r : Nat) (v : Value) (L : By) (a' : Nat) (w' : Int), k ≤ k0 ∧ Bt h h' p b N C M a w r v L a' w' ∧ Ag N M a w L a' w' ∧ (w = 0 ∨ w = 4 ∨ w = 8) ∧ L.length ≤ 100 * k ∧ t 1 = .slice va k0 vc ∧ t 5 = ptr p ∧ t 6 = ptr r ∧ t 7 = .int .i64 k) (fun t _ => k0 - ivN (t 7)) ?_ ?_
      · simp -dsimp (disch := omega) [hk0]
        exact ⟨0, by omega, p, b, N, fun _ => 0, 0, 0, r, .slice none 0 0, [], 0, 0, t2, g2, .inl rfl, by simp, rfl, rfl, rfl⟩
      · clear t2 g2
        rintro t h' ⟨k, p, b, C, M, a, w, r, v, L, a', w', hk, tt, g, hw, hL, g1, g5, g6, g7⟩
        refine vcF_sound mixed (tb := tb4) _ (by kernel_rfl) ?_
        by_cases hc1 : k < k0
        · have hkl : k < l.length := hk0 ▸ hc1
          obtain ⟨e, hx⟩ : ∃ e, l[k]? = some e := ⟨l[k], List.getElem?_eq_getElem hkl⟩
          obtain ⟨a4, c4, b4, q1, f1, s1, x1, y1⟩ := sl_el (f := actC) (n := 5) actC_len (hv.mono fun b hb => tt.own.ext.same b (hvb b hb)) hx
          cases q1
          have hab : a4.block < h.next := hvb _ rfl
          obtain ⟨o1, o2, o3, o4, o5⟩ := hok e (List.mem_of_getElem? hx)
          have o6 := hs100 e (List.mem_of_getElem? hx)
          obtain ⟨ew, ex, ev, en, es⟩ := e
          simp only at o1 o2 o3 o4 o5 o6
          have x1' : b4.cells.extract (a4.off + k * 5) (a4.off + k * 5 + 5) = #[.int .u8 ew, .int .u64 ex, .int .u64 ev, .int .i64 en, .string (txt es)] := x1
          have y0 : b4.cells[a4.off + k * 5]? = some (.int .u8 ew) := y1 0 (by omega)
          have y1' : b4.cells[a4.off + k * 5 + 1]? = some (.int .u64 ex) := y1 1 (by omega)
          clear x1 y1
          obtain ⟨c, hcd⟩ : ∃ c, c = ew % 10 := ⟨_, rfl⟩
          have hci : (ew : Int) % 10 = c := by omega
          have hc10 : c < 10 := by omega
          rcases (by omega : c = 9 ∨ ¬ c = 9) with hc9 | hc9
          · have hci9 : (ew : Int) % 10 = 9 := by omega
            simp -dsimp (disch := omega) [g1, g5, g6, g7, hc1, f1, y0, hci9, -getElem?_pos]
            refine copy_call tt.own.ram fun h3 p3 b3 C3 o3' => ?_
            have tt3 := tt.ext' o3'.ext
            simp -dsimp (disch := omega) [g1, g5, g6, g7]
            refine rfCopy_call tt3.rf (by omega) fun h4 r4 v4 e4 q4 => ?_
            have o4' := o3'.ext' e4
            have tt4 := tt3.ext' e4
            simp -dsimp (disch := omega) [g1, g5, g6, g7]
            refine own_clear tt4.own fun h5 o5' ch => ?_
            simp -dsimp (disch := omega) [g1, g5, g6, g7]
            have T : Bt h h5 p3 b3 N C3 M a w r4 v4 L a' w' := by
              have hpl := tt.own.ram.plt
              have hbl := tt.own.ram.blt
              have hp3 := o3'.pn
              have hb3 := o3'.bn
              have hr4 := q4.mr
              have hle := o3'.ext.le
              have hp3l := o3'.ram.plt
              have hb3l := o3'.ram.blt
              have hv4 := q4.row.blk
              refine ⟨⟨o4'.ram.mono (Nat.le_of_eq ch.next.symm) (ch.same _ (by omega) (by omega)) (ch.same _ (by omega) (by omega)), o5'.ext, by have := tt.own.ext.le; omega, by have := tt.own.ext.le; omega⟩, ?_, by omega, by omega, fun e => by have := (hv4 _ e).1; omega, fun e => by have := (hv4 _ e).1; omega⟩
              exact (q4.low (by have := tt3.own.ext.le; omega)).mono (Nat.le_of_eq ch.next.symm) (ch.same _ (by omega) (by omega)) fun x hx => ch.same _ (by have := (hv4 _ hx).1; omega) (by have := (hv4 _ hx).1; omega)
            have f5 : h5.blks a4.block = some b4 := by rw [T.own.ext.same _ hab, ← tt.own.ext.same _ hab]; exact f1
            simp -dsimp (disch := omega) [g1, g5, g6, g7, f5, y1', -getElem?_pos]
            refine held_call T.own.ram ?_
            simp -dsimp (disch := omega) [g1, g5, g6, g7, f5, y1', -getElem?_pos]
            refine rfHeld_call T.rf ?_
            rw [g.held hw]
            simp -dsimp (disch := omega) [g1, g5, g6, g7, f5, y1', -getElem?_pos]
            refine held_call T.own.ram ?_
            simp -dsimp (disch := omega) [g1, g5, g6, g7, f5, y1', -getElem?_pos]
            refine rfHeld_call T.rf ?_
            rw [g.held hw]
            simp -dsimp (disch := omega) [g1, g5, g6, g7, f5, y1', -getElem?_pos]
            exact ⟨⟨k + 1, by omega, _, _, _, _, _, _, _, _, _, _, _, T, g, hw, by omega, rfl, rfl, by simp⟩, by simp [ivN]; omega⟩
          · have hci9 : ¬ (ew : Int) % 10 = 9 := by omega
            simp -dsimp (disch := omega) [g1, g5, g6, g7, hc1, f1, s1, x1', y0, hci9, -getElem?_pos]
            refine one_call tt g hw (by omega) o1 o2 o3 o6 fun h5 M2 a2 w2 v2 L2 a3 w3 T G hw2 fr vc2 hln => ?_
            simp -dsimp (disch := omega) [g1, g5, g6, g7]
            have f5 : h5.blks a4.block = some b4 := by rw [T.own.ext.same _ hab, ← tt.own.ext.same _ hab]; exact f1
            simp -dsimp (disch := omega) [g1, g5, g6, g7, f5, y1', -getElem?_pos]
            refine held_call T.own.ram ?_
            simp -dsimp (disch := omega) [g1, g5, g6, g7, f5, y1', -getElem?_pos]
            refine rfHeld_call T.rf ?_
            rw [G.held hw2]
            simp -dsimp (disch := omega) [g1, g5, g6, g7, f5, y1', -getElem?_pos]
            refine held_call T.own.ram ?_
            simp -dsimp (disch := omega) [g1, g5, g6, g7, f5, y1', -getElem?_pos]
            refine rfHeld_call T.rf ?_
            rw [G.held hw2]
            simp -dsimp (disch := omega) [g1, g5, g6, g7, f5, y1', -getElem?_pos]
            exact ⟨⟨k + 1, by omega, _, _, _, _, _, _, _, _, _, _, _, T, G, hw2, by omega, rfl, rfl, by simp⟩, by simp [ivN]; omega⟩
        · simp -dsimp (disch := omega) [g1, g5, g6, g7, hc1]
          obtain ⟨m, hm⟩ : ∃ m, m = L.length := ⟨_, rfl⟩
          have hm6 : m ≤ 6000 := by omega
          refine awp_loop (fun t h2 => Ext h' h2 ∧ ∃ (k : Nat), k ≤ m ∧ t 5 = ptr p ∧ t 6 = ptr r ∧ t 9 = .int .i64 k) (fun t _ => m - ivN (t 9)) ?_ ?_
          · simp -dsimp (disch := omega) [g5, g6]
            exact ⟨Ext.refl _, 0, by omega, rfl⟩
          · clear g1 g5 g6 g7
            rintro t h2 ⟨he, j, hj, g5, g6, g9⟩
            have T := tt.ext' he
            have hb := T.rf.blk
            obtain ⟨wa, wc, hwv⟩ := T.rf.row.slice
            subst hwv
            refine vcF_sound mixed (tb := tb4) _ (by kernel_rfl) ?_
            by_cases hc2 : j < m
            · obtain ⟨e, hx⟩ : ∃ e, L[j]? = some e := ⟨_, List.getElem?_eq_getElem (hm ▸ hc2)⟩
              obtain ⟨b5, e1, e2, e3, e4⟩ := row_el T.rf.row hx
              cases e1
              have hlk := T.rf.uq.look (List.mem_of_getElem? hx)
              obtain ⟨oy, oz⟩ := T.rf.ok _ (List.mem_of_getElem? hx)
              obtain ⟨y, z⟩ := e
              simp only at e3 e4 hlk oy oz
              have hMy : M y = z := by rw [g.bytes y oy, hlk]
              have hNN := T.own.ram.N1
              have hbs : bytesM M y 1 = [UInt8.ofNat z] := by rw [show bytesM M y 1 = [UInt8.ofNat (M (y + 0))] from rfl, Nat.add_zero, hMy]
              have hbv : (List.map byteV [UInt8.ofNat z]) = [.int .u8 (z : Nat)] := by unfold byteV; simp; omega
              simp -dsimp (disch := omega) [g5, g6, g9, hb, ← hm, hc2, e2, e3, e4, -getElem?_pos]
              refine bytes_call (n := 1) T.own.ram (fun _ => ?_) (fun hc => absurd (by omega) hc)
              rw [hbs]
              simp -dsimp (disch := omega) [g5, g6, g9, hb, ← hm, hc2, e2, e3, e4, -getElem?_pos]
              exact ⟨⟨he.then_alloc _, j + 1, by omega, by simp⟩, by simp [ivN]; omega⟩
            · simp -dsimp (disch := omega) [g5, g6, g9, hb, ← hm, hc2]
              refine works_call fun h3 e3 => ?_
              simp -dsimp (disch := omega)
              exact RetF.all (by simp) (hK _ (T.own.ext.trans e3).same)
    · rw [Bool.not_eq_true] at hfew
      rw [hfew]
      simp -dsimp (disch := omega) [hn2, hn2', hn3, hn3']
      refine works_call fun h2 e2 => ?_
      simp -dsimp (disch := omega)
      exact RetF.all (by simp) (hK _ (r1.ext.trans e2).same)
end Go.Proofs.Ytgafaelakjnemaa
