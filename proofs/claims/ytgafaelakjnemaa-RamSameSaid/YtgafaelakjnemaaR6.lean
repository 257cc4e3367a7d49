/-
  Copies; which memories are the same.
-/
import Derived.Test.YtgafaelakjnemaaR5
import Derived.Test.YtgafaelakjnemaaB9
import Derived.Test.YtgafaelakjnemaaM23
set_option linter.unusedSimpArgs false
set_option linter.unusedVariables false
namespace Go.Proofs.Ytgafaelakjnemaa
open Go Go.Mini Go.Proofs.Try

theorem row_src {m : Nat} {h : Hp} {esz n : Nat} {cs : List Value} {v : Value} (hr : Row m h esz n cs v) : srcCells h esz v = some (n, cs.toArray) := by
  obtain ⟨h0, ⟨rfl, rfl⟩ | ⟨b, h1, h2, rfl, h3⟩⟩ := hr
  · have : cs = [] := List.length_eq_zero_iff.1 (by simpa using h0)
    subst this
    rfl
  · apply src_slice
    unfold Mini.rowAt
    rw [h3]
    simp [← h0]
/-- Appending any number. -/
theorem app_any {m : Nat} {h : Hp} {esz bytes n : Nat} {cs : List Value} {v x : Value} {k : Nat} {new : Array Value} {K : Value → Hp → Prop} {u : Tag K} (hr : Row m h esz n cs v) (hm : m ≤ h.next) (hx : srcCells h esz x = some (k, new)) (hsz : new.size = k * esz) (room : (n + k) * bytes ≤ ROOM ∧ n + k ≤ ROOM)
    (hK : ∀ v' h', Row m h' esz (n + k) (cs ++ new.toList) v' → h.next ≤ h'.next → (∀ b, sblk v' = some b → sblk v = some b ∨ h.next ≤ b) → (∀ i, i < h.next → sblk v ≠ some i → h'.blks i = h.blks i) → K v' h') : OptF (aappend h esz bytes v x) K u := by
  rcases Nat.eq_zero_or_pos k with rfl | hk
  · have hnew : new = #[] := Array.size_eq_zero_iff.1 (by simpa using hsz)
    subst hnew
    have hr' : Row m h esz (n + 0) (cs ++ (#[] : Array Value).toList) v := by simpa using hr
    have hgo : K v h := hK v h hr' (Nat.le_refl _) (fun b hb => .inl hb) (fun _ _ _ => rfl)
    obtain ⟨h0, ⟨rfl, rfl⟩ | ⟨b, h1, h2, rfl, h3⟩⟩ := hr
    · unfold aappend
      simp only [hx]
      rw [if_pos ⟨trivial, trivial⟩, if_pos trivial]
      exact hgo
    · unfold aappend
      simp only [hx]
      rw [if_pos (by omega), if_pos trivial]
      exact hgo
  · exact app_row hr hm hx hk hsz room fun v' h' r1 r2 r3 r4 => hK v' h' r1 (by omega) (fun b hb => .inr (by rw [r3] at hb; cases hb; exact Nat.le_refl _)) r4


section
variable {h : Hp} {p b N C : Nat} {M : Nat → Nat} {a : Nat} {w : Int} {K : Value → Hp → Prop}

theorem cloneB_call (r : Ram h p b N C M a w) (hK : K (.slice (some ⟨h.next + 1, 0, none⟩) N (2 * N + 1)) ((h.alloc ⟨#[], 1, true⟩).alloc ⟨mem N M, 1, true⟩)) : ACall prog 34 [.slice (some ⟨b, 0, none⟩) N (2 * C)] h K := by
  refine acallF_of tb0 func34 rfl rfl mixed (by kernel_rfl) fun hwf => ?_
  have hN := r.N1
  have hb : (h.alloc ⟨#[], 1, true⟩).blks b = some ⟨mem N M, 1, true⟩ := by rw [blks_alloc_ne _ _ _ (by have := r.blt; omega)]; exact r.row
  have hrow : Mini.rowAt (h.alloc ⟨#[], 1, true⟩) ⟨b, 0, none⟩ (N * 1) = some (mem N M) := by
    have := rowAt_mem (x := 0) (n := N) (C := C) hb (by omega) r.NC
    rw [show offA b C 0 = ⟨b, 0, none⟩ from by unfold offA; split <;> rfl] at this
    rw [this]
    congr 1
    exact mem_congr fun i _ => by rw [Nat.zero_add]
  simp -dsimp (disch := omega)
  refine app_fresh (blks_alloc_eq _ _) (src_slice _ _ _ _ _ _ hrow) r.N0 (by unfold ROOM; omega) ?_
  simp -dsimp (disch := omega)
  exact RetF.all (by simp) hK

theorem copy_call (r : Ram h p b N C M a w) (hK : ∀ h' p2 b2 C2, Own h h' p2 b2 N C2 M a w → K (ptr p2) h') : ACall prog 21 [ptr p] h K := by
  refine ACall.close ?_
  refine acallF_of tb21 func21 rfl rfl mixed (by kernel_rfl) fun hwf => ?_
  have hb := r.blk'
  have hpl := r.plt
  simp -dsimp (disch := omega) [hb]
  refine is_call r ?_
  simp -dsimp (disch := omega) [hb]
  refine cloneB_call r ?_
  have hb2 : ((h.alloc ⟨#[], 1, true⟩).alloc ⟨mem N M, 1, true⟩).blks p = some ⟨#[.slice (some ⟨b, 0, none⟩) N (2 * C), .int .u64 a, .int .i64 w], 1, true⟩ := by
    rw [blks_alloc_ne _ _ _ (by simp; omega), blks_alloc_ne _ _ _ (by omega)]; exact hb
  simp -dsimp (disch := omega) [hb2]
  refine ⟨fun j hj _ => by rw [blks_alloc_ne _ _ _ (by simp; omega), blks_alloc_ne _ _ _ (by omega)], ?_⟩
  simp -dsimp (disch := omega) [hb]
  have hbn := r.blt
  refine RetF.all (r := ptr (h.next + 2)) (by simp) ⟨h.next + 2, h.next + 1, N, .int .u64 a, .int .i64 w, blks_alloc_at _ _ _ (by simp), fun c hc => hK _ _ (h.next + 1) c ⟨⟨blks_set_eq _ _ _, ?_, by omega, by simp, by simp, r.N0, r.N1, r.a1, r.M8, hc⟩, ?_, by omega, by omega⟩⟩
  · rw [blks_set_ne _ _ _ _ (by omega), blks_alloc_ne _ _ _ (by simp)]
    exact blks_alloc_at _ _ _ (by simp)
  · exact Ext.then_set (((Ext.alloc h _).then_alloc _).then_alloc _) _ (by omega)

/-- What stands in a memory, as a text. -/
def all (M : Nat → Nat) (N : Nat) : List UInt8 := bytesM M 0 N
theorem equal_call {p2 b2 N2 C2 : Nat} {M2 : Nat → Nat} {a2 : Nat} {w2 : Int} (r : Ram h p b N C M a w) (r2 : Ram h p2 b2 N2 C2 M2 a2 w2) (hK : K (.bool (decide (all M N = all M2 N2))) h) : ACall prog 41 [.slice (some ⟨b, 0, none⟩) N (2 * C), .slice (some ⟨b2, 0, none⟩) N2 (2 * C2)] h K := by
  refine acallF_of tb0 func41 rfl rfl mixed (by kernel_rfl) fun hwf => ?_
  have key : ∀ {p b N C : Nat} {M : Nat → Nat} {a : Nat} {w : Int}, Ram h p b N C M a w → rowB (h.blks b) 0 N = some ((all M N).map byteV).toArray := fun {p b N C M a w} r => by
    have := rowAt_mem (x := 0) (n := N) (C := C) r.row (by omega) r.NC
    rw [show offA b C 0 = ⟨b, 0, none⟩ from by unfold offA; split <;> rfl, Nat.mul_one] at this
    rw [show rowB (h.blks b) 0 N = Mini.rowAt h ⟨b, 0, none⟩ N from rfl, this, mem_congr (M' := M) (fun i _ => by rw [Nat.zero_add]), mem_bytes r.M8]
    rfl
  have k1 := key r
  have k2 := key r2
  simp -dsimp (disch := omega)
  rw [k1, ofBytes_row]
  simp -dsimp (disch := omega)
  rw [k2, ofBytes_row]
  simp -dsimp (disch := omega)
  refine RetF.same (r := .bool (decide (all M N = all M2 N2))) hwf (by simp [txt_inj]) (Nat.zero_le _) (fun _ _ => rfl) hK

theorem same_call {p2 b2 N2 C2 : Nat} {M2 : Nat → Nat} {a2 : Nat} {w2 : Int} (r : Ram h p b N C M a w) (r2 : Ram h p2 b2 N2 C2 M2 a2 w2) (hK : K (.bool (decide (all M N = all M2 N2 ∧ a = a2 ∧ w = w2))) h) : ACall prog 25 [ptr p, ptr p2] h K := by
  refine acallF_of tb0 func25 rfl rfl mixed (by kernel_rfl) fun hwf => ?_
  have hb := r.blk'
  have hb2 := r2.blk'
  simp -dsimp (disch := omega)
  refine is_call r ?_
  simp -dsimp (disch := omega)
  refine is_call r2 ?_
  simp -dsimp (disch := omega) [hb, hb2]
  refine equal_call r r2 ?_
  by_cases he : all M N = all M2 N2
  · rw [decide_eq_true he]
    simp -dsimp (disch := omega) [hb, hb2]
    refine RetF.same (r := .bool (decide ((a : Int) = a2) && decide (w = w2))) hwf (by simp) (Nat.zero_le _) (fun _ _ => rfl) ?_
    rw [show (decide ((a : Int) = a2) && decide (w = w2)) = decide (all M N = all M2 N2 ∧ a = a2 ∧ w = w2) from by rw [Bool.eq_iff_iff]; simp [he]; omega]
    exact hK
  · rw [decide_eq_false he]
    rw [decide_eq_false fun h => he h.1] at hK
    simp -dsimp (disch := omega) [hb, hb2]
    exact RetF.same hwf (by simp) (Nat.zero_le _) (fun _ _ => rfl) hK
end
section
variable {h : Hp} {m r N : Nat} {v : Value} {L : By} {a : Nat} {w : Int} {K : Value → Hp → Prop}

theorem rfCopy_call (q : Rf m h r N v L a w) (hl : L.length ≤ 1000000) (hK : ∀ h' r2 v2, Ext h h' → Rf h.next h' r2 N v2 L a w → K (ptr r2) h') : ACall prog 22 [ptr r] h K := by
  refine acallF_of tb0 func22 rfl rfl mixed (by kernel_rfl) fun hwf => ?_
  have hb := q.blk
  have hrl := q.rlt
  have hN := q.N1
  obtain ⟨va, vc, hv⟩ := q.row.slice
  subst hv
  simp -dsimp (disch := omega) [hb]
  refine app_any (m := h.next) (n := 0) (cs := []) (k := L.length) (new := (bysC L).toArray) (Row.nil _ _ _) (by simp) (row_src (q.row.alloc _)) (by simp [bysC_length]) (by unfold ROOM; omega) ?_
  intro v' h3 r3 n3 b3 s3
  obtain ⟨va3, vc3, rfl⟩ := r3.slice
  simp only [Hp.next_alloc] at n3
  have hb3 : h3.blks h.next = some ⟨#[.int .u64 N, .slice none 0 0, .int .u64 a, .int .i64 w], 1, true⟩ := by
    rw [s3 h.next (by simp) (by simp [sblk]), blks_alloc_eq]
  simp -dsimp (disch := omega) [hb, hb3]
  have hne : sblk (.slice va3 (0 + L.length) vc3) ≠ some h.next := fun e => by
    rcases b3 _ e with e | e
    · simp [sblk] at e
    · simp only [Hp.next_alloc] at e; omega
  simp only [Nat.zero_add, List.nil_append] at hne r3
  refine RetF.all (r := ptr h.next) (by simp) (hK _ _ (.slice va3 L.length vc3) ⟨by simp; omega, fun i hi => ?_⟩ ⟨blks_set_eq _ _ _, Row.set r3 _ _ hne, by simp; omega, Nat.le_refl _, by simp; omega, hne, q.N1, q.a1, q.w0, q.ok, q.uq⟩)
  rw [blks_set_ne _ _ _ _ (by omega), s3 i (by simp; omega) (by simp [sblk]), blks_alloc_ne _ _ _ (by omega)]

def tb42 : Nat → Marks := fun k => if k = 4 then ⟨[9, 13, 17], fun _ => True⟩ else ⟨[], fun _ => True⟩
@[simp] theorem tb42_l4 : (tb42 4).l = [9, 13, 17] := rfl
@[simp] theorem tb42_R (k x : Nat) : (tb42 k).R x := by unfold tb42; split <;> trivial
theorem part_call {m2 r2 N2 : Nat} {v2 : Value} {L2 : By} {a2 : Nat} {w2 : Int} (q : Rf m h r N v L a w) (q2 : Rf m2 h r2 N2 v2 L2 a2 w2) (hl : L.length ≤ 1000000) (hl2 : L2.length ≤ 1000000) (hK : K (.bool (decide (∀ e ∈ L, look L2 e.1 = e.2))) h) : ACall prog 42 [ptr r, ptr r2] h K := by
  refine acallF_of tb42 func42 rfl rfl mixed (by kernel_rfl) fun hwf => ?_
  have hb := q.blk
  have hN := q.N1
  obtain ⟨n, hn⟩ : ∃ n, n = L.length := ⟨_, rfl⟩
  obtain ⟨va, vc, hv⟩ := q.row.slice
  rw [← hn] at hl hv
  subst hv
  simp -dsimp (disch := omega)
  refine awp_loop (fun t h' => h' = h ∧ ∃ k : Nat, k ≤ n ∧ t 0 = ptr r ∧ t 1 = ptr r2 ∧ t 5 = .int .i64 k ∧ ∀ e ∈ L.take k, look L2 e.1 = e.2) (fun t _ => n - ivN (t 5)) ?_ ?_
  · simp -dsimp (disch := omega)
    exact ⟨0, by omega, rfl, by simp⟩
  · rintro t h' ⟨rfl, k, hk, g0, g1, g5, hall⟩
    refine vcF_sound mixed (tb := tb42) _ (by kernel_rfl) ?_
    by_cases hc : k < n
    · obtain ⟨e, hx⟩ : ∃ e, L[k]? = some e := ⟨_, List.getElem?_eq_getElem (hn ▸ hc)⟩
      obtain ⟨b, e1, e2, e3, e4⟩ := row_el q.row hx
      cases e1
      obtain ⟨y, z⟩ := e
      simp only at e3 e4
      obtain ⟨o1, o2⟩ := q.ok _ (List.mem_of_getElem? hx)
      simp only at o1 o2
      simp -dsimp (disch := omega) [g0, g1, g5, hb, hc, e2, e3, e4, -getElem?_pos]
      refine byte_call q2 hl2 ?_
      by_cases hz : look L2 y = z
      · rw [hz]
        simp -dsimp (disch := omega) [g0, g1, g5, hb, hc, e2, e3, e4, -getElem?_pos]
        refine ⟨⟨k + 1, by omega, by simp, fun y' z' hd => ?_⟩, by simp [ivN]; omega⟩
        rw [List.take_add_one, hx] at hd
        rcases List.mem_append.1 hd with hd | hd
        · exact hall (y', z') hd
        · obtain ⟨rfl, rfl⟩ : y' = y ∧ z' = z := by simpa using hd
          exact hz
      · rw [decide_eq_false fun h => hz (h _ (List.mem_of_getElem? hx))] at hK
        have hz' : ¬ ((look L2 y : Nat) : Int) = z := by omega
        simp -dsimp (disch := omega) [g0, g1, g5, hb, hc, e2, e3, e4, hz, hz', -getElem?_pos]
        exact RetF.same hwf (by simp) (Nat.zero_le _) (fun _ _ => rfl) hK
    · rw [decide_eq_true fun e he => hall e (by rw [show k = L.length from by omega, List.take_length]; exact he)] at hK
      simp -dsimp (disch := omega) [g0, g1, g5, hb, hc]
      exact RetF.same hwf (by simp) (Nat.zero_le _) (fun _ _ => rfl) hK
end
end Go.Proofs.Ytgafaelakjnemaa
