/-
  The document's Build, Which and Due.
-/
import Derived.Test.YtcfgagpjdhhddaaD12
set_option linter.unusedSimpArgs false
set_option linter.unusedVariables false
set_option linter.unusedSectionVars false
namespace Go.Proofs.Ytcfgagpjdhhddaa
open Go Go.Mini Go.Proofs.Try

/-- What the document's Bytes gives for a width of four. -/
def val4 : List Value → Value
  | [.int _ n, _] => .string (txt (digs n 4))
  | _ => undef
theorem val4_eq (k : IntKind) (n : Int) (x : Value) : val4 [.int k n, x] = .string (txt (digs n 4)) := rfl
abbrev nv16 : NVal := ⟨fun _ => val4⟩
theorem nv16_f (i : Nat) : @NVal.f nv16 i = val4 := rfl
def tb16 : Nat → Marks := fun k => if k = 5 then @Marks.mk [3000007, 3000028] (fun _ => True) nv16 else ⟨[], fun _ => True⟩
theorem tb16_5 : tb16 5 = @Marks.mk [3000007, 3000028] (fun _ => True) nv16 := rfl

theorem refBuild_call {l : List Ev} {v : Value} {h : Hp} {K : Value → Hp → Prop} (hl : l.length ≤ 200000) (hok : ∀ e ∈ l, e.ok) (hv : Sl h 4 l.length (evsC l) v) (hK : K (.string (txt (buildL l))) h) : ACall prog 16 [v] h K := by
  refine acallF_of tb16 func16 rfl rfl mixed (by kernel_rfl) fun hwf => ?_
  have hvb := sblk_lt (hwf.args v (by simp))
  obtain ⟨va, vc, rfl⟩ := hv.slice
  simp -dsimp (disch := omega)
  refine awp_loop (fun t h' => Ext h h' ∧ ∃ k : Nat, k ≤ l.length ∧ t 0 = .slice va l.length vc ∧ t 4 = .int .i64 k ∧ t 3 = .string (txt (buildL (l.take k)))) (fun t _ => l.length - ivN (t 4)) ?_ ?_
  · simp -dsimp (disch := omega)
    exact ⟨Ext.refl h, 0, by omega, rfl, rfl⟩
  · rintro t h' ⟨he, k, hk, g0, g4, g3⟩
    refine vcF_sound mixed (tb := tb16) _ (by kernel_rfl) ?_
    simp -dsimp (disch := omega) [g0, g3, g4]
    refine CondF_dec (fun hcc => ?_) (fun hcc => ?_)
    · obtain ⟨e, hx⟩ : ∃ e, l[k]? = some e := ⟨l[k]'(by omega), List.getElem?_eq_getElem _⟩
      obtain ⟨o1, o2, o3, o4⟩ := hok e (List.mem_of_getElem? hx)
      obtain ⟨a1, c1, b1, e1, f1, s1, x1, x2, x3, x4⟩ : ∃ a c b, Value.slice va l.length vc = .slice (some a) l.length c ∧ h.blks a.block = some b ∧ a.off + k * 4 + 4 ≤ b.cells.size ∧ b.cells[a.off + k * 4]? = some (.int .u32 e.t) ∧ b.cells[a.off + k * 4 + 1]? = some (.int .u8 e.g) ∧ b.cells[a.off + k * 4 + 2]? = some (.int .u8 e.k) ∧ b.cells[a.off + k * 4 + 3]? = some (.int .u32 e.v) := by
        obtain ⟨h0, ⟨_, _, _, h1⟩ | ⟨a, c, b, q1, h2, h3, h4⟩⟩ := hv
        · omega
        · obtain ⟨c1, c2, c3, c4⟩ := evsC_at l k e hx
          exact ⟨a, c, b, q1, h2, by omega, (h4 _ (by omega)).trans c1, (by have := h4 (k * 4 + 1) (by omega); rw [← Nat.add_assoc] at this; exact this.trans c2), (by have := h4 (k * 4 + 2) (by omega); rw [← Nat.add_assoc] at this; exact this.trans c3), (by have := h4 (k * 4 + 3) (by omega); rw [← Nat.add_assoc] at this; exact this.trans c4)⟩
      cases e1
      have hf : h'.blks a1.block = some b1 := by rw [he.same _ (hvb _ rfl)]; exact f1
      have hlt : a1.block < h'.next := by have := hvb _ rfl; have := he.le; omega
      have hlen := buildL_length (l.take k)
      rw [List.length_take] at hlen
      simp -dsimp (disch := omega) [g0, g3, g4, hf, s1, x1, x2, x3, x4, tb16_5, nv16_f, -getElem?_pos]
      refine NeuF_intro (.string (txt (digs e.t 4))) (by simp -dsimp [g0, g3, g4]; rfl) rfl (fun h2 => ?_) ?_
      · simp -dsimp (disch := omega) [g0, g3, g4]
        exact refBytes_call (by omega) ⟨rfl, rfl⟩
      simp -dsimp (disch := first | omega | (simp [digs_length]; omega)) [g0, g3, g4, hf, s1, x1, x2, x3, x4, tb16_5, nv16_f, -getElem?_pos]
      refine NeuF_intro (.string (txt (digs e.v 4))) (by simp -dsimp [g0, g3, g4]; rfl) rfl (fun h2 => ?_) ?_
      · simp -dsimp (disch := omega) [g0, g3, g4]
        exact refBytes_call (by omega) ⟨rfl, rfl⟩
      simp -dsimp (disch := first | omega | (simp [digs_length]; omega)) [g0, g3, g4, hf, s1, x1, x2, x3, x4, tb16_5, nv16_f, -getElem?_pos]
      refine ⟨⟨he.then_alloc _, k + 1, by omega, by simp, ?_⟩, by simp [ivN]; omega⟩
      have d1 : ∀ N : Nat, N < 256 → digs (N : Int) 1 = [UInt8.ofNat N] := fun N hN => by rw [digs_front, digs_zero, Nat.mod_eq_of_lt hN]
      rw [take_snoc hx, buildL_snoc, bytesE_eq, d1 _ o2, d1 _ o3]
      simp
    · have hkl : k = l.length := by omega
      subst hkl
      rw [List.take_length] at g3
      simp -dsimp (disch := omega) [g0, g3, g4]
      exact RetF.same hwf (by simp) (Nat.zero_le _) he.same hK

theorem refWhich_call {e : Ev} {h : Hp} {K : Value → Hp → Prop} (he : e.ok) (hK : K (.tuple #[.int .i64 (whichE e).1, .bool (whichE e).2]) h) : ACall prog 19 [.agg (evA e)] h K := by
  obtain ⟨t, g, k, v⟩ := e
  obtain ⟨h1, h2, h3, h4⟩ := he
  simp only at h1 h2 h3 h4
  unfold evA
  refine acallF_of tb0 func19 rfl rfl mixed (by kernel_rfl) fun hwf => ?_
  unfold whichE at hK
  simp only at hK
  by_cases hk : k = 2
  · by_cases hlo : v < 8
    · rw [if_neg (by omega)] at hK
      have hlo' : ((v : Nat) : Int) < 8 := by omega
      simp -dsimp (disch := omega) [hk, hlo, hlo']
      exact RetF.same hwf (by simp) (Nat.zero_le _) (fun i hi => by simp (disch := omega)) hK
    · have hlo' : ¬ ((v : Nat) : Int) < 8 := by omega
      by_cases hhi : 15 < v
      · rw [if_neg (by omega)] at hK
        have hhi' : (15 : Int) < v := by omega
        simp -dsimp (disch := omega) [hk, hlo, hhi, hlo', hhi']
        exact RetF.same hwf (by simp) (Nat.zero_le _) (fun i hi => by simp (disch := omega)) hK
      · rw [if_pos (by omega)] at hK
        have hhi' : ¬ (15 : Int) < v := by omega
        simp -dsimp (disch := omega) [hk, hlo, hhi, hlo', hhi']
        exact RetF.same hwf (by simp; omega) (Nat.zero_le _) (fun i hi => by simp (disch := omega)) hK
  · rw [if_neg (by omega)] at hK
    have hk' : ¬ ((k : Nat) : Int) = 2 := by omega
    simp -dsimp (disch := omega) [hk, hk']
    exact RetF.same hwf (by simp) (Nat.zero_le _) (fun i hi => by simp (disch := omega)) hK

theorem refDue_call {l : List Ev} {q : Nat} {v : Value} {t : Nat} {h : Hp} {K : Value → Hp → Prop} (hn : l.length ≤ 2000000) (hok : ∀ e ∈ l, e.ok) (ht : t < 18446744073709551616) (hq : Que h q l v)
    (hK : ∀ h' v' w, Mod q h h' → Que h' q (laterL t l) v' → (∀ b, sblk v' = some b → sblk v = some b ∨ h.next ≤ b) → Row h.next h' 4 (dueL t l).length (evsC (dueL t l)) w → K w h') : ACall prog 21 [.pointer (some ⟨q, 0, none⟩), .int .u64 t] h K := by
  refine acallF_of tb0 func21 rfl rfl mixed (by kernel_rfl) fun hwf => ?_
  have hqb := hq.blk
  have hql := hq.lt
  have hvl := hq.vlt
  have hsl := hq.sl
  obtain ⟨va, vc, rfl⟩ := hsl.slice
  simp -dsimp (disch := omega) [hqb]
  refine awp_loop (fun s h' => Ext h h' ∧ ∃ k : Nat, k ≤ l.length ∧ s 0 = .pointer (some ⟨q, 0, none⟩) ∧ s 1 = .int .u64 t ∧ s 7 = .int .i64 k ∧ Two h.next h' (dueL t (l.take k)) (laterL t (l.take k)) (s 5) (s 6)) (fun s _ => l.length - ivN (s 7)) ?_ ?_
  · simp -dsimp (disch := omega)
    exact ⟨Ext.refl h, 0, by omega, rfl, Row.nil _ _ _, Row.nil _ _ _, fun b hb => by simp [sblk] at hb⟩
  · rintro s h' ⟨he, k, hk, g0, g1, g7, h2⟩
    refine vcF_sound mixed (tb := tb0) _ (by kernel_rfl) ?_
    have hqb' : h'.blks q = some ⟨#[.slice va l.length vc], 1, true⟩ := by rw [he.same q hql]; exact hqb
    simp -dsimp (disch := omega) [g0, g1, g7, hqb']
    have hn0 := he.le
    refine CondF_dec (fun hcc => ?_) (fun hcc => ?_)
    · obtain ⟨e, hx⟩ : ∃ e, l[k]? = some e := ⟨l[k]'(by omega), List.getElem?_eq_getElem _⟩
      obtain ⟨a, c, b, q1, f1, s1, x1, y1, y2⟩ := sl_ev2 hsl hx
      cases q1
      have hf : h'.blks a.block = some b := by rw [he.same _ (hvl _ rfl).1]; exact f1
      obtain ⟨o1, _⟩ := hok e (List.mem_of_getElem? hx)
      have q2 := dueL_len t (l.take k)
      have q3 := laterL_len t (l.take k)
      rw [List.length_take] at q2 q3
      have hds := dueL_snoc t (l.take k) e
      have hls := laterL_snoc t (l.take k) e
      rw [← take_snoc hx] at hds hls
      by_cases hd : e.t ≤ t
      · have hd' : (e.t : Int) ≤ t := by omega
        rw [if_pos hd] at hds hls
        simp -dsimp (disch := omega) [g0, g1, g7, hqb', hf, s1, x1, y1, hd, hd', -getElem?_pos]
        refine app_row (h2.a.alloc _) (by simp; omega) (src_slice _ _ _ _ _ (evA e) (by simp [evA])) (by omega) (by simp [evA]) (by unfold ROOM; omega) ?_
        intro v' h3 r3 n3 b3 s3
        simp -dsimp (disch := omega) [g0, g1, g7]
        simp at n3 b3
        have hs4 : ∀ j, j < h'.next → sblk (s 5) ≠ some j → h3.blks j = h'.blks j := fun j hj hd => by
          rw [s3 j (by simp; omega) hd]; simp (disch := omega)
        have hnk : ∀ i, i < h.next → sblk (s 5) ≠ some i := fun i hi e => by have := (h2.a.blk i e).1; omega
        refine ⟨⟨⟨by omega, fun i hi => by rw [hs4 i (by omega) (hnk i hi)]; exact he.same i hi⟩, k + 1, by omega, by simp, ?_⟩, by simp [ivN]; omega⟩
        rw [hds, hls]
        exact h2.add (x := h'.next + 1) (by simpa [evA, evC] using r3) b3 (by omega) hs4 (by omega)
      · have hd' : ¬ (e.t : Int) ≤ t := by omega
        rw [if_neg hd] at hds hls
        simp -dsimp (disch := omega) [g0, g1, g7, hqb', hf, s1, x1, y1, hd, hd', -getElem?_pos]
        refine app_row (h2.b.alloc _) (by simp; omega) (src_slice _ _ _ _ _ (evA e) (by simp [evA])) (by omega) (by simp [evA]) (by unfold ROOM; omega) ?_
        intro v' h3 r3 n3 b3 s3
        simp -dsimp (disch := omega) [g0, g1, g7]
        simp at n3 b3
        have hs4 : ∀ j, j < h'.next → sblk (s 6) ≠ some j → h3.blks j = h'.blks j := fun j hj hd => by
          rw [s3 j (by simp; omega) hd]; simp (disch := omega)
        have hnk : ∀ i, i < h.next → sblk (s 6) ≠ some i := fun i hi e => by have := (h2.b.blk i e).1; omega
        refine ⟨⟨⟨by omega, fun i hi => by rw [hs4 i (by omega) (hnk i hi)]; exact he.same i hi⟩, k + 1, by omega, by simp, ?_⟩, by simp [ivN]; omega⟩
        rw [hds, hls]
        exact (h2.swap.add (x := h'.next + 1) (by simpa [evA, evC] using r3) b3 (by omega) hs4 (by omega)).swap
    · have hkl : k = l.length := by omega
      subst hkl
      rw [List.take_length] at h2
      obtain ⟨wa, wc, g5⟩ := h2.b.slice
      obtain ⟨xa, xc, g4⟩ := h2.a.slice
      rw [g4, g5] at h2
      simp -dsimp (disch := omega) [g0, g1, g4, g5, g7, hqb']
      have hw : ∀ b, sblk (.slice wa (laterL t l).length wc) = some b → h.next ≤ b ∧ b < h'.next := h2.b.blk
      have hx : ∀ b, sblk (.slice xa (dueL t l).length xc) = some b → h.next ≤ b ∧ b < h'.next := h2.a.blk
      refine RetF.all (by simp) (hK _ _ _ ⟨by simpa using hn0, fun i hi hs => by rw [blks_set_ne _ _ _ _ hs]; exact he.same i hi⟩ ⟨by rw [blks_set_eq], (row_sl h2.b).mono fun b hb => blks_set_ne _ _ _ _ (by have := hw b hb; omega), by simp; omega, fun b hb => by have := hw b hb; simp; omega⟩ (fun b hb => .inr (hw b hb).1) (h2.a.set _ _ fun e => by have := hx _ e; omega))

end Go.Proofs.Ytcfgagpjdhhddaa
