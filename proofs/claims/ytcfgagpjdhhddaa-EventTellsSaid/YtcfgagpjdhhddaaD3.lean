/-
  Parse.
-/
import Derived.Test.YtcfgagpjdhhddaaD2
set_option linter.unusedSimpArgs false
set_option linter.unusedVariables false
set_option linter.unusedSectionVars false
namespace Go.Proofs.Ytcfgagpjdhhddaa
open Go Go.Mini Go.Proofs.Try

/-- The greatest T of each guest. -/
def arr (A : Nat → Nat) : Array Value := ((List.range 256).map fun i => Value.int .u32 (A i)).toArray
@[simp] theorem arr_size (A : Nat → Nat) : (arr A).size = 256 := by simp [arr]
@[simp] theorem arr_get (A : Nat → Nat) (i : Nat) (h : i < (arr A).size) : (arr A)[i] = .int .u32 (A i) := by simp [arr]
theorem arr_at (A : Nat → Nat) (i : Nat) (hi : i < 256) : (arr A)[i]? = some (.int .u32 (A i)) := by simp [arr, hi]
theorem arr_set (A : Nat → Nat) (k v : Nat) (hk : k < 256) : (arr A).setIfInBounds k (.int .u32 v) = arr (fun i => if i = k then v else A i) := by
  apply Array.ext
  · simp
  · intro i h1 h2
    simp only [arr_size] at h2
    rw [Array.getElem_setIfInBounds (by simpa using h2)]
    simp only [arr, List.getElem_toArray, List.getElem_map, List.getElem_range]
    by_cases hik : i = k
    · simp [hik]
    · rw [if_neg (Ne.symm hik), if_neg hik]
theorem arr_zero : repV 256 (.int .u32 0) = arr (fun _ => 0) := by
  have : ∀ (n : Nat) (v : Value), List.replicate n v = (List.range n).map fun _ => v := fun n v => by rw [List.map_const', List.length_range]
  unfold repV arr
  rw [this]
  rfl
theorem evsC_snoc (l : List Ev) (e : Ev) : evsC (l ++ [e]) = evsC l ++ evC e := by simp [evsC]
theorem drC_snoc (l : List (Nat × Nat)) (d : Nat × Nat) : drC (l ++ [d]) = drC l ++ [.int .i64 d.1, .int .u8 d.2] := by simp [drC]
theorem great_le (l : List Ev) (g : Nat) (h : ∀ e ∈ l, e.ok) : great l g < 4294967296 := by
  unfold great
  have : ∀ (l : List Ev) (n : Nat), n < 4294967296 → (∀ e ∈ l, e.ok) → l.foldl (fun n e => if e.g = g ∧ n < e.t then e.t else n) n < 4294967296 := by
    intro l
    induction l with
    | nil => intro n hn _; exact hn
    | cons e l ih =>
      intro n hn he
      refine ih _ ?_ fun x hx => he x (by simp [hx])
      have := (he e (by simp)).1
      show (if e.g = g ∧ n < e.t then e.t else n) < 4294967296
      split <;> omega
  exact this l 0 (by omega) h

/-- What the two lists are, and that they are apart. -/
structure Lists (m : Nat) (h : Hp) (kp : List Ev) (dr : List (Nat × Nat)) (vk vd : Value) : Prop where
  k : Row m h 4 kp.length (evsC kp) vk
  d : Row m h 2 dr.length (drC dr) vd
  ne : ∀ b, sblk vk = some b → sblk vd ≠ some b
theorem Lists.mono {m : Nat} {h h' : Hp} {kp : List Ev} {dr : List (Nat × Nat)} {vk vd : Value} (l : Lists m h kp dr vk vd) (hn : h.next ≤ h'.next) (hs : ∀ b, m ≤ b → b < h.next → h'.blks b = h.blks b) : Lists m h' kp dr vk vd :=
  ⟨l.k.mono hn fun b hb => hs b (l.k.blk b hb).1 (l.k.blk b hb).2, l.d.mono hn fun b hb => hs b (l.d.blk b hb).1 (l.d.blk b hb).2, l.ne⟩

theorem Lists.drop {m : Nat} {h h3 : Hp} {kp : List Ev} {dr : List (Nat × Nat)} {vk vd v' : Value} {n W x : Nat} (l : Lists m h kp dr vk vd) (r3 : Row m h3 2 (dr.length + 1) (drC dr ++ [.int .i64 n, .int .u8 W]) v') (b3 : sblk v' = some x) (hx : h.next ≤ x) (hs : ∀ j, j < h.next → sblk vd ≠ some j → h3.blks j = h.blks j) (hn : h.next ≤ h3.next) : Lists m h3 kp (dr ++ [(n, W)]) vk v' :=
  ⟨l.k.mono hn fun b hb => hs b (l.k.blk b hb).2 (l.ne b hb), by rw [drC_snoc, List.length_append]; exact r3, fun b hb hb' => by have := (l.k.blk b hb).2; rw [b3] at hb'; cases hb'; omega⟩
theorem Lists.keep {m : Nat} {h h3 : Hp} {kp : List Ev} {dr : List (Nat × Nat)} {vk vd v' : Value} {e : Ev} {x : Nat} (l : Lists m h kp dr vk vd) (r3 : Row m h3 4 (kp.length + 1) (evsC kp ++ evC e) v') (b3 : sblk v' = some x) (hx : h.next ≤ x) (hs : ∀ j, j < h.next → sblk vk ≠ some j → h3.blks j = h.blks j) (hn : h.next ≤ h3.next) : Lists m h3 (kp ++ [e]) dr v' vd :=
  ⟨by rw [evsC_snoc, List.length_append]; exact r3, l.d.mono hn fun b hb => hs b (l.d.blk b hb).2 fun hq => l.ne b hq hb, fun b hb hb' => by have := (l.d.blk b hb').2; rw [b3] at hb; cases hb; omega⟩
theorem Srce.same {h h' : Hp} {s p q : Nat} {S : ByteArray} {a l : Int} {t : Bool} (hs : Srce h s p q S a l t) (hn : h.next ≤ h'.next) (h1 : h'.blks s = h.blks s) (h2 : h'.blks p = h.blks p) (h3 : h'.blks q = h.blks q) : Srce h' s p q S a l t :=
  ⟨by rw [h1]; exact hs.bs, by rw [h2]; exact hs.bp, by rw [h3]; exact hs.bq, Nat.lt_of_lt_of_le hs.ls hn, Nat.lt_of_lt_of_le hs.lp hn, Nat.lt_of_lt_of_le hs.lq hn, hs.ps, hs.qs, hs.at0, hs.left0, hs.sum, hs.len⟩

theorem row_low {m m' : Nat} {h : Hp} {esz n : Nat} {cs : List Value} {v : Value} (hr : Row m h esz n cs v) (hm : m' ≤ m) : Row m' h esz n cs v := by
  obtain ⟨h0, ⟨rfl, rfl⟩ | ⟨b, h1, h2, rfl, h3⟩⟩ := hr
  · exact ⟨h0, .inl ⟨rfl, rfl⟩⟩
  · exact ⟨h0, .inr ⟨b, by omega, h2, rfl, h3⟩⟩
theorem Lists.low {m m' : Nat} {h : Hp} {kp : List Ev} {dr : List (Nat × Nat)} {vk vd : Value} (l : Lists m h kp dr vk vd) (hm : m' ≤ m) : Lists m' h kp dr vk vd := ⟨row_low l.k hm, row_low l.d hm, l.ne⟩

theorem parse_call {guests : Int} {L : List UInt8} {h : Hp} {K : Value → Hp → Prop} (hl : L.length ≤ 2000000)
    (hK : ∀ h' vk vd, Ext h h' → Lists h.next h' (parse guests L).1 (parse guests L).2 vk vd → K (.tuple #[vk, vd]) h') : ACall prog 11 [.string (txt L), .int .i64 guests] h K := by
  refine acallF_of tb0 func11 rfl rfl mixed (by kernel_rfl) fun hwf => ?_
  simp -dsimp (disch := omega)
  refine of_call (by rw [txt_size]; omega) ?_
  intro h1 s p q hs hs1 hs2 hs3 he1
  rw [txt_size] at hs
  have n1 := he1.le
  have ls := hs.ls
  have lp := hs.lp
  have lq := hs.lq
  simp -dsimp (disch := omega)
  refine awp_loop (fun t h' => Ext h h' ∧ ∃ n : Nat, 10 * n ≤ L.length ∧ Srce h' s p q (txt L) (10 * n : Nat) (L.length - (10 * n : Nat)) false ∧ h1.next < h'.next ∧ h'.blks h1.next = some ⟨arr (great (pst guests (recs L) n).1), 1, true⟩ ∧ Lists (h1.next + 1) h' (pst guests (recs L) n).1 (pst guests (recs L) n).2 (t 4) (t 5) ∧ t 1 = .int .i64 guests ∧ t 6 = .pointer (some ⟨s, 0, none⟩) ∧ t 7 = .pointer (some ⟨h1.next, 0, none⟩) ∧ t 8 = .int .i64 n) (fun t _ => L.length - ivN (t 8)) ?_ ?_
  · simp -dsimp (disch := omega)
    refine ⟨he1.then_alloc _, 0, by omega, by simpa using hs.alloc _, ?_, ⟨Row.nil _ _ _, Row.nil _ _ _, fun b hb => by simp [sblk] at hb⟩, rfl⟩
    rw [arr_zero]; rfl
  · rintro t h' ⟨he, n, hn, hsr, hnx, hla, hli, g1, g6, g7, g8⟩
    refine vcF_sound mixed (tb := tb0) _ (by kernel_rfl) ?_
    simp -dsimp (disch := omega) [g1, g6, g7, g8]
    refine left_call hsr ?_
    simp -dsimp (disch := omega) [g1, g6, g7, g8]
    refine CondF_dec (fun hcc => ?_) (fun hcc => ?_)
    · by_cases hten : 10 * n + 10 ≤ L.length
      · simp -dsimp (disch := omega) [g1, g6, g7, g8]
        refine read_fine hsr (by omega) fun h2 m2 s2 => ?_
        simp -dsimp (disch := omega) [g1, g6, g7, g8, evA]
        have hok : (recA L (10 * n)).ok := recA_ok L _
        have hp1 : pst guests (recs L) (n + 1) = if whyE guests (pst guests (recs L) n).1 (recA L (10 * n)) = 0 then ((pst guests (recs L) n).1 ++ [recA L (10 * n)], (pst guests (recs L) n).2) else ((pst guests (recs L) n).1, (pst guests (recs L) n).2 ++ [(n, whyE guests (pst guests (recs L) n).1 (recA L (10 * n)))]) := rfl
        have hgl := great_le (pst guests (recs L) n).1 (recA L (10 * n)).g (pst_ok (fun i => recA_ok L _) n)
        have hpl := pst_len guests (recs L) n
        generalize recA L (10 * n) = E at *
        generalize pst guests (recs L) n = S at *
        obtain ⟨o1, o2, o3, o4⟩ := hok
        have hm : ∀ {h : Hp} {K : Value → Hp → Prop}, K (.bool (mayE E)) h → ACall prog 28 [.agg #[.int .u32 E.t, .int .u8 E.g, .int .u8 E.k, .int .u32 E.v]] h K := fun hK => may_call ⟨o1, o2, o3, o4⟩ hK
        have q1 := m2.le
        have e2 : Ext h h2 := ⟨by have := he.le; omega, fun i hi => by rw [m2.same i (by have := he.le; omega) (by omega)]; exact he.same i hi⟩
        have hla2 : h2.blks h1.next = some ⟨arr (great S.1), 1, true⟩ := by rw [m2.same _ hnx (by omega)]; exact hla
        have hli2 : Lists (h1.next + 1) h2 S.1 S.2 (t 4) (t 5) := hli.mono q1 fun b hb1 hb2 => m2.same b hb2 (by omega)
        refine hm ?_
        have hne : ∀ i, i ≤ h1.next → sblk (t 5) ≠ some i := fun i hi e => by have := (hli2.d.blk i e).1; omega
        have hnk : ∀ i, i ≤ h1.next → sblk (t 4) ≠ some i := fun i hi e => by have := (hli2.k.blk i e).1; omega
        by_cases w1 : mayE E = false
        · have hw : whyE guests S.1 E = 1 := by unfold whyE; rw [if_pos w1]
          rw [w1]
          simp -dsimp (disch := omega) [g1, g6, g7, g8]
          refine app_row ((hli2.d.alloc _).alloc _) (by simp; omega) (src_slice _ _ _ _ _ #[.int .i64 n, .int .u8 1] (by simp)) (by omega) (by simp) (by unfold ROOM; omega) ?_
          intro v' h3 r3 n3 b3 s3
          simp at n3 b3
          simp -dsimp (disch := omega) [g1, g6, g7, g8]
          have hs4 : ∀ j, j < h2.next → sblk (t 5) ≠ some j → h3.blks j = h2.blks j := fun j hj hd => by
            rw [s3 j (by simp; omega) hd]; simp (disch := omega)
          rw [if_neg (by rw [hw]; omega), hw] at hp1
          refine ⟨⟨⟨by omega, fun i hi => by rw [hs4 i (by omega) (hne i (by omega))]; exact e2.same i hi⟩, n + 1, by omega, ?_, by omega, ?_, ?_, by simp⟩, by simp [ivN]; omega⟩
          · refine Srce.same (h := h2) ?_ (by omega) (hs4 _ (by omega) (hne _ (by omega))) (hs4 _ (by omega) (hne _ (by omega))) (hs4 _ (by omega) (hne _ (by omega)))
            rw [show (10 : Int) * ((n + 1 : Nat) : Int) = ((10 * n + 10 : Nat) : Int) from by omega, show (L.length : Int) - ((10 * n + 10 : Nat) : Int) = L.length - ((10 * n : Nat) : Int) - 10 from by omega]
            exact s2
          · rw [hp1, hs4 _ (by omega) (hne _ (by omega))]; exact hla2
          · rw [hp1]; exact hli2.drop (W := 1) r3 b3 (by omega) hs4 (by omega)
        have w1' : mayE E = true := by simpa using w1
        rw [w1']
        by_cases w2 : guests ≤ E.g
        · have hw : whyE guests S.1 E = 2 := by unfold whyE; rw [if_neg w1, if_pos w2]
          simp -dsimp (disch := omega) [g1, g6, g7, g8, w2]
          refine app_row ((hli2.d.alloc _).alloc _) (by simp; omega) (src_slice _ _ _ _ _ #[.int .i64 n, .int .u8 2] (by simp)) (by omega) (by simp) (by unfold ROOM; omega) ?_
          intro v' h3 r3 n3 b3 s3
          simp at n3 b3
          simp -dsimp (disch := omega) [g1, g6, g7, g8]
          have hs4 : ∀ j, j < h2.next → sblk (t 5) ≠ some j → h3.blks j = h2.blks j := fun j hj hd => by
            rw [s3 j (by simp; omega) hd]; simp (disch := omega)
          rw [if_neg (by rw [hw]; omega), hw] at hp1
          refine ⟨⟨⟨by omega, fun i hi => by rw [hs4 i (by omega) (hne i (by omega))]; exact e2.same i hi⟩, n + 1, by omega, ?_, by omega, ?_, ?_, by simp⟩, by simp [ivN]; omega⟩
          · refine Srce.same (h := h2) ?_ (by omega) (hs4 _ (by omega) (hne _ (by omega))) (hs4 _ (by omega) (hne _ (by omega))) (hs4 _ (by omega) (hne _ (by omega)))
            rw [show (10 : Int) * ((n + 1 : Nat) : Int) = ((10 * n + 10 : Nat) : Int) from by omega, show (L.length : Int) - ((10 * n + 10 : Nat) : Int) = L.length - ((10 * n : Nat) : Int) - 10 from by omega]
            exact s2
          · rw [hp1, hs4 _ (by omega) (hne _ (by omega))]; exact hla2
          · rw [hp1]; exact hli2.drop (W := 2) r3 b3 (by omega) hs4 (by omega)
        by_cases w3 : E.t < great S.1 E.g
        · have hw : whyE guests S.1 E = 3 := by unfold whyE; rw [if_neg w1, if_neg w2, if_pos w3]
          have w3' : ((E.t : Nat) : Int) < great S.1 E.g := by omega
          simp -dsimp (disch := omega) [g1, g6, g7, g8, w2, w3, w3', hla2, arr_at]
          refine app_row ((hli2.d.alloc _).alloc _) (by simp; omega) (src_slice _ _ _ _ _ #[.int .i64 n, .int .u8 3] (by simp)) (by omega) (by simp) (by unfold ROOM; omega) ?_
          intro v' h3 r3 n3 b3 s3
          simp at n3 b3
          simp -dsimp (disch := omega) [g1, g6, g7, g8]
          have hs4 : ∀ j, j < h2.next → sblk (t 5) ≠ some j → h3.blks j = h2.blks j := fun j hj hd => by
            rw [s3 j (by simp; omega) hd]; simp (disch := omega)
          rw [if_neg (by rw [hw]; omega), hw] at hp1
          refine ⟨⟨⟨by omega, fun i hi => by rw [hs4 i (by omega) (hne i (by omega))]; exact e2.same i hi⟩, n + 1, by omega, ?_, by omega, ?_, ?_, by simp⟩, by simp [ivN]; omega⟩
          · refine Srce.same (h := h2) ?_ (by omega) (hs4 _ (by omega) (hne _ (by omega))) (hs4 _ (by omega) (hne _ (by omega))) (hs4 _ (by omega) (hne _ (by omega)))
            rw [show (10 : Int) * ((n + 1 : Nat) : Int) = ((10 * n + 10 : Nat) : Int) from by omega, show (L.length : Int) - ((10 * n + 10 : Nat) : Int) = L.length - ((10 * n : Nat) : Int) - 10 from by omega]
            exact s2
          · rw [hp1, hs4 _ (by omega) (hne _ (by omega))]; exact hla2
          · rw [hp1]; exact hli2.drop (W := 3) r3 b3 (by omega) hs4 (by omega)
        have hw : whyE guests S.1 E = 0 := by unfold whyE; rw [if_neg w1, if_neg w2, if_neg w3]
        have w3' : ¬ ((E.t : Nat) : Int) < great S.1 E.g := by omega
        simp -dsimp (disch := omega) [g1, g6, g7, g8, w2, w3, w3', hla2, arr_at]
        refine app_row ((hli2.k.alloc _).alloc _) (by simp; omega) (src_slice _ _ _ _ _ (evA E) (by simp [evA])) (by omega) (by simp [evA]) (by unfold ROOM; omega) ?_
        intro v' h3 r3 n3 b3 s3
        simp at n3 b3
        have hs4 : ∀ j, j < h2.next → sblk (t 4) ≠ some j → h3.blks j = h2.blks j := fun j hj hd => by
          rw [s3 j (by simp; omega) hd]; simp (disch := omega)
        have hla3 : h3.blks h1.next = some ⟨arr (great S.1), 1, true⟩ := by rw [hs4 _ (by omega) (hnk _ (by omega))]; exact hla2
        have hev : h3.blks h2.next = some ⟨#[.int .u32 E.t, .int .u8 E.g, .int .u8 E.k, .int .u32 E.v], 1, true⟩ := by
          rw [s3 _ (by simp; omega) fun e => by have := (hli2.k.blk _ e).2; omega]; simp (disch := omega)
        have hset := arr_set (great S.1) E.g E.t o2
        have hgr : (fun i => if i = E.g then E.t else great S.1 i) = great (S.1 ++ [E]) := by
          funext i
          rw [great_snoc]
          by_cases hi : i = E.g
          · subst hi
            rw [if_pos rfl]
            by_cases hlt : great S.1 E.g < E.t
            · rw [if_pos ⟨rfl, hlt⟩]
            · rw [if_neg (fun q => hlt q.2)]; omega
          · rw [if_neg hi, if_neg (fun q => hi q.1.symm)]
        rw [hgr] at hset
        simp -dsimp (disch := omega) [g1, g6, g7, g8, hla3, hev, hset]
        rw [if_pos (by rw [hw])] at hp1
        refine ⟨⟨⟨by simp; omega, fun i hi => by rw [blks_set_ne _ _ _ _ (by omega), hs4 i (by omega) (hnk i (by omega))]; exact e2.same i hi⟩, n + 1, by omega, ?_, by omega, ?_, ?_, by simp⟩, by simp [ivN]; omega⟩
        · refine Srce.same (h := h2) ?_ (by simp; omega) (by rw [blks_set_ne _ _ _ _ (by omega)]; exact hs4 _ (by omega) (hnk _ (by omega))) (by rw [blks_set_ne _ _ _ _ (by omega)]; exact hs4 _ (by omega) (hnk _ (by omega))) (by rw [blks_set_ne _ _ _ _ (by omega)]; exact hs4 _ (by omega) (hnk _ (by omega)))
          rw [show (10 : Int) * ((n + 1 : Nat) : Int) = ((10 * n + 10 : Nat) : Int) from by omega, show (L.length : Int) - ((10 * n + 10 : Nat) : Int) = L.length - ((10 * n : Nat) : Int) - 10 from by omega]
          exact s2
        · rw [hp1]
        · rw [hp1]
          exact (hli2.keep (e := E) (by simpa [evA, evC] using r3) b3 (by omega) hs4 (by omega)).mono (by simp) fun b hb1 hb2 => by rw [blks_set_ne _ _ _ _ (by omega)]
      · have hn10 : L.length / 10 = n := by omega
        have hmod : L.length % 10 ≠ 0 := by omega
        have hpe : parse guests L = ((pst guests (recs L) n).1, (pst guests (recs L) n).2 ++ [(n, 1)]) := by unfold parse; rw [if_neg hmod, hn10]
        rw [hpe] at hK
        have hpl := pst_len guests (recs L) n
        generalize pst guests (recs L) n = S at *
        simp -dsimp (disch := omega) [g1, g6, g7, g8]
        refine read_torn hsr (by omega) fun a b c d h2 m2 => ?_
        have q1 := m2.le
        have e2 : Ext h h2 := ⟨by have := he.le; omega, fun i hi => by rw [m2.same i (by have := he.le; omega) (by omega)]; exact he.same i hi⟩
        have hli2 : Lists (h1.next + 1) h2 S.1 S.2 (t 4) (t 5) := hli.mono q1 fun b hb1 hb2 => m2.same b hb2 (by omega)
        have hne : ∀ i, i ≤ h1.next → sblk (t 5) ≠ some i := fun i hi e => by have := (hli2.d.blk i e).1; omega
        simp -dsimp (disch := omega) [g1, g6, g7, g8]
        refine app_row ((hli2.d.alloc _).alloc _) (by simp; omega) (src_slice _ _ _ _ _ #[.int .i64 n, .int .u8 1] (by simp)) (by omega) (by simp) (by unfold ROOM; omega) ?_
        intro v' h3 r3 n3 b3 s3
        simp at n3 b3
        simp -dsimp (disch := omega) [g1, g6, g7, g8]
        have hs4 : ∀ j, j < h2.next → sblk (t 5) ≠ some j → h3.blks j = h2.blks j := fun j hj hd => by
          rw [s3 j (by simp; omega) hd]; simp (disch := omega)
        exact RetF.all (by simp) (hK _ _ _ ⟨by omega, fun i hi => by rw [hs4 i (by omega) (hne i (by omega))]; exact e2.same i hi⟩ ((hli2.drop (W := 1) r3 b3 (by omega) hs4 (by omega)).low (by omega)))
    · have hn10 : L.length / 10 = n := by omega
      have hmod : L.length % 10 = 0 := by omega
      have hpe : parse guests L = pst guests (recs L) n := by unfold parse; rw [if_pos hmod, hn10]
      rw [hpe] at hK
      simp -dsimp (disch := omega) [g1, g6, g7, g8]
      exact RetF.all (by simp) (hK _ _ _ he (hli.low (by omega)))

end Go.Proofs.Ytcfgagpjdhhddaa
