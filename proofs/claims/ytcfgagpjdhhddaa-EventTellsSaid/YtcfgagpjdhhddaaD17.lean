/-
  The bytes of any events, which line each is of, and which are told: the law's body.
-/
import Derived.Test.YtcfgagpjdhhddaaD16
import Derived.Test.YtcfgagpjdhhddaaS5
set_option linter.unusedSimpArgs false
set_option linter.unusedVariables false
set_option linter.unusedSectionVars false
namespace Go.Proofs.Ytcfgagpjdhhddaa
open Go Go.Mini Go.Proofs.Try

theorem new3_call {m : Nat} {l : List Ev} {v : Value} {h : Hp} {K : Value → Hp → Prop} (hn : l.length ≤ 2000000) (hr : Row m h 4 l.length (evsC l) v) (hK : ∀ h' q v', Ext h h' → h.next ≤ q → Que h' q l v' → (∀ b, sblk v' = some b → h.next ≤ b) → K (.pointer (some ⟨q, 0, none⟩)) h') : ACall prog 17 [v] h K := by
  refine acallF_of tb0 func17 rfl rfl mixed (by kernel_rfl) fun hwf => ?_
  simp -dsimp (disch := omega)
  refine clone_call hn hr fun h' v' he hs hb => ?_
  obtain ⟨a, c, rfl⟩ := hs.slice
  simp -dsimp (disch := omega)
  refine RetF.all (by simp) (hK _ _ _ (he.then_alloc _) he.le ⟨blks_alloc_eq _ _, hs.mono fun b hb' => blks_alloc_ne _ _ _ (by have := hb b hb'; omega), by simp, fun b hb' => by have := hb b hb'; simp; omega⟩ fun b hb' => (hb b hb').1)

def u64sC (l : List Nat) : List Value := l.map fun (n : Nat) => Value.int .u64 (n : Int)
theorem sl_u64 {h : Hp} {l : List Nat} {v : Value} {k : Nat} {x : Nat} (hv : Sl h 1 l.length (u64sC l) v) (hk : l[k]? = some x) :
    ∃ a c b, v = .slice (some a) l.length c ∧ h.blks a.block = some b ∧ a.off + k < b.cells.size ∧ b.cells[a.off + k]? = some (.int .u64 x) := by
  have hlt : k < l.length := (List.getElem?_eq_some_iff.1 hk).1
  obtain ⟨h0, ⟨_, _, _, h1⟩ | ⟨a, c, b, rfl, h2, h3, h4⟩⟩ := hv
  · omega
  · exact ⟨a, c, b, rfl, h2, by omega, (h4 k (by omega)).trans (by unfold u64sC; rw [List.getElem?_map, hk]; rfl)⟩
theorem sl_src {h : Hp} {l : List Ev} {v : Value} (hv : Sl h 4 l.length (evsC l) v) : srcCells h 4 v = some (l.length, (evsC l).toArray) := by
  have hlen := evsC_length l
  obtain ⟨h0, ⟨a, c, rfl, h1⟩ | ⟨a, c, b, rfl, h2, h3, h4⟩⟩ := hv
  · have hl : l = [] := List.length_eq_zero_iff.1 h1
    subst hl
    cases a <;> simp [srcCells, evsC]
  · rcases Nat.eq_zero_or_pos l.length with hz | hz
    · have hl : l = [] := List.length_eq_zero_iff.1 hz
      subst hl
      simp [srcCells, evsC]
    · refine src_slice _ _ _ _ _ _ ?_
      unfold Mini.rowAt
      rw [h2]
      simp only
      rw [if_pos (by omega)]
      congr 1
      apply Array.ext'
      apply List.ext_getElem?
      intro i
      rw [Array.getElem?_toList, Array.getElem?_extract]
      by_cases hi : i < l.length * 4
      · rw [if_pos (by omega)]; simpa using h4 i hi
      · rw [if_neg (by omega), List.getElem?_eq_none (by rw [hlen]; omega)]

def Ev0 : Ev := ⟨0, 0, 0, 0⟩
theorem putL_mid : ∀ (G A M C : List Value), M.length = G.length → Mini.putL (A ++ (M ++ C)).toArray A.length G = (A ++ (G ++ C)).toArray
  | [], A, M, C, h => by
    obtain rfl := List.length_eq_zero_iff.1 h
    rfl
  | v :: G, A, [], C, h => by simp at h
  | v :: G, A, m :: M, C, h => by
    rw [putL_cons]
    have e : (A ++ (m :: M ++ C)).toArray.setIfInBounds A.length v = ((A ++ [v]) ++ (M ++ C)).toArray := by
      simp
    rw [e]
    have := putL_mid G (A ++ [v]) M C (by simpa using h)
    rw [List.length_append, List.length_singleton] at this
    rw [this]
    simp
theorem evs_put {A C : List Ev} {e g : Ev} : Mini.putL (evsC (A ++ e :: C)).toArray (A.length * 4) (evC g) = (evsC (A ++ g :: C)).toArray := by
  have := putL_mid (evC g) (evsC A) (evC e) (evsC C) rfl
  rw [evsC_length] at this
  have e1 : evsC (A ++ e :: C) = evsC A ++ (evC e ++ evsC C) := by simp [evsC]
  have e2 : evsC (A ++ g :: C) = evsC A ++ (evC g ++ evsC C) := by simp [evsC]
  rw [e1, e2]
  exact this
/-- One's own list, so far wiped. -/
def wiped (l : List Ev) (k : Nat) : List Ev := List.replicate k Ev0 ++ l.drop k
theorem wiped_length {l : List Ev} {k : Nat} (h : k ≤ l.length) : (wiped l k).length = l.length := by unfold wiped; simp; omega
theorem wiped_at {l : List Ev} {k : Nat} {e : Ev} (h : l[k]? = some e) : wiped l k = List.replicate k Ev0 ++ e :: l.drop (k + 1) := by
  obtain ⟨h1, h2⟩ := List.getElem?_eq_some_iff.1 h
  unfold wiped
  rw [List.drop_eq_getElem_cons h1, h2]
theorem wiped_get {l : List Ev} {k : Nat} {e : Ev} (h : l[k]? = some e) : (wiped l k)[k]? = some e := by
  rw [wiped_at h, List.getElem?_append_right (by simp)]
  simp
theorem wiped_next {l : List Ev} {k : Nat} {e : Ev} (h : l[k]? = some e) : wiped l (k + 1) = List.replicate k Ev0 ++ Ev0 :: l.drop (k + 1) := by
  unfold wiped
  rw [List.replicate_succ', List.append_assoc]
  rfl

theorem evs_set {l : List Ev} {k : Nat} {e : Ev} (h : l[k]? = some e) : ((((evsC (wiped l k)).set (k * 4) (.int .u32 0)).set (k * 4 + 1) (.int .u8 0)).set (k * 4 + 1 + 1) (.int .u8 0)).set (k * 4 + 1 + 1 + 1) (.int .u32 0) = evsC (wiped l (k + 1)) := by
  have := congrArg Array.toList (evs_put (A := List.replicate k Ev0) (C := l.drop (k + 1)) (e := e) (g := Ev0))
  rw [← wiped_at h, ← wiped_next h] at this
  simpa [evC, Ev0, Mini.putL] using this
def tb7 : Nat → Marks := fun k => if k = 22 then ⟨[11, 15], fun _ => True⟩ else ⟨[], fun _ => True⟩
theorem tb7_15 : tb7 15 = ⟨[], fun _ => True⟩ := rfl
theorem tb7_22 : tb7 22 = ⟨[11, 15], fun _ => True⟩ := rfl

theorem eventTells_call {l : List Ev} {ts : List Nat} {v w : Value} {h : Hp} {K : Value → Hp → Prop} (hok : ∀ e ∈ l, e.ok) (hts : ∀ t ∈ ts, t < 18446744073709551616) (hv : Sl h 4 l.length (evsC l) v) (hw : Sl h 1 ts.length (u64sC ts) w) (hK : ∀ h', Ext h h' → K (.bool true) h') : ACall prog 7 [v, w] h K := by
  refine acallF_of tb7 func7 rfl rfl mixed (by kernel_rfl) fun hwf => ?_
  have hvb := sblk_lt (hwf.args v (by simp))
  have hwb := sblk_lt (hwf.args w (by simp))
  have hsrc := sl_src hv
  obtain ⟨va, vc, rfl⟩ := hv.slice
  obtain ⟨wa, wc, rfl⟩ := hw.slice
  have go : ∀ {h' : Hp} {K' : Value → Hp → Prop}, K' (.bool true) h' → ACall prog 10 [] h' K' := fun hk => awake_call hk
  by_cases hc1 : 100 < l.length
  · have hc1' : (100 : Int) < l.length := by omega
    simp -dsimp (disch := omega) [hc1, hc1']
    refine go ?_
    simp -dsimp (disch := omega)
    exact RetF.all (by simp) (hK _ (Ext.refl h))
  have hc1' : ¬ (100 : Int) < l.length := by omega
  by_cases hc2 : 60 < ts.length
  · have hc2' : (60 : Int) < ts.length := by omega
    simp -dsimp (disch := omega) [hc1, hc1', hc2, hc2']
    refine go ?_
    simp -dsimp (disch := omega)
    exact RetF.all (by simp) (hK _ (Ext.refl h))
  have hc2' : ¬ (60 : Int) < ts.length := by omega
  simp -dsimp (disch := omega) [hc1, hc1', hc2, hc2']
  refine build_call (by omega) hok hv ?_
  simp -dsimp (disch := omega)
  refine refBuild_call (by omega) hok hv ?_
  simp -dsimp (disch := omega)
  refine app_any (m := h.next) (Row.nil h.next h 4) (Nat.le_refl _) hsrc (by simpa using evsC_length l) (by unfold ROOM; omega) fun v1 h1 r1 n1 b1 s1 => ?_
  replace r1 : Row h.next h1 4 l.length (evsC l) v1 := by simpa using r1
  have e1 : Ext h h1 := ⟨n1, fun i hi => s1 i hi (by simp [sblk])⟩
  have o1 := r1.blk
  obtain ⟨oa, oc, rfl⟩ := r1.slice
  simp -dsimp (disch := omega)
  refine new3_call (by omega) r1 fun h2 q vq e2 hq1 hq hqb => ?_
  have hqs := hq.vlt
  have hql := hq.lt
  have e2l := e2.le
  simp -dsimp (disch := omega)
  have hr : Que (h2.alloc ⟨#[.slice va l.length vc], 1, true⟩) h2.next l (.slice va l.length vc) :=
    ⟨blks_alloc_eq _ _, hv.mono fun b hb => by have := hvb b hb; rw [blks_alloc_ne _ _ _ (by omega), e2.same _ (by omega), e1.same _ (by omega)], by simp, fun b hb => by have := hvb b hb; simp; omega⟩
  have hqa : Que (h2.alloc ⟨#[.slice va l.length vc], 1, true⟩) q l vq := hq.mono (by simp) (blks_alloc_ne _ _ _ (by omega)) fun b hb => blks_alloc_ne _ _ _ (by have := hqs b hb; omega)
  have hoa : Row h.next (h2.alloc ⟨#[.slice va l.length vc], 1, true⟩) 4 l.length (evsC l) (.slice oa l.length oc) := r1.mono (by simp; omega) fun b hb => by have := o1 b hb; rw [blks_alloc_ne _ _ _ (by omega), e2.same _ (by omega)]
  have ea : Ext h (h2.alloc ⟨#[.slice va l.length vc], 1, true⟩) := (e1.trans e2).then_alloc _
  generalize hH : h2.alloc ⟨#[.slice va l.length vc], 1, true⟩ = H at *
  have hHn : H.next = h2.next + 1 := by rw [← hH]; simp
  generalize hrn : h2.next = r at *
  refine awp_loop (fun t h' => Ext h h' ∧ h'.next = H.next ∧ ∃ k : Nat, k ≤ l.length ∧ t 0 = .slice va l.length vc ∧ t 1 = .slice wa ts.length wc ∧ t 5 = .slice oa l.length oc ∧ t 6 = .pointer (some ⟨q, 0, none⟩) ∧ t 7 = .pointer (some ⟨r, 0, none⟩) ∧ t 8 = .int .i64 k ∧ Row h.next h' 4 l.length (evsC (wiped l k)) (.slice oa l.length oc) ∧ Que h' q l vq ∧ Que h' r l (.slice va l.length vc)) (fun t _ => l.length - ivN (t 8)) ?_ ?_
  · simp -dsimp (disch := omega)
    exact ⟨ea, 0, by omega, rfl, hoa, hqa, hr⟩
  · rintro t h' ⟨he, hnx, k, hk, g0, g1, g5, g6, g7, g8, ro, hq', hr'⟩
    refine vcF_sound mixed (tb := tb7) _ (by kernel_rfl) ?_
    simp -dsimp (disch := omega) [g0, g1, g5, g6, g7, g8]
    refine CondF_dec (fun hcc => ?_) (fun hcc => ?_)
    · obtain ⟨e, hx⟩ : ∃ e, l[k]? = some e := ⟨l[k]'(by omega), List.getElem?_eq_getElem _⟩
      have heok := hok e (List.mem_of_getElem? hx)
      obtain ⟨a1, c1, b1', w1, f1, z1, y1⟩ := sl_ev hv hx
      cases w1
      have hf1 : h'.blks a1.block = some b1' := by rw [he.same _ (hvb _ rfl)]; exact f1
      have hwl := wiped_length (l := l) (k := k) hk
      obtain ⟨a2, c2, b2, w2, f2, z2, y2⟩ := sl_ev (l := wiped l k) (by rw [hwl]; exact row_sl ro) (wiped_get hx)
      rw [hwl] at w2
      cases w2
      obtain ⟨h0, ⟨q1, q2⟩ | ⟨ob, q1, q2, q3, q4⟩⟩ := ro
      · cases q1
      cases q3
      rw [q4] at f2
      cases f2
      simp only [Nat.zero_add] at y2 z2
      have hwh : ∀ {h : Hp} {K : Value → Hp → Prop}, K (.tuple #[.int .i64 (whichE e).1, .bool (whichE e).2]) h → ACall prog 18 [.agg #[.int .u32 e.t, .int .u8 e.g, .int .u8 e.k, .int .u32 e.v]] h K := fun hk => which_call heok hk
      have hrh : ∀ {h : Hp} {K : Value → Hp → Prop}, K (.tuple #[.int .i64 (whichE e).1, .bool (whichE e).2]) h → ACall prog 19 [.agg #[.int .u32 e.t, .int .u8 e.g, .int .u8 e.k, .int .u32 e.v]] h K := fun hk => refWhich_call heok hk
      generalize whichE e = we at *
      simp -dsimp (disch := omega) [g0, g1, g5, g6, g7, g8, hf1, z1, y1]
      refine hwh ?_
      simp -dsimp (disch := omega) [g0, g1, g5, g6, g7, g8, hf1, z1, y1]
      refine hrh ?_
      simp -dsimp (disch := omega) [g0, g1, g5, g6, g7, g8, hf1, z1, y1, q4, z2, y2, tb7_15]
      have hset := evs_set hx
      rw [hset]
      have hob : ob < r := by have := o1 ob rfl; omega
      have hobv : ∀ b, sblk vq = some b → b ≠ ob := fun b hb => by have := hqb b hb; have := o1 ob rfl; omega
      have hwl1 := wiped_length (l := l) (k := k + 1) (by omega)
      refine ⟨⟨⟨by simpa using he.le, fun i hi => by rw [blks_set_ne _ _ _ _ (by omega)]; exact he.same i hi⟩, hnx, k + 1, by omega, by simp, ?_, ?_, ?_⟩, by simp [ivN]; omega⟩
      · exact ⟨by rw [evsC_length, hwl1], .inr ⟨ob, q1, by simpa using q2, rfl, blks_set_eq _ _ _⟩⟩
      · exact hq'.mono (by simp) (blks_set_ne _ _ _ _ (by have := o1 ob rfl; omega)) fun b hb => blks_set_ne _ _ _ _ (hobv b hb)
      · exact hr'.mono (by simp) (blks_set_ne _ _ _ _ (by omega)) fun b hb => blks_set_ne _ _ _ _ (by have := hvb b hb; omega)
    · have hqv := hq'.vlt
      have hqr : q < r := hql
      simp -dsimp (disch := omega) [g0, g1, g5, g6, g7, g8]
      refine awp_loop (fun t h' => Ext h h' ∧ ∃ k : Nat, k ≤ ts.length ∧ ∃ L vq vr, (∀ e ∈ L, e.ok) ∧ L.length ≤ l.length ∧ t 1 = .slice wa ts.length wc ∧ t 6 = .pointer (some ⟨q, 0, none⟩) ∧ t 7 = .pointer (some ⟨r, 0, none⟩) ∧ t 13 = .int .i64 k ∧ Que h' q L vq ∧ Que h' r L vr ∧ (∀ b, sblk vq = some b → b ≠ r) ∧ ∀ b, sblk vr = some b → b ≠ q) (fun t _ => ts.length - ivN (t 13)) ?_ ?_
      · simp -dsimp (disch := omega) [g0, g1, g5, g6, g7, g8]
        exact ⟨he, 0, by omega, l, hok, Nat.le_refl _, rfl, vq, hq', _, hr', fun b hb => by have := hqs b hb; omega, fun b hb => by have := hvb b hb; omega⟩
      · clear g0 g1 g5 g6 g7 g8 hk hq' hr' he hcc hnx hqv ro
        rintro t h' ⟨he, k, hk, L, vq, vr, hLok, hL, g1, g6, g7, g13, hq', hr', dq, dr⟩
        refine vcF_sound mixed (tb := tb7) _ (by kernel_rfl) ?_
        simp -dsimp (disch := omega) [g1, g6, g7, g13]
        refine CondF_dec (fun hcc => ?_) (fun hcc => ?_)
        · obtain ⟨x, hx⟩ : ∃ x, ts[k]? = some x := ⟨ts[k]'(by omega), List.getElem?_eq_getElem _⟩
          obtain ⟨a1, c1, b1', w1, f1, z1, y1⟩ := sl_u64 hw hx
          cases w1
          have hx64 := hts x (List.mem_of_getElem? hx)
          have hf1 : h'.blks a1.block = some b1' := by rw [he.same _ (hwb _ rfl)]; exact f1
          have hrl := hr'.lt
          have hql' := hq'.lt
          have hel := he.le
          simp -dsimp (disch := omega) [g1, g6, g7, g13, hf1, z1, y1, -getElem?_pos]
          refine due_call (by omega) hLok hx64 hq' fun h3 vq3 w3 m3 q3 b3 r3 => ?_
          have m3l := m3.le
          simp -dsimp (disch := omega) [g1, g6, g7, g13, tb7_22]
          have hr3 : Que h3 r L vr := hr'.mono m3.le (m3.same r hrl (by omega)) fun b hb => m3.same b (hr'.vlt b hb).1 (dr b hb)
          have hf3 : h3.blks a1.block = some b1' := by rw [m3.same _ (by have := hwb _ rfl; omega) (by have := hwb _ rfl; omega)]; exact hf1
          simp -dsimp (disch := omega) [g1, g6, g7, g13, hf3, z1, y1, tb7_22, -getElem?_pos]
          refine refDue_call (by omega) hLok hx64 hr3 fun h4 vr4 w4 m4 q4 b4 r4 => ?_
          have m4l := m4.le
          have hdl := dueL_len x L
          have hll := laterL_len x L
          simp -dsimp (disch := omega) [g1, g6, g7, g13, tb7_22]
          have s3 : Sl h4 4 (dueL x L).length (evsC (dueL x L)) w3 := (row_sl r3).mono fun b hb => m4.same b (r3.blk b hb).2 (by have := (r3.blk b hb).1; omega)
          refine same_call (by omega) s3 (row_sl r4) ?_
          rw [decide_eq_true rfl]
          have hq4 : Que h4 q (laterL x L) vq3 := q3.mono m4.le (m4.same q q3.lt (by omega)) fun b hb => m4.same b (q3.vlt b hb).1 (by rcases b3 b hb with e | e; exact dq b e; omega)
          have hrb := q4.blk
          have hrs := q4.sl
          have hdq : ∀ b, sblk vq3 = some b → b ≠ r := fun b hb => by rcases b3 b hb with e | e; exact dq b e; omega
          have hdr : ∀ b, sblk vr4 = some b → b ≠ q := fun b hb => by rcases b4 b hb with e | e; exact dr b e; omega
          obtain ⟨ra, rc, rfl⟩ := hrs.slice
          simp -dsimp (disch := omega) [g1, g6, g7, g13, tb7_22]
          refine qleft_call hq4 ?_
          simp -dsimp (disch := omega) [g1, g6, g7, g13, hrb, tb7_22]
          refine ⟨⟨⟨by omega, fun i hi => ?_⟩, k + 1, by omega, laterL x L, fun e he => hLok e (mem_later he).1, by omega, by simp, vq3, hq4, _, q4, hdq, hdr⟩, by simp [ivN]; omega⟩
          rw [m4.same i (by omega) (by omega), m3.same i (by omega) (by omega), he.same i hi]
        · simp -dsimp (disch := omega) [g1, g6, g7, g13, tb7_22]
          refine go ?_
          simp -dsimp (disch := omega)
          exact RetF.all (by simp) (hK _ he)
end Go.Proofs.Ytcfgagpjdhhddaa
