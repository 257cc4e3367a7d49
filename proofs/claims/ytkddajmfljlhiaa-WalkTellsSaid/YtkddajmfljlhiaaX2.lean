/-
  The document's words.
-/
import Derived.Test.YtkddajmfljlhiaaX1
set_option linter.unusedSimpArgs false
set_option linter.unusedVariables false
namespace Go.Proofs.Ytkddajmfljlhiaa
open Go Go.Mini Go.Proofs.Try

/-- The document's memory of words. -/
structure RMem (m : Nat) (h : Hp) (mp : Nat) (v : Value) (L : List Wd) : Prop where
  blk : h.blks mp = some ⟨#[v], 1, true⟩
  row : Row m h 4 L.length (wdsC L) v
  lt : mp < h.next
  mm : m ≤ mp
  mh : m ≤ h.next
  vr : sblk v ≠ some mp
  ok : ∀ e ∈ L, e.ok
section
variable {h : Hp} {m mp : Nat} {v : Value} {L : List Wd} {K : Value → Hp → Prop}
theorem rRead_call {x : Nat} (q : RMem m h mp v L) (hl : L.length ≤ 1000) (hK : K (.tuple #[.int .u64 (rdV L x), .bool (rdB L x)]) h) : ACall prog 31 [ptr mp, .int .u64 x] h K := by
  refine acallF_of tb0 func31 rfl rfl mixed (by kernel_rfl) fun hwf => ?_
  have hb := q.blk
  obtain ⟨k0, hk0⟩ : ∃ n, n = L.length := ⟨_, rfl⟩
  obtain ⟨va, vc, hv⟩ := q.row.slice
  rw [← hk0] at hl hv
  subst hv
  simp -dsimp (disch := omega)
  refine awp_loop (fun t h' => h' = h ∧ ∃ k : Nat, k ≤ k0 ∧ t 0 = ptr mp ∧ t 1 = .int .u64 x ∧ t 6 = .int .i64 k ∧ ∀ e ∈ L.take k, e.a ≠ x) (fun t _ => k0 - ivN (t 6)) ?_ ?_
  · simp -dsimp (disch := omega)
    exact ⟨0, by omega, rfl, by simp⟩
  · rintro t h' ⟨rfl, k, hk, g0, g1, g6, hall⟩
    refine vcF_sound mixed (tb := tb0) _ (by kernel_rfl) ?_
    by_cases hc : k < k0
    · obtain ⟨e, hx⟩ : ∃ e, L[k]? = some e := ⟨_, List.getElem?_eq_getElem (hk0 ▸ hc)⟩
      obtain ⟨b, e1, e2, e3, e4, e5, e6⟩ := row_el q.row hx
      cases e1
      by_cases hxy : e.a = x
      · subst hxy
        have hf := at1_first hx hall
        have r1 : rdV L e.a = e.v := by unfold rdV; rw [hf]
        have r2 : rdB L e.a = e.r := by unfold rdB; rw [hf]
        rw [r1, r2] at hK
        simp -dsimp (disch := omega) [g0, g1, g6, hb, hc, e2, e3, e4, e5, -getElem?_pos]
        exact RetF.same (r := .tuple #[.int .u64 e.v, .bool e.r]) hwf (by simp) (by simp [vtop, vtopL]) (fun _ _ => rfl) hK
      · have hxy' : ¬ (e.a : Int) = x := by omega
        simp -dsimp (disch := omega) [g0, g1, g6, hb, hc, e2, e3, hxy, hxy', -getElem?_pos]
        refine ⟨⟨k + 1, by omega, by simp, fun d hd => ?_⟩, by simp [ivN]; omega⟩
        rw [List.take_add_one, hx] at hd
        rcases List.mem_append.1 hd with hd | hd
        · exact hall d hd
        · obtain rfl : d = e := by simpa using hd
          exact hxy
    · have hf := at1_none fun e he => hall e (by rw [show k = L.length from by omega, List.take_length]; exact he)
      have r1 : rdV L x = 0 := by unfold rdV; rw [hf]
      have r2 : rdB L x = false := by unfold rdB; rw [hf]
      rw [r1, r2] at hK
      simp -dsimp (disch := omega) [g0, g1, g6, hb, hc]
      exact RetF.same (r := .tuple #[.int .u64 0, .bool false]) hwf (by simp) (by simp [vtop, vtopL]) (fun _ _ => rfl) hK

theorem rWrite_call {x u : Nat} (q : RMem m h mp v L) (hl : L.length ≤ 1000) (hu : u < 18446744073709551616)
    (hK1 : wrB L x = true → ∀ h', RMem m h' mp v (put1 L x u) → h'.next = h.next → (∀ i, i ≠ mp → sblk v ≠ some i → h'.blks i = h.blks i) → K (.bool true) h') (hK2 : wrB L x = false → K (.bool false) h) : ACall prog 29 [ptr mp, .int .u64 x, .int .u64 u] h K := by
  refine acallF_of tb0 func29 rfl rfl mixed (by kernel_rfl) fun hwf => ?_
  have hb := q.blk
  obtain ⟨k0, hk0⟩ : ∃ n, n = L.length := ⟨_, rfl⟩
  obtain ⟨va, vc, hv⟩ := q.row.slice
  rw [← hk0] at hl hv
  subst hv
  simp -dsimp (disch := omega)
  refine awp_loop (fun t h' => h' = h ∧ ∃ k : Nat, k ≤ k0 ∧ t 0 = ptr mp ∧ t 1 = .int .u64 x ∧ t 2 = .int .u64 u ∧ t 7 = .int .i64 k ∧ ∀ e ∈ L.take k, e.a ≠ x) (fun t _ => k0 - ivN (t 7)) ?_ ?_
  · simp -dsimp (disch := omega)
    exact ⟨0, by omega, rfl, by simp⟩
  · rintro t h' ⟨rfl, k, hk, g0, g1, g2, g7, hall⟩
    refine vcF_sound mixed (tb := tb0) _ (by kernel_rfl) ?_
    by_cases hc : k < k0
    · obtain ⟨e, hx⟩ : ∃ e, L[k]? = some e := ⟨_, List.getElem?_eq_getElem (hk0 ▸ hc)⟩
      obtain ⟨b, e1, e2, e3, e4, e5, e6⟩ := row_el q.row hx
      cases e1
      by_cases hxy : e.a = x
      · subst hxy
        have hf := at1_first hx hall
        have r1 : wrB L e.a = e.w := by unfold wrB; rw [hf]
        rw [r1] at hK1 hK2
        have hbl := q.row.blk b rfl
        have hbm : ¬ b = mp := fun e => q.vr (by rw [e]; rfl)
        have hmb : ¬ mp = b := fun e => hbm e.symm
        cases hew : e.w
        · rw [hew] at e6
          simp -dsimp (disch := omega) [g0, g1, g2, g7, hb, hc, e2, e3, e6, -getElem?_pos]
          exact RetF.same (r := .bool false) hwf (by simp) (Nat.zero_le _) (fun _ _ => rfl) (hK2 hew)
        · rw [hew] at e6
          have hput := put1_first hx hall (v := u)
          have hcs := wdsC_set L k e u hx
          have hcs' : (wdsC L).set (k * 4 + 1) (.int .u64 u) = wdsC (put1 L e.a u) := by rw [hput]; simpa using hcs
          have hle : k * 4 + 1 + 1 ≤ (wdsC L).length := by rw [wdsC_length]; omega
          have hsl := put1_length L e.a u
          have e6' : (wdsC (put1 L e.a u)).toArray[k * 4 + 3]? = some (.bool true) := by
            rw [List.getElem?_toArray, hput]
            have := flat_at wdC_len (L.set k { e with v := u }) k { e with v := u } (by rw [List.getElem?_set_self (hk0 ▸ hc)]) 3 (by omega)
            rw [show (wdsC (L.set k { e with v := u }))[k * 4 + 3]? = _ from this]
            rw [← hew]; rfl
          rw [List.getElem?_toArray] at e6'
          simp -dsimp (disch := omega) [g0, g1, g2, g7, hb, hc, e2, e3, e6, hcs', hle, hbm, hmb, e6', -getElem?_pos]
          refine RetF.all (r := .bool true) (by simp) (hK1 hew _ ⟨by rw [blks_set_ne _ _ _ _ hmb]; simpa [hsl] using hb, ⟨by rw [wdsC_length], .inr ⟨b, hbl.1, hbl.2, by rw [hsl], ?_⟩⟩, q.lt, q.mm, q.mh, q.vr, fun d hd => ?_⟩ rfl fun i h1 h2 => ?_)
          · exact blks_set_eq _ _ _
          · exact put1_ok q.ok hu d hd
          · rw [blks_set_ne _ _ _ _ (fun e => h2 (by rw [e]; rfl))]
      · have hxy' : ¬ (e.a : Int) = x := by omega
        simp -dsimp (disch := omega) [g0, g1, g2, g7, hb, hc, e2, e3, hxy, hxy', -getElem?_pos]
        refine ⟨⟨k + 1, by omega, by simp, fun d hd => ?_⟩, by simp [ivN]; omega⟩
        rw [List.take_add_one, hx] at hd
        rcases List.mem_append.1 hd with hd | hd
        · exact hall d hd
        · obtain rfl : d = e := by simpa using hd
          exact hxy
    · have hf := at1_none fun e he => hall e (by rw [show k = L.length from by omega, List.take_length]; exact he)
      have r1 : wrB L x = false := by unfold wrB; rw [hf]
      simp -dsimp (disch := omega) [g0, g1, g2, g7, hb, hc]
      exact RetF.same (r := .bool false) hwf (by simp) (Nat.zero_le _) (fun _ _ => rfl) (hK2 r1)


theorem extract4 {cs : Array Value} {o : Nat} {x y z u : Value} (hx : cs[o]? = some x) (hy : cs[o + 1]? = some y) (hz : cs[o + 2]? = some z) (hu : cs[o + 3]? = some u) : cs.extract o (o + 4) = #[x, y, z, u] := by
  obtain ⟨q1, q2⟩ := Array.getElem?_eq_some_iff.1 hu
  apply Array.ext'
  apply List.ext_getElem?
  intro i
  rw [Array.getElem?_toList, Array.getElem?_extract]
  by_cases h0 : i = 0
  · subst h0; rw [if_pos (by omega)]; simpa using hx
  · by_cases h1 : i = 1
    · subst h1; rw [if_pos (by omega)]; simpa using hy
    · by_cases h2 : i = 2
      · subst h2; rw [if_pos (by omega)]; simpa using hz
      · by_cases h3 : i = 3
        · subst h3; rw [if_pos (by omega)]; simpa using hu
        · rw [if_neg (by omega)]; symm; simp; omega
/-- An element of a slice of events. -/
theorem sl_wd4 {h : Hp} {l : List Wd} {v : Value} {k : Nat} {d : Wd} (hv : Sl h 4 l.length (wdsC l) v) (hk : l[k]? = some d) :
    ∃ a c b, v = .slice (some a) l.length c ∧ h.blks a.block = some b ∧ a.off + k * 4 + 4 ≤ b.cells.size ∧ b.cells[a.off + k * 4]? = some (.int .u64 d.a) ∧ b.cells.extract (a.off + k * 4) (a.off + k * 4 + 4) = #[.int .u64 d.a, .int .u64 d.v, .bool d.r, .bool d.w] := by
  have hlt : k < l.length := (List.getElem?_eq_some_iff.1 hk).1
  obtain ⟨h0, ⟨_, _, _, h1⟩ | ⟨a, c, b, rfl, h2, h3, h4⟩⟩ := hv
  · omega
  · have e0 := flat_at wdC_len l k d hk 0 (by omega)
    have e1 := flat_at wdC_len l k d hk 1 (by omega)
    have e2 := flat_at wdC_len l k d hk 2 (by omega)
    have e3 := flat_at wdC_len l k d hk 3 (by omega)
    have f0 := h4 (k * 4) (by omega)
    have f1 := h4 (k * 4 + 1) (by omega)
    have f2 := h4 (k * 4 + 2) (by omega)
    have f3 := h4 (k * 4 + 3) (by omega)
    rw [← Nat.add_assoc] at f1 f2 f3
    exact ⟨a, c, b, rfl, h2, by omega, f0.trans e0, extract4 (f0.trans e0) (f1.trans e1) (f2.trans e2) (f3.trans e3)⟩
theorem wds_take {l : List Wd} {k : Nat} {d : Wd} (hk : l[k]? = some d) : wdsC (l.take (k + 1)) = wdsC (l.take k) ++ wdC d := by
  rw [List.take_add_one, hk]
  show (l.take k ++ [d]).flatMap wdC = _
  rw [List.flatMap_append]
  show wdsC (l.take k) ++ (wdC d ++ []) = _
  rw [List.append_nil]
theorem RMem.ext {h' : Hp} (q : RMem m h mp v L) (hn : h.next ≤ h'.next) (hs : ∀ i, i < h.next → (i = mp ∨ sblk v = some i) → h'.blks i = h.blks i) : RMem m h' mp v L :=
  ⟨by rw [hs _ q.lt (.inl rfl)]; exact q.blk, q.row.mono hn fun b hb => hs _ (q.row.blk b hb).2 (.inr hb), Nat.lt_of_lt_of_le q.lt hn, q.mm, Nat.le_trans q.mh hn, q.vr, q.ok⟩
theorem theirs_call {l : List Wd} {v : Value} (hv : Sl h 4 l.length (wdsC l) v) (hl : l.length ≤ 1000) (hok : ∀ e ∈ l, e.ok) (hK : ∀ h' mp v', Ext h h' → RMem h.next h' mp v' l → K (ptr mp) h') : ACall prog 9 [v] h K := by
  refine acallF_of tb0 func9 rfl rfl mixed (by kernel_rfl) fun hwf => ?_
  have hvb : ∀ b, sblk v = some b → b < h.next := sblk_lt (hwf.args v (by simp))
  obtain ⟨va, vc, hve⟩ := hv.slice
  subst hve
  obtain ⟨k0, hk0⟩ : ∃ k, k = l.length := ⟨_, rfl⟩
  rw [← hk0] at hl
  rw [← hk0] at hv hvb
  simp -dsimp (disch := omega)
  refine awp_loop (fun t h' => ∃ (k : Nat) (v' : Value), k ≤ k0 ∧ t 0 = .slice va k0 vc ∧ t 3 = ptr h.next ∧ t 4 = .int .i64 k ∧ h'.blks h.next = some ⟨#[v'], 1, true⟩ ∧ Row (h.next + 1) h' 4 k (wdsC (l.take k)) v' ∧ h.next + 1 ≤ h'.next ∧ ∀ i, i < h.next → h'.blks i = h.blks i) (fun t _ => k0 - ivN (t 4)) ?_ ?_
  · exact ⟨0, .slice none 0 0, by omega, by simp [hk0], by simp, by simp, blks_alloc_eq _ _, Row.nil _ _ _, by simp, fun i hi => blks_alloc_ne _ _ _ (by omega)⟩
  · rintro t h' ⟨k, v', hk, g0, g3, g4, hb, hr, hn, hs⟩
    refine vcF_sound mixed (tb := tb0) _ (by kernel_rfl) ?_
    have hvr : sblk v' ≠ some h.next := fun e => by have := (hr.blk _ e).1; omega
    by_cases hc : k < k0
    · have hcI : (k : Int) < k0 := by omega
      obtain ⟨d, hd⟩ : ∃ d, l[k]? = some d := ⟨_, List.getElem?_eq_getElem (hk0 ▸ hc)⟩
      have hv' : Sl h' 4 l.length (wdsC l) (.slice va k0 vc) := by rw [← hk0]; exact hv.mono fun b hb => hs b (hvb b hb)
      obtain ⟨a, c, b, e1, e2, e3, e4, e5⟩ := sl_wd4 hv' hd
      rw [← hk0] at e1
      cases e1
      obtain ⟨va', vc', hve'⟩ := hr.slice
      subst hve'
      simp -dsimp (disch := omega) [g0, g3, g4, hb, hc, hcI, e2, e3, e4, e5, -getElem?_pos]
      refine app_row (hr.alloc _) (by simp; omega) (src_slice _ _ _ _ _ #[.int .u64 d.a, .int .u64 d.v, .bool d.r, .bool d.w] (by simp)) (by omega) (by simp) (by unfold ROOM; omega) ?_
      intro v3 h3 r3 n3 b3 s3
      simp at n3 b3
      obtain ⟨va3, vc3, rfl⟩ := r3.slice
      have hp3 : h3.blks h.next = _ := (s3 h.next (by simp; omega) hvr).trans ((blks_alloc_ne _ _ _ (by omega)).trans hb)
      simp -dsimp (disch := omega) [g0, g3, g4, hp3]
      refine ⟨⟨k + 1, by omega, by simp, ?_, by omega, fun i hi => ?_⟩, by simp [ivN]; omega⟩
      · have := r3.set h.next ⟨#[.slice va3 (k + 1) vc3], 1, true⟩ (by rw [b3]; intro e; have := Option.some.inj e; omega)
        rw [wds_take hd]
        exact this
      · rw [if_neg (by omega), s3 i (by simp; omega) (fun e => by have := (hr.blk _ e).1; omega), blks_alloc_ne _ _ _ (by omega), hs i hi]
    · have hcI : ¬ (k : Int) < k0 := by omega
      simp -dsimp (disch := omega) [g0, g3, g4, hc, hcI]
      have hkl : l.take k = l := by rw [List.take_of_length_le (by omega)]
      rw [hkl, show k = l.length by omega] at hr
      exact RetF.all (r := ptr h.next) (by simp) (hK _ _ _ ⟨by omega, hs⟩ ⟨hb, ⟨hr.1, hr.2.imp id fun ⟨b, q1, q2, q3⟩ => ⟨b, by omega, q2, q3⟩⟩, by omega, Nat.le_refl _, by omega, hvr, hok⟩)
end
end Go.Proofs.Ytkddajmfljlhiaa
