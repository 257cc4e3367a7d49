/-
  What comes in: the channels' list; the whole.
-/
import Derived.Test.YtmnemfeofhinaaaDoorWI
set_option linter.unusedSimpArgs false
set_option linter.unusedVariables false
set_option linter.unusedSectionVars false
namespace Go.Proofs.YtmnemfeofhinaaaDoor
set_option maxRecDepth 100000
open Go Go.Mini Go.Proofs.Tryd
open Go.ChangeShapes Go.WideShapes Go.ChangeAt Go.RowKit
section
variable {H : Type} {enc : TypeId × Value → H} {W : World}
theorem chs_in {s : Value} {fuel : Nat} {x : DataW H × List MemPlace} (t2 : DataW.trod enc Tryd.prog W 0 (fun _ => true) true fuel 25 [s] = some x) (hsp : ∀ a n c, s = .slice (some a) n c → a.spot = none) :
    ∃ (cb co n : Nat) (Q : Nat → Arg × Ch × Value), n ≤ maxLen ∧ (∀ i, i < n → ArgOk W (Q i).1 ∧ (Q i).2.1.ok ∧ ∀ (ρ : Rn) (nm : Nat), ρ nm = ⟨(Q i).1.blk, (Q i).1.off, 0⟩ → ∃ v', rl ρ v' = (Q i).2.2 ∧ vtop v' ≤ nm + 1 ∧ v'.oneCell' = true ∧ (∀ b, sblk v' = some b → b = nm) ∧ ∀ h : Hp, (∀ c, (Q i).1.cells = some c → h.blks nm = some ⟨c, 1, false⟩) → ToV h (Q i).2.1.to v') ∧
      (0 < n → ∃ cs e fr, W.heap[cb]? = some (.cells cs e fr) ∧ ∀ i k, i < n → k < 7 → cs[co + (i * 7 + k)]? = (chC (Q i).2.1 (Q i).2.2)[k]?) ∧
      ∀ (ρ : Rn) (nm : Nat), ρ nm = ⟨cb, co, 0⟩ → ∃ v', rl ρ v' = s ∧ vtop v' ≤ nm + 1 ∧ ((∃ c, v' = .slice (some ⟨nm, 0, none⟩) n c) ∨ (n = 0 ∧ v' = .slice none 0 0)) := by
  rcases Deep.open_slice c25 t2 with ⟨hcs, _⟩ | ⟨a', len', cap', m, n, Df, Pl, hcs, _, hle, hm, hmm, _, hall⟩
  · simp only [List.cons.injEq, and_true] at hcs
    subst hcs
    exact ⟨0, 0, 0, fun _ => (⟨0, 0, none⟩, ⟨0, 0, 0, [], 0, 0, 0⟩, .nilIface), by omega, fun i hi => by omega, fun h => by omega, fun ρ nm _ => ⟨.slice none 0 0, by simp [rl], by simp [vtop], .inr ⟨rfl, rfl⟩⟩⟩
  · simp only [List.cons.injEq, and_true] at hcs
    subst hcs
    simp only [if_true] at hmm
    subst hmm
    have hspot := hsp _ _ _ rfl
    obtain ⟨ab, ao, asp⟩ := a'
    simp only at hspot
    subst hspot
    have hex : ∀ i, ∃ q : List Value × Arg × Ch × Value, i < len' → W.cells? 0 ((⟨ab, ao, none⟩ : Addr).add (i * 7)) 7 = some q.1 ∧ ArgOk W q.2.1 ∧ q.2.2.1.ok ∧ q.1 = chC q.2.2.1 q.2.2.2 ∧ ∀ (ρ : Rn) (nm : Nat), ρ nm = ⟨q.2.1.blk, q.2.1.off, 0⟩ → ∃ v', rl ρ v' = q.2.2.2 ∧ vtop v' ≤ nm + 1 ∧ v'.oneCell' = true ∧ (∀ b, sblk v' = some b → b = nm) ∧ ∀ h : Hp, (∀ c, q.2.1.cells = some c → h.blks nm = some ⟨c, 1, false⟩) → ToV h q.2.2.1.to v' := fun i => by
      by_cases hi : i < len'
      · obtain ⟨R, q1, q2⟩ := hall i (by omega)
        rw [k69] at q1
        obtain ⟨B, c, v3, w1, w2, w3, w4⟩ := chan_in q2
        exact ⟨(R, B, c, v3), fun _ => ⟨q1, w1, w2, w3, w4⟩⟩
      · exact ⟨([], ⟨0, 0, none⟩, ⟨0, 0, 0, [], 0, 0, 0⟩, .nilIface), fun h => absurd h hi⟩
    obtain ⟨Q, hQ⟩ := Classical.skolem.1 hex
    refine ⟨ab, ao, len', fun i => (Q i).2, by omega, fun i hi => ?_, fun h0 => ?_, fun ρ nm hρ => ?_⟩
    · obtain ⟨_, q2, q3, _, q5⟩ := hQ i hi
      exact ⟨q2, q3, q5⟩
    · have cell : ∀ i k, i < len' → k < 7 → W.cell? ⟨ab, ao + (i * 7 + k), none⟩ = (chC (Q i).2.2.1 (Q i).2.2.2)[k]? := fun i k hi hk => by
        obtain ⟨q1, _, _, q4, _⟩ := hQ i hi
        have := (World.cells?_some q1).2.2 k hk
        rw [q4] at this
        rw [← this, addr_add, addr_add, Nat.add_assoc]
      have hb : ∃ cs ty fr, W.heap[ab]? = some (.cells cs ty fr) := by
        have h1 := cell 0 0 h0 (by omega)
        have h2 : W.cell? ⟨ab, ao + (0 * 7 + 0), none⟩ ≠ none := by rw [h1]; simp [chC]
        unfold World.cell? at h2
        split at h2
        · rename_i c ty fr hh; exact ⟨c, ty, fr, hh⟩
        · exact (h2 rfl).elim
      obtain ⟨cs, ty, fr, hh⟩ := hb
      refine ⟨cs, ty, fr, hh, fun i k hi hk => ?_⟩
      have := cell i k hi hk
      simpa [World.cell?, hh] using this
    · exact ⟨.slice (some ⟨nm, 0, none⟩) len' (2 * m), by simp [rl, rlAddr, rlCap, hρ], by simp [vtop], .inl ⟨_, rfl⟩⟩
theorem slice_spot {t e : TypeId} {r : Reach} {bs : Nat} (ht : Tryd.prog.underlying t = some (.slice e)) {v : Value} (hok : Value.okWide Tryd.prog W r bs t v) : ∀ a n c, v = .slice (some a) n c → a.spot = none := by
  rintro a n c rfl
  simp only [Value.okWide, ht, Cell.okWide, Cell.ok] at hok
  exact hok.2.2.2.1
theorem open_cfg {r : Reach} {bs : Nat} {v : Value} {D : DataW H} {p : List MemPlace} (hok : Value.okWide Tryd.prog W r bs 27 v) (h : DataW.Trod enc Tryd.prog W 0 (fun _ => true) true 27 v D p) :
    ∃ (l : List Arg) (gs : List Gu) (ws : List Win) (L : List (Ch × Value)) (vg vw vc : Value), BigOk W l ∧ rl (bigRn (Arg.pl l)) (.agg #[vg, vw, vc]) = v ∧ vtop (.agg #[vg, vw, vc]) ≤ 150 + l.length ∧ ∀ ts, CfT (bigHp l ts) gs ws L vg vw vc := by
  obtain ⟨f0, f1, f2, ht, e0, e1, e2, o0, o1, o2⟩ := u27
  have hts : Tryd.prog.cellTypes Tryd.prog.depth 27 = some [23, 24, 25] := by kernel_rfl
  obtain ⟨cs, rfl, hn, ts, h1, _, h2⟩ : ∃ cs, v = .agg cs ∧ cs.size = Tryd.prog.cellsOf 27 ∧ Row.okWide Tryd.prog W r bs 27 cs := by
    simpa [Value.okWide, ht] using hok
  rw [hts] at h1
  cases h1
  rw [k27] at hn
  obtain ⟨s0, s1, s2, rfl⟩ : ∃ s0 s1 s2, cs = #[s0, s1, s2] := by
    rcases cs with ⟨_ | ⟨s0, _ | ⟨s1, _ | ⟨s2, _ | ⟨x, l⟩⟩⟩⟩⟩ <;> simp at hn
    exact ⟨s0, s1, s2, rfl⟩
  obtain ⟨u0, w0, ok0⟩ := h2 0 s0 rfl
  cases w0
  obtain ⟨u1, w1, ok1⟩ := h2 1 s1 rfl
  cases w1
  obtain ⟨u2, w2, ok2⟩ := h2 2 s2 rfl
  cases w2
  have ok0' : Value.okWide Tryd.prog W r bs 23 s0 := by simpa [Value.okWide, c23] using ok0
  have ok1' : Value.okWide Tryd.prog W r bs 24 s1 := by simpa [Value.okWide, c24] using ok1
  have ok2' : Value.okWide Tryd.prog W r bs 25 s2 := by simpa [Value.okWide, c25] using ok2
  obtain ⟨m, hm⟩ := h
  obtain ⟨xs, n, _, _, hlen, hxs, hall⟩ := DataW.trod_struct ht hm
  simp only [List.size_toArray, List.length_cons, List.length_nil] at hxs
  have el : ∀ (i : Nat) (f : Field), (#[f0, f1, f2] : Array Field)[i]? = some f → ∃ y, DataW.trod enc Tryd.prog W 0 (fun _ => true) true n f.type (([s0, s1, s2].drop f.offset).take (Tryd.prog.cellsOf f.type)) = some y := fun i f hf => by
    have e := hall i f hf
    simp only [Value.cells] at e
    rw [e]
    have := (Array.getElem?_eq_some_iff.1 hf).1
    simp only [List.size_toArray, List.length_cons, List.length_nil] at this
    exact ⟨xs[i], List.getElem?_eq_getElem (by omega)⟩
  obtain ⟨y0, d0⟩ := el 0 f0 rfl
  obtain ⟨y1, d1⟩ := el 1 f1 rfl
  obtain ⟨y2, d2⟩ := el 2 f2 rfl
  rw [e0, o0, k23] at d0
  rw [e1, o1, k24] at d1
  rw [e2, o2, k25] at d2
  obtain ⟨AG, rg, okG, hg1, hg2, hG⟩ := open_slR c23 l64 k64 (by decide) d0
  obtain ⟨AW, rw', okW, hw1, hw2, hW⟩ := open_slR c24 l76 k76 (by decide) d1
  obtain ⟨gs, g1, g2, g3⟩ := rows_of gu_of rg hg1
  obtain ⟨ws, w1, w2, w3⟩ := rows_of win_of rw' hw1
  obtain ⟨cb, co, N, Q, hN, hQ, hC, hV⟩ := chs_in d2 (slice_spot c25 ok2')
  obtain ⟨pl0, hpl⟩ : ∃ pl0 : List (Nat × Nat), pl0 = (AG.blk, AG.off) :: (AW.blk, AW.off) :: (cb, co) :: (List.range N).map fun i => ((Q i).1.blk, (Q i).1.off) := ⟨_, rfl⟩
  have hpn : pl0.length = 3 + N := by rw [hpl]; simp; omega
  have r0 : bigRn pl0 150 = ⟨AG.blk, AG.off, 0⟩ := by
    have := bigRn_at (pl := pl0) (i := 0) (p := (AG.blk, AG.off)) (by rw [hpl]; rfl)
    exact this
  have r1 : bigRn pl0 151 = ⟨AW.blk, AW.off, 0⟩ := by
    have := bigRn_at (pl := pl0) (i := 1) (p := (AW.blk, AW.off)) (by rw [hpl]; rfl)
    exact this
  have r2 : bigRn pl0 152 = ⟨cb, co, 0⟩ := by
    have := bigRn_at (pl := pl0) (i := 2) (p := (cb, co)) (by rw [hpl]; rfl)
    exact this
  have r3 : ∀ i, i < N → bigRn pl0 (153 + i) = ⟨(Q i).1.blk, (Q i).1.off, 0⟩ := fun i hi => by
    have := bigRn_at (pl := pl0) (i := 3 + i) (p := ((Q i).1.blk, (Q i).1.off)) (by
      rw [hpl, show 3 + i = i + 1 + 1 + 1 by omega]
      simp [hi])
    rw [show 153 + i = 150 + (3 + i) by omega]
    exact this
  obtain ⟨vg, a1, a2, a3, a4, a5⟩ := hG _ 150 r0
  obtain ⟨vw, b1, b2, b3, b4, b5⟩ := hW _ 151 r1
  obtain ⟨vc, z1, z2, z3⟩ := hV _ 152 r2
  have hT : ∀ i, ∃ t : Value, i < N → rl (bigRn pl0) t = (Q i).2.2 ∧ vtop t ≤ 153 + i + 1 ∧ t.oneCell' = true ∧ (∀ b, sblk t = some b → b = 153 + i) ∧ ∀ h : Hp, (∀ c, (Q i).1.cells = some c → h.blks (153 + i) = some ⟨c, 1, false⟩) → ToV h (Q i).2.1.to t := fun i => by
    by_cases hi : i < N
    · obtain ⟨t, ht⟩ := (hQ i hi).2.2 _ _ (r3 i hi)
      exact ⟨t, fun _ => ht⟩
    · exact ⟨.nilIface, fun h => absurd h hi⟩
  obtain ⟨T, hT⟩ := Classical.skolem.1 hT
  obtain ⟨L, hL⟩ : ∃ L : List (Ch × Value), L = (List.range N).map fun i => ((Q i).2.1, T i) := ⟨_, rfl⟩
  obtain ⟨AC, hAC⟩ : ∃ AC : Arg, AC = ⟨cb, co, if N = 0 then none else some (chsC L).toArray⟩ := ⟨_, rfl⟩
  obtain ⟨l, hl⟩ : ∃ l : List Arg, l = AG :: AW :: AC :: (List.range N).map fun i => (Q i).1 := ⟨_, rfl⟩
  have hp0 : Arg.pl l = pl0 := by rw [hl, hpl, hAC]; simp [Arg.pl, Function.comp_def]
  have hln : l.length = 3 + N := by rw [hl]; simp; omega
  have hLn : L.length = N := by rw [hL]; simp
  have hrows : chsC L = ((List.range N).map fun i => chC (Q i).2.1 (T i)).flatten := by rw [hL]; simp [chsC, List.flatMap, Function.comp_def]
  have hcn : (chsC L).length = N * 7 := by
    rw [hrows, flatten_length 7 _ (fun r hr => by obtain ⟨i, _, rfl⟩ := List.mem_map.1 hr; rfl)]
    simp
  have hat : ∀ i k, i < N → k < 7 → (chsC L)[i * 7 + k]? = (chC (Q i).2.1 (T i))[k]? := fun i k hi hk => by
    rw [hrows, flatten_at 7 _ i k (fun r hr => by obtain ⟨i, _, rfl⟩ := List.mem_map.1 hr; rfl) hk]
    simp [hi]
  have hmap : ∀ i, i < N → chC (Q i).2.1 (Q i).2.2 = (chC (Q i).2.1 (T i)).map (rl (bigRn pl0)) := fun i hi => by simp [chC, rl, (hT i hi).1]
  have h63 := maxLen63
  refine ⟨l, gs, ws, L, vg, vw, vc, fun p hp => ?_, ?_, ?_, fun ts => ?_⟩
  · rw [hp0]
    rw [hl] at hp
    rcases List.mem_cons.1 hp with rfl | hp
    · exact BigAt.of okG _
    rcases List.mem_cons.1 hp with rfl | hp
    · exact BigAt.of okW _
    rcases List.mem_cons.1 hp with rfl | hp
    · intro c hc
      rw [hAC] at hc ⊢
      simp only at hc
      split at hc
      · cases hc
      · rename_i h0
        cases hc
        obtain ⟨cs, e, fr, q1, q2⟩ := hC (by omega)
        refine ⟨⟨cs, e, fr, q1, fun j hj => ?_⟩, fun v hv => ?_⟩
        · have hj' : j < N * 7 := by rw [← hcn]; simpa using hj
          have e1 := q2 (j / 7) (j % 7) (by omega) (by omega)
          rw [hmap _ (by omega), List.getElem?_map, ← hat _ _ (by omega) (by omega), show j / 7 * 7 + j % 7 = j by omega] at e1
          rw [e1, List.getElem?_eq_getElem (by omega)]
          simp
        · have hv' : v ∈ chsC L := by simpa using hv
          rw [hrows] at hv'
          simp only [List.mem_flatten, List.mem_map, List.mem_range] at hv'
          obtain ⟨_, ⟨i, hi, rfl⟩, hv'⟩ := hv'
          obtain ⟨_, t2, t3, _⟩ := hT i hi
          simp only [chC, List.mem_cons, List.not_mem_nil, or_false] at hv'
          rcases hv' with rfl | rfl | rfl | rfl | rfl | rfl | rfl
          · exact ⟨by simp [vtop], rfl⟩
          · exact ⟨by simp [vtop], rfl⟩
          · exact ⟨by simp [vtop], rfl⟩
          · exact ⟨by omega, t3⟩
          · exact ⟨by simp [vtop], rfl⟩
          · exact ⟨by simp [vtop], rfl⟩
          · exact ⟨by simp [vtop], rfl⟩
    · obtain ⟨i, hi, rfl⟩ := List.mem_map.1 hp
      exact BigAt.of (hQ i (List.mem_range.1 hi)).1 _
  · rw [hp0]
    simp [rl, rlL, a1, b1, z1]
  · simp only [vtop, vtopL]
    omega
  · have hg0 := a5 (bigHp l ts) (fun c hc => bigHp_at ts (j := 0) (p := AG) (by rw [hl]; rfl) hc)
    have hw0 := b5 (bigHp l ts) (fun c hc => bigHp_at ts (j := 1) (p := AW) (by rw [hl]; rfl) hc)
    have hg0 : Sl (bigHp l ts) 20 gs.length (guesC gs) vg := by
      rcases hg0 with w | ⟨_, _, a, s, e, hs⟩
      · rw [g1, ← g2] at w
        exact w
      · have := slice_spot c23 ok0' _ _ _ e
        rw [hs] at this
        cases this
    have hw0 : Sl (bigHp l ts) 2 ws.length (winsC ws) vw := by
      rcases hw0 with w | ⟨_, _, a, s, e, hs⟩
      · rw [w1, ← w2] at w
        exact w
      · have := slice_spot c24 ok1' _ _ _ e
        rw [hs] at this
        cases this
    have hnx : (bigHp l ts).next = 150 + l.length := rfl
    have hmem : ∀ x ∈ L, ∃ i, i < N ∧ x = ((Q i).2.1, T i) := fun x hx => by
      rw [hL] at hx
      obtain ⟨i, hi, rfl⟩ := List.mem_map.1 hx
      exact ⟨i, List.mem_range.1 hi, rfl⟩
    refine ⟨⟨hg0, hw0, ⟨⟨by rw [hcn, hLn], ?_⟩, fun x hx => ?_⟩, g3, w3, by omega, by omega, by omega⟩, fun b hb => by have := a4 b hb; omega, fun b hb => by have := b4 b hb; omega, fun b hb => ?_, fun x hx b hb => ?_⟩
    · rcases z3 with ⟨c, rfl⟩ | ⟨h0, rfl⟩
      · by_cases h0 : N = 0
        · exact .inl ⟨_, _, by rw [h0], by omega⟩
        · refine .inr ⟨⟨152, 0, none⟩, c, ⟨(chsC L).toArray, 1, false⟩, by rw [hLn], ?_, ?_, fun j hj => ?_⟩
          · have := bigHp_at ts (l := l) (j := 2) (p := AC) (c := (chsC L).toArray) (by rw [hl]; rfl) (by rw [hAC]; simp [h0])
            exact this
          · simp only [List.size_toArray, hcn, hLn]; omega
          · simp
      · exact .inl ⟨_, _, rfl, by omega⟩
    · obtain ⟨i, hi, rfl⟩ := hmem x hx
      refine ⟨(hQ i hi).2.1, (hT i hi).2.2.2.2 _ fun c hc => ?_⟩
      have := bigHp_at ts (l := l) (j := 3 + i) (p := (Q i).1) (c := c) (by
        rw [hl, show 3 + i = i + 1 + 1 + 1 by omega]
        simp [hi]) hc
      rw [show 153 + i = 150 + (3 + i) by omega]
      exact this
    · rcases z3 with ⟨c, rfl⟩ | ⟨h0, rfl⟩
      · have : b = 152 := by simpa [sblk] using hb.symm
        omega
      · cases hb
    · obtain ⟨i, hi, rfl⟩ := hmem x hx
      have := (hT i hi).2.2.2.1 b hb
      omega
end
end Go.Proofs.YtmnemfeofhinaaaDoor
