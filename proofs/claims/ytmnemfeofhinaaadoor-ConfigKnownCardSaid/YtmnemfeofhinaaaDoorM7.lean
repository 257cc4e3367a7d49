/-
  Builtins and slices that are made; and all operations but calls together: each does in the world what 'aop' says of names.
-/
import Derived.Test.YtmnemfeofhinaaaDoorM6
import Derived.Deep.AppendSrc
set_option linter.unusedSimpArgs false
set_option linter.unusedVariables false
set_option linter.unusedSectionVars false
namespace Go.Mini
open Go

section
variable {P : Program} {B : Bd} {w0 w : World} {ρ : Rn} {h h' : Hp} {v : Value}

theorem elInfo_spec {ty : TypeId} {esz bytes : Nat} {z : Array Value} (hi : elInfo P ty = some (esz, bytes, z)) :
    ∃ e i zv, P.underlying ty = some (.slice e) ∧ P.info? e = some i ∧ i.size = esz ∧ i.bytes = bytes ∧ i.zero = some zv ∧ zv.cells = z ∧ z.size = esz ∧ 0 < esz ∧ ∀ u ∈ z, vtop u = 0 ∧ u.oneCell' = true := by
  unfold elInfo at hi
  split at hi
  · rename_i e hu
    split at hi
    · rename_i i z' h1 h2
      split at hi
      · rename_i hc
        simp only [Option.some.injEq, Prod.mk.injEq] at hi
        obtain ⟨rfl, rfl, rfl⟩ := hi
        obtain ⟨i', zv, h3, h4, h5, h6⟩ := zeroOf_spec h2
        rw [h1] at h3; cases h3
        exact ⟨e, i, zv, hu, h1, rfl, rfl, h4, h5, hc.1, hc.2, h6⟩
      · cases hi
    · cases hi
  · cases hi

theorem run_srcCells {esz n : Nat} {x : Value} {cs : Array Value} (hs : Sim B w0 ρ h w) (hx : srcCells h esz x = some (n, cs)) :
    (Builtin.lenOf (rl ρ x)).run P w = .ok n w ∧ (Builtin.firstCells esz n (rl ρ x)).run P w = .ok (cs.map (rl ρ)) w ∧ cs.size = n * esz ∧ ∀ u ∈ cs, vtop u ≤ h.next ∧ u.oneCell' = true := by
  unfold srcCells at hx
  split at hx
  · rename_i a k c
    split at hx
    · rename_i hk
      simp only [Option.some.injEq, Prod.mk.injEq] at hx
      obtain ⟨rfl, rfl⟩ := hx
      subst hk
      exact ⟨by simp [rl, Builtin.lenOf], by simp [rl, Builtin.firstCells, loadCells, loadCellsFrom], by simp, by simp⟩
    split at hx
    · rename_i cs' hr
      simp only [Option.some.injEq, Prod.mk.injEq] at hx
      obtain ⟨rfl, rfl⟩ := hx
      obtain ⟨h1, h2, h3, _⟩ := rowAt_spec (P := P) hs hr
      exact ⟨by simp [rl, Builtin.lenOf], by simpa only [rl, Builtin.firstCells] using h1, h2, h3⟩
    · cases hx
  · split at hx
    · rename_i hk
      simp only [Option.some.injEq, Prod.mk.injEq] at hx
      obtain ⟨rfl, rfl⟩ := hx
      subst hk
      exact ⟨by simp [rl, Builtin.lenOf], by simp [rl, Builtin.firstCells], by simp, by simp⟩
    · cases hx
  · rename_i s
    split at hx
    · rename_i he
      simp only [Option.some.injEq, Prod.mk.injEq] at hx
      obtain ⟨rfl, rfl⟩ := hx
      subst he
      refine ⟨by simp [rl, Builtin.lenOf], ?_, by simp, ?_⟩
      · simp only [rl, Builtin.firstCells, map_byteV, Sem.run_pure]
        rw [show s.extract 0 s.size = s from by simp, data_byteV]
      · intro u hu; simp at hu; obtain ⟨b, _, rfl⟩ := hu; exact ⟨by simp [vtop_byteV], rfl⟩
    · cases hx
  · cases hx

theorem apInfo_spec {argTypes : Array TypeId} {esz bytes : Nat} (ha : apInfo P argTypes = some (esz, bytes)) :
    ∃ st xt e i zv, argTypes = #[st, xt] ∧ ((∃ e', P.underlying xt = some (.slice e')) ∨ P.underlying xt = some .string) ∧ P.underlying st = some (.slice e) ∧ P.info? e = some i ∧ i.size = esz ∧ i.bytes = bytes ∧ i.zero = some zv ∧ 0 < esz ∧ zv.cells.size = esz := by
  unfold apInfo at ha
  split at ha
  · rename_i st xt h1
    split at ha
    · rename_i hc
      cases he : elInfo P st with
      | none => simp [he] at ha
      | some r =>
        obtain ⟨s, b, z⟩ := r
        simp only [he, Option.map_some, Option.some.injEq, Prod.mk.injEq] at ha
        obtain ⟨rfl, rfl⟩ := ha
        obtain ⟨e, i, zv, g1, g2, g3, g4, g5, g6, g7, g8, _⟩ := elInfo_spec he
        refine ⟨st, xt, e, i, zv, by rw [← Array.toArray_toList (xs := argTypes), h1], ?_, g1, g2, g3, g4, g5, g8, by rw [g6, g7]⟩
        unfold isSrc at hc
        split at hc
        · rename_i e' hu; exact .inl ⟨e', hu⟩
        · rename_i hu; exact .inr hu
        · cases hc
    · cases ha
  · cases ha

theorem size_zeroCells' (z : Array Value) (n : Nat) : (Builtin.zeroCells z n).size = n * z.size := by simp [Builtin.zeroCells]

/-- A row that has grown into a new block. -/
theorem sim_grown (hs : Sim B w0 ρ h w) {esz n cap : Nat} {cs : Array Value} {z : Array Value} (e : TypeId) (hc : ∀ u ∈ cs, vtop u ≤ h.next ∧ u.oneCell' = true) (hz : z.size = esz) (hn : n ≤ cap) :
    ∃ ρ', Sim B w0 ρ' (h.alloc ⟨cs, esz, true⟩) (w.drew.alloc (.cells (cs.map (rl ρ) ++ Builtin.zeroCells z (cap - n)) e)) ∧ Goes h.next ρ ρ' ∧ rl ρ' (.slice (some ⟨h.next, 0, none⟩) n (2 * n + 1)) = .slice (some ⟨w.heap.size, 0, none⟩) n cap := by
  have hA := hs.drew.alloc ⟨cs, esz, true⟩ (cs.map (rl ρ) ++ Builtin.zeroCells z (cap - n)) e (0, 0) (cap - n) hc (by simp [size_zeroCells', hz]) (by simp)
    (fun j hj => by
      have hj' : j < (cs.map (rl ρ)).size := by simpa using hj
      rw [Array.getElem?_append_left hj', Array.getElem?_eq_getElem hj']; simp) rfl
  refine ⟨_, hA, Goes.new _ _ _, ?_⟩
  simp only [rl, rlAddr, Rn.new, if_true, rlCap, World.size_drew]
  rw [if_pos (by omega)]
  congr 1
  omega

theorem Src.of (hs : Sim B w0 ρ h w) {esz n : Nat} {x : Value} {cs : Array Value} {tx : TypeId} (hk : (∃ e', P.underlying tx = some (.slice e')) ∨ P.underlying tx = some .string) (hx : srcCells h esz x = some (n, cs)) :
    Src P esz tx (rl ρ x) n (cs.map (rl ρ)).toList w := by
  obtain ⟨g1, g2, g3, g4⟩ := run_srcCells (P := P) hs hx
  obtain ⟨_, g2', _, _⟩ := run_srcCells (P := P) hs.drew hx
  refine ⟨hk, fun w' => ?_, by rw [Array.toArray_toList]; exact g2, by rw [Array.toArray_toList]; exact g2', by simp [g3], fun u hu => ?_⟩
  · have : ∀ (y : Value) (a b : World), (Builtin.lenOf y).run P a = .ok n a → (Builtin.lenOf y).run P b = .ok n b := by
      intro y a b
      cases y <;> simp [Builtin.lenOf]
    exact this _ _ _ g1
  · simp at hu
    obtain ⟨v, hv, rfl⟩ := hu
    rw [rl_oneCell]; exact (g4 v hv).2

theorem run_append_in {t tx ty e : TypeId} {i : TypeInfo} (ht : P.underlying t = some (.slice e)) (hi : P.info? e = some i) {b : Addr} {sLen sCap : Nat} {x : Value} {n : Nat} {news : List Value} (hs : Src P i.size tx x n news w)
    (hroom : sLen + n ≤ sCap) {w' : World} (hst : (storeCells (b.add (sLen * i.size)) news).run P w = .ok () w') :
    (Builtin.append_ #[t, tx] ty #[.slice (some b) sLen sCap, x]).run P w = .ok (.slice (some b) (sLen + n) sCap) w' := by
  rcases hs.kind with ⟨e', hk⟩ | hk <;> simp [Builtin.append_, run_underlying ht, run_underlying hk, sizeOf, typeInfo, hi, hs.len, hroom, hs.cells, hst]

theorem run_append_none {t tx ty e : TypeId} {i : TypeInfo} (ht : P.underlying t = some (.slice e)) (hi : P.info? e = some i) {x : Value} {news : List Value} (hs : Src P i.size tx x 0 news w) :
    (Builtin.append_ #[t, tx] ty #[.slice none 0 0, x]).run P w = .ok (.slice none 0 0) w := by
  rcases hs.kind with ⟨e', hk⟩ | hk <;> simp [Builtin.append_, run_underlying ht, run_underlying hk, sizeOf, typeInfo, hi, hs.len, hs.cells]

theorem room_fits {need old bytes : Nat} (h : old < need) (hb : need * bytes ≤ ROOM) : Builtin.nextslicecap need old * bytes ≤ 281474976710656 := growslice_fits h hb

theorem blks_moved {h : Hp} {i j : Nat} {b c : Blk} (hj : ((h.kill i).alloc b).blks j = some c) : (j = h.next ∧ c = b) ∨ (j ≠ h.next ∧ j ≠ i ∧ h.blks j = some c) := by
  change (if j = h.next then some b else if j = i then none else h.blks j) = some c at hj
  by_cases h1 : j = h.next
  · rw [if_pos h1] at hj; cases hj; exact .inl ⟨h1, rfl⟩
  · rw [if_neg h1] at hj
    by_cases h2 : j = i
    · rw [if_pos h2] at hj; cases hj
    · rw [if_neg h2] at hj; exact .inr ⟨h1, h2, hj⟩

theorem run_aappend {argTypes : Array TypeId} {ty : TypeId} {esz bytes : Nat} {s x : Value} (hs : Sim B w0 ρ h w) (ha : apInfo P argTypes = some (esz, bytes)) (happ : aappend h esz bytes s x = some (v, h')) (hv : vtop s ≤ h.next) :
    Res P B w0 ρ h w (Builtin.append_ argTypes ty #[rl ρ s, rl ρ x]) v h' := by
  obtain ⟨st, xt, e, i, zv, rfl, hk, hst, hi, rfl, rfl, hz, hpos, hzs⟩ := apInfo_spec ha
  unfold aappend at happ
  cases hsrc : srcCells h i.size x with
  | none => simp [hsrc] at happ
  | some r =>
    obtain ⟨n, new⟩ := r
    simp only [hsrc] at happ
    have hS := Src.of hs hk hsrc
    obtain ⟨_, _, g3, g4⟩ := run_srcCells (P := P) hs hsrc
    -- a row that grows
    have grow : ∀ (base : Option Addr) (sLen sCap : Nat) (old : Array Value), (Builtin.firstCells i.size sLen (.slice base sLen sCap)).run P w.drew = .ok (old.map (rl ρ)) w.drew → (∀ u ∈ old, vtop u ≤ h.next ∧ u.oneCell' = true) →
        sCap < sLen + n → ∀ h1 : Hp, Sim B w0 ρ h1 w → h1.next = h.next → agrown h1 i.size i.bytes (sLen + n) (old ++ new) = some (v, h') →
        Res P B w0 ρ h w (Builtin.append_ #[st, xt] ty #[.slice base sLen sCap, rl ρ x]) v h' := by
      intro base sLen sCap old hold hold1 hlt h1 hs1 hn1 hgr
      unfold agrown at hgr
      split at hgr
      · rename_i hroom
        cases hgr
        have hcap := grownCap_ge w (sLen + n) sCap e
        obtain ⟨ρ', k1, k2, k3⟩ := sim_grown (cs := old ++ new) hs1 (z := zv.cells) e (fun u hu => by rcases Array.mem_append.1 hu with hu | hu; exact hn1 ▸ hold1 u hu; exact hn1 ▸ g4 u hu) hzs hcap
        refine ⟨ρ', _, ?_, k1, by simp [vtop], by simp [hn1], hn1 ▸ k2⟩
        have hmax : ((sLen + n : Nat) : Int) ≤ 9223372036854775807 := by have := hroom.2; simp only [ROOM] at this; omega
        have := run_append_grow_src (P := P) w st xt ty e i zv hst hi hz base sLen sCap (old.map (rl ρ)).toList (by rw [Array.toArray_toList]; exact hold) (rl ρ x) n _ hS hlt hmax (room_fits hlt hroom.1)
        rw [k3, this]
        have e1 : ((old.map (rl ρ)).toList ++ (new.map (rl ρ)).toList).toArray = (old ++ new).map (rl ρ) := by
          apply Array.ext'; simp
        rw [e1]
      · cases hgr
    split at happ
    · -- nil
      rename_i len cap
      split at happ
      · rename_i hlc
        obtain ⟨rfl, rfl⟩ := hlc
        split at happ
        · rename_i hn
          subst hn
          cases happ
          exact Res.same hs ⟨by simpa only [rl] using run_append_none hst hi hS, by simp [vtop]⟩
        · rename_i hn
          refine grow none 0 0 #[] (by simp [Builtin.firstCells]) (by simp) (by omega) h hs rfl ?_
          simpa using happ
      · cases happ
    · rename_i a len cap
      have hle : cap / 2 ≤ rlCap ρ a cap := by unfold rlCap; split <;> omega
      split at happ
      · rename_i hfit
        split at happ
        · rename_i hn
          subst hn
          cases happ
          have hnew : new = #[] := Array.eq_empty_of_size_eq_zero (by rw [g3]; simp)
          subst hnew
          refine Res.same hs ⟨?_, hv⟩
          exact run_append_in hst hi hS (by omega) (by simp [storeCells])
        · rename_i hn
          cases hb : h.blks a.block with
          | none => simp [hb] at happ
          | some b =>
            simp only [hb] at happ
            split at happ
            · rename_i hc
              cases happ
              have hsz : a.off + len * i.size + new.toList.length ≤ b.cells.size := by have := hc.2; rw [Nat.add_mul] at this; simp only [Array.length_toList, g3]; omega
              obtain ⟨w', h1, h2⟩ := hs.storeCells (P := P) new.toList hb hc.1 (a.off + len * i.size) 0 (by simpa using hsz) (fun u hu => g4 u (by simpa using hu)) none
              refine ⟨ρ, w', ?_, by simpa using h2, by simpa [vtop] using hv, Nat.le_refl _, Goes.refl _ _⟩
              refine run_append_in hst hi hS (by omega) ?_
              rw [rlAddr_add]
              simpa using h1
            · cases happ
      · rename_i hfit
        split at happ
        · rename_i hev
          have hcap : rlCap ρ a cap = cap / 2 := by simp only [rlCap]; rw [if_neg (by omega)]
          cases hr : rowAt h a (len * i.size) with
          | none => simp [hr] at happ
          | some old =>
            simp only [hr] at happ
            obtain ⟨q1, q2, q3, _⟩ := rowAt_spec (P := P) hs.drew hr
            have := grow (some (rlAddr ρ a)) len (cap / 2) old (by simpa only [Builtin.firstCells] using q1) q3 (by omega) h hs rfl happ
            simpa only [rl, hcap] using this
        · rename_i hod
          cases hb : h.blks a.block with
          | none => simp [hb] at happ
          | some b =>
            simp only [hb] at happ
            split at happ
            · rename_i hc
              obtain ⟨hown, hbe, hoff, hlen, hcl⟩ := hc
              have hcap : rlCap ρ a cap = len + (ρ a.block).extra := by simp only [rlCap]; rw [if_pos (by omega), hcl]
              obtain ⟨cs, et, fr, hreal⟩ := hs.real _ _ hb
              obtain ⟨o1, o2, o3, o4⟩ := hreal.own hown
              have hrow : rowAt h a (len * i.size) = some b.cells := by
                unfold rowAt; simp only [hb, hoff, Nat.zero_add]; rw [if_pos (by omega), hlen]; simp
              have hbw := hs.wf _ _ hb
              have hkill : Sim B w0 ρ (h.kill a.block) w := hs.forget _ hs.nx fun j c hj => by
                simp only [Hp.blks_kill] at hj
                split at hj
                · cases hj
                · exact ⟨hj, hs.lt _ _ hj, fun u hu => (hs.wf _ _ hj u hu).1⟩
              by_cases hin : len + n ≤ rlCap ρ a cap
              · -- in place
                unfold agrown at happ
                split at happ
                · rename_i hroom
                  cases happ
                  have hex : n ≤ (ρ a.block).extra := by omega
                  have hfits : len * i.size + (new.map (rl ρ)).toList.length ≤ cs.size := by
                    simp only [Array.length_toList, Array.size_map, g3, o3, hbe, ← hlen]
                    have := Nat.mul_le_mul_right i.size hex
                    omega
                  obtain ⟨w', s1, s2, s3, s4, s5, s6, s7⟩ := raw_store (P := P) (new.map (rl ρ)).toList w cs (len * i.size) 0 hreal.at_ hfits o4 (fun u hu => by
                    simp at hu; obtain ⟨v, hv, rfl⟩ := hu; rw [rl_oneCell]; exact (g4 v hv).2)
                  rw [Nat.add_zero] at s2
                  have hg := Goes.new ρ h.next ⟨(ρ a.block).blk, 0, (ρ a.block).extra - n⟩
                  refine ⟨ρ.new h.next ⟨(ρ a.block).blk, 0, (ρ a.block).extra - n⟩, w', ?_, ?_, by simp [vtop], by simp, hg⟩
                  · have := run_append_in (ty := ty) (sCap := rlCap ρ a cap) (b := rlAddr ρ a) hst hi hS hin (w' := w') (by rw [rlAddr_add]; simpa only [rlAddr, hoff, o2, Nat.zero_add] using s1)
                    rw [show rl ρ (.slice (some a) len cap) = .slice (some (rlAddr ρ a)) len (rlCap ρ a cap) from rfl, this]
                    simp only [rl, rlAddr, Rn.new, Hp.next_kill, if_true, hoff, o2, Nat.add_zero, rlCap]
                    rw [if_pos (by omega), if_pos (by omega)]
                    congr 2
                    omega
                  · have hoth : ∀ j c, h.blks j = some c → j ≠ a.block → (ρ j).blk ≠ (ρ a.block).blk := fun j c hj hne he => by
                      cases oc : c.own with
                      | true => exact hne (hs.inj _ _ _ _ hj hb oc hown he)
                      | false =>
                        obtain ⟨_, _, _, hr'⟩ := hs.real _ _ hj
                        have := (hr'.ro oc).1; have := o1.1; omega
                    refine ⟨fun j c hj => ?_, fun j c hj u hu => ?_, fun j c hj => ?_, fun j k c d hj hk' oc od he => ?_, by rw [s4]; exact hs.base, ?_, fun g hg' => by rw [← hg (100 + g) (by have := hs.nx; omega)]; exact hs.gl g hg', by have := hs.nx; show 150 ≤ h.next + 1; omega⟩
                    · show j < h.next + 1
                      rcases blks_moved hj with ⟨q1, _⟩ | ⟨_, _, q3⟩
                      · omega
                      · have := hs.lt _ _ q3; omega
                    · show vtop u ≤ h.next + 1 ∧ _
                      rcases blks_moved hj with ⟨_, rfl⟩ | ⟨_, _, q3⟩
                      · rcases Array.mem_append.1 hu with hu | hu
                        · have := hbw u hu; exact ⟨by omega, this.2⟩
                        · have := g4 u hu; exact ⟨by omega, this.2⟩
                      · have := hs.wf _ _ q3 u hu; exact ⟨by omega, this.2⟩
                    · rcases blks_moved hj with ⟨rfl, rfl⟩ | ⟨hjn, hja, q3⟩
                      · refine ⟨putL cs (len * i.size) (new.map (rl ρ)).toList, et, fr, ?_⟩
                        simp only [Rn.new, if_true]
                        refine ⟨s2, fun q hq => ?_, fun _ => ⟨o1, rfl, ?_, fun q hq => o4 q (by simpa using hq)⟩, fun hf => by cases hf⟩
                        · simp only [Nat.zero_add, getElem?_putL, Array.length_toList, Array.size_map]
                          simp only [Array.size_append, ← hlen] at hq
                          by_cases hq1 : q < len * i.size
                          · rw [if_neg (by omega)]
                            have hqb : q < b.cells.size := by omega
                            have := hreal.cell q hqb
                            rw [o2, Nat.zero_add] at this
                            rw [this, Array.getElem_append_left hqb, ← hg.rl (hbw _ (Array.getElem_mem hqb)).1]
                          · have hqc : q < cs.size := by rw [o3, hbe, ← hlen]; have := Nat.mul_le_mul_right i.size hex; omega
                            rw [if_pos (by omega)]
                            have hqn : q - len * i.size < new.size := by omega
                            have e2 : (b.cells ++ new)[q]'(by simp [← hlen]; omega) = new[q - len * i.size] := by
                              rw [Array.getElem_append_right (by omega)]
                              simp only [hlen]
                            simp only [e2]
                            rw [← hg.rl (g4 _ (Array.getElem_mem hqn)).1]
                            simp [hqn]
                        · simp only [size_putL, Array.size_append, o3, hbe, g3, ← hlen]
                          rw [Nat.sub_mul]
                          have := Nat.mul_le_mul_right i.size hex
                          omega
                      · have hlt := hs.lt _ _ q3
                        obtain ⟨cs', e', fr', hr'⟩ := hs.real j c q3
                        refine ⟨cs', e', fr', ?_⟩
                        rw [← hg j hlt]
                        refine ⟨by rw [s3 _ (hoth j c q3 hja)]; exact hr'.at_, fun q hq => ?_, hr'.own, hr'.ro⟩
                        rw [hr'.cell q hq, hg.rl (hs.wf _ _ q3 _ (Array.getElem_mem hq)).1]
                    · rcases blks_moved hj with ⟨q1, _⟩ | ⟨_, q2, q3⟩ <;> rcases blks_moved hk' with ⟨r1, _⟩ | ⟨_, r2, r3⟩
                      · omega
                      · rw [q1, ← hg k (hs.lt _ _ r3)] at he
                        simp only [Rn.new, if_true] at he
                        exact absurd he.symm (hoth k d r3 r2)
                      · rw [r1, ← hg j (hs.lt _ _ q3)] at he
                        simp only [Rn.new, if_true] at he
                        exact absurd he (hoth j c q3 q2)
                      · rw [← hg k (hs.lt _ _ r3), ← hg j (hs.lt _ _ q3)] at he
                        exact hs.inj j k c d q3 r3 oc od he
                    · refine ⟨s5.trans hs.below.os, s6.trans hs.below.tape, s7.trans hs.below.output, by rw [s4]; exact hs.below.size, fun k hk' => ?_⟩
                      rw [s3 k (fun e => by
                        subst e
                        rcases hk' with hk' | hk'
                        · exact absurd o1.1 (by omega)
                        · exact o1.2 hk')]
                      exact hs.below.block k hk'
                · cases happ
              · obtain ⟨q1, q2, q3, _⟩ := rowAt_spec (P := P) hs.drew hrow
                have := grow (some (rlAddr ρ a)) len (rlCap ρ a cap) b.cells (by simpa only [Builtin.firstCells] using q1) q3 (by omega) (h.kill a.block) hkill rfl happ
                simpa only [rl] using this
            · cases happ
    · cases happ

end
end Go.Mini
