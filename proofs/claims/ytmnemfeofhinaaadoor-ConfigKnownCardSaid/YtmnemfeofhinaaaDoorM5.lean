/-
  Each operation that is no call does in the world what 'aop' says of names: slices, structs put together, conversions, memory; and all of them together.
-/
import Derived.Test.YtmnemfeofhinaaaDoorM4
set_option linter.unusedSimpArgs false
set_option linter.unusedVariables false
set_option linter.unusedSectionVars false
namespace Go.Mini
open Go

section
variable {P : Program} {w : World} {ρ : Rn} {n : Nat}

theorem bnd_mono {x : Value} {y y' m : Nat} (h : bnd x y = some m) (hy : y ≤ y') : bnd x y' = some m := by
  unfold bnd at *
  split at h
  · split at h
    · rename_i hi; rw [if_pos (by omega)]; exact h
    · cases h
  · cases h

theorem run_bndD {x : Option Value} {y d m : Nat} (h : bndD x y d = some m) (code : BoundsCode) :
    (match x.map (rl ρ) with | some v => Instr.sliceBound v y code | none => pure d : Sem Nat).run P w = .ok m w := by
  cases x with
  | none => simp only [bndD, Option.some.injEq] at h; subst h; rfl
  | some v => exact (run_bnd h code).1

theorem bndD_le {x : Option Value} {y d m : Nat} (h : bndD x y d = some m) (hd : d ≤ y) : m ≤ y := by
  cases x with
  | none => simp only [bndD, Option.some.injEq] at h; omega
  | some v => exact (run_bnd (P := default) (w := default) (ρ := fun _ => ⟨0, 0, 0⟩) h .index).2

theorem run_bounds2 {isSlice : Bool} {len cap : Nat} {lo hi : Option Value} {h l : Nat} (hh : bndD hi cap len = some h) (hl : bndD lo h 0 = some l) :
    (Instr.sliceBounds isSlice len cap (lo.map (rl ρ)) (hi.map (rl ρ)) none).run P w = .ok (l, h, cap) w := by
  unfold Instr.sliceBounds
  simp only [Sem.run_bind, Sem.run_pure, Result.andThen_ok]
  have h1 := run_bndD (P := P) (w := w) (ρ := ρ) hh (if isSlice then .sliceAcap else .sliceAlen)
  have h2 := run_bndD (P := P) (w := w) (ρ := ρ) hl .sliceB
  cases hi with
  | none =>
    simp only [bndD, Option.some.injEq] at hh
    subst hh
    cases lo with
    | none => simp only [bndD, Option.some.injEq] at hl; subst hl; rfl
    | some v => simp only [Option.map_some] at h2; simp [h2]
  | some u =>
    simp only [Option.map_some] at h1
    cases lo with
    | none => simp only [bndD, Option.some.injEq] at hl; subst hl; simp [h1]
    | some v => simp only [Option.map_some] at h2; simp [h1, h2]

theorem run_bounds3 {isSlice : Bool} {len cap : Nat} {lo : Option Value} {hi mx : Value} {m h l : Nat} (hm : bnd mx cap = some m) (hh : bnd hi m = some h) (hl : bndD lo h 0 = some l) :
    (Instr.sliceBounds isSlice len cap (lo.map (rl ρ)) (some (rl ρ hi)) (some (rl ρ mx))).run P w = .ok (l, h, m) w := by
  unfold Instr.sliceBounds
  simp only [Sem.run_bind, (run_bnd (P := P) (w := w) (ρ := ρ) hm _).1, (run_bnd (P := P) (w := w) (ρ := ρ) hh _).1, Result.andThen_ok]
  have h2 := run_bndD (P := P) (w := w) (ρ := ρ) hl .slice3C
  cases lo with
  | none => simp only [bndD, Option.some.injEq] at hl; subst hl; rfl
  | some v => simp only [Option.map_some] at h2 ⊢; simp [h2]

/-- A slice of a row: of names, and in the world. -/
theorem row_slice {a : Addr} {esz len cap : Nat} {lo hi mx : Option Value} {v : Value} (h : asliceRow a esz len cap lo hi mx = some v) (isSlice : Bool) :
    ∃ l hh m, (Instr.sliceBounds isSlice len (rlCap ρ a cap) (lo.map (rl ρ)) (hi.map (rl ρ)) (mx.map (rl ρ))).run P w = .ok (l, hh, m) w ∧
      rl ρ v = .slice (some (if m = l then rlAddr ρ a else (rlAddr ρ a).add (l * esz))) (hh - l) (m - l) ∧ vtop v = a.block + 1 := by
  unfold asliceRow at h
  have hc : cap / 2 ≤ rlCap ρ a cap := by unfold rlCap; split <;> omega
  cases mx with
  | some m0 =>
    simp only at h
    cases hm : bnd m0 (cap / 2) with
    | none => simp [hm] at h
    | some m =>
      simp only [hm] at h
      cases hi with
      | none => simp at h
      | some hv =>
        simp only at h
        cases hh : bnd hv m with
        | none => simp [hh] at h
        | some q =>
          simp only [hh] at h
          cases hl : bndD lo q 0 with
          | none => simp [hl] at h
          | some l =>
            simp only [hl, Option.some.injEq] at h
            subst h
            refine ⟨l, q, m, run_bounds3 (bnd_mono hm hc) hh hl, ?_, by split <;> rfl⟩
            have e5 : ∀ x, rlCap ρ ⟨a.block, x, none⟩ (2 * (m - l)) = m - l := by intro x; simp only [rlCap]; split <;> omega
            split
            · simp only [rl, e5, rlAddr_spot]
            · simp only [rl, e5]; rw [rlAddr_add]
  | none =>
    simp only at h
    cases hh : bndD hi (cap / 2) len with
    | none => simp [hh] at h
    | some q =>
      simp only [hh] at h
      cases hl : bndD lo q 0 with
      | none => simp [hl] at h
      | some l =>
        simp only [hl] at h
        have hlq : l ≤ q := bndD_le hl (Nat.zero_le _)
        have hhi : bndD hi (rlCap ρ a cap) len = some q := by
          cases hi with
          | none => simpa only [bndD] using hh
          | some hv => exact bnd_mono hh hc
        by_cases ho : cap % 2 = 1
        · rw [if_pos ho] at h
          by_cases hno : cap / 2 ≤ l ∧ 0 < l
          · rw [if_pos hno] at h; cases h
          · rw [if_neg hno, Option.some.injEq] at h
            subst h
            have e4 : rlCap ρ a cap = cap / 2 + (ρ a.block).extra := by simp only [rlCap, if_pos ho]
            refine ⟨l, q, rlCap ρ a cap, run_bounds2 hhi hl, ?_, rfl⟩
            have e5 : ∀ x, rlCap ρ ⟨a.block, x, none⟩ (2 * (cap / 2 - l) + 1) = rlCap ρ a cap - l := by intro x; rw [e4]; simp only [rlCap]; rw [if_pos (by omega)]; omega
            rcases Nat.eq_zero_or_pos l with h0 | h0
            · subst h0
              simp only [Nat.zero_mul, Nat.add_zero, rl, e5, rlAddr_spot]
              rw [rlAddr_add, Nat.add_zero, rlAddr_spot, ite_self]
            · have e2 : rlCap ρ a cap ≠ l := by rw [e4]; omega
              rw [if_neg e2, rlAddr_add]
              simp only [rl, e5]
        · rw [if_neg ho, Option.some.injEq] at h
          subst h
          have e4 : rlCap ρ a cap = cap / 2 := by simp only [rlCap, if_neg ho]
          refine ⟨l, q, rlCap ρ a cap, run_bounds2 hhi hl, ?_, by split <;> rfl⟩
          have e5 : ∀ x, rlCap ρ ⟨a.block, x, none⟩ (2 * (cap / 2 - l)) = cap / 2 - l := by intro x; simp only [rlCap]; rw [if_neg (by omega)]; omega
          rw [e4]
          split
          · simp only [rl, e5, rlAddr_spot]
          · rw [rlAddr_add]; simp only [rl, e5]

theorem isStr_spec {ty : TypeId} (h : isStr P ty = true) : P.underlying ty = some .string := by
  unfold isStr at h
  cases hu : P.underlying ty with
  | none => simp [hu] at h
  | some d => cases d <;> simp_all

theorem run_slice {ty : TypeId} {x v : Value} {lo hi mx : Option Value} (h : aslice P ty x lo hi mx = some v) (hx : vtop x ≤ n) :
    (Instr.sliceAt ty (rl ρ x) (lo.map (rl ρ)) (hi.map (rl ρ)) (mx.map (rl ρ))).run P w = .ok (rl ρ v) w ∧ vtop v ≤ n := by
  unfold aslice at h
  split at h
  · rename_i s
    split at h
    · rename_i hc
      have hu := isStr_spec hc.1
      have hmx : mx = none := by simpa using hc.2
      subst hmx
      unfold asliceStr at h
      cases hh : bndD hi s.size s.size with
      | none => simp [hh] at h
      | some q =>
        simp only [hh] at h
        cases hl : bndD lo q 0 with
        | none => simp [hl] at h
        | some l =>
          simp only [hl, Option.some.injEq] at h
          subst h
          refine ⟨?_, by simp [vtop]⟩
          have := run_bounds2 (P := P) (w := w) (ρ := ρ) (isSlice := false) hh hl
          simp [Instr.sliceAt, run_und hu, rl, Instr.slice, this]
    · cases h
  · rename_i a len cap
    split at h
    · rename_i esz z hi'
      rcases ixInfo_spec hi' with ⟨k, e, hk, _⟩ | ⟨e, _, hu, hs, _⟩
      · cases hk
      · obtain ⟨l, q, m, h1, h2, h3⟩ := row_slice (P := P) (w := w) (ρ := ρ) h true
        refine ⟨?_, by simp only [vtop] at hx; omega⟩
        rw [h2]
        simp only [Instr.sliceAt, Sem.run_bind, run_und hu, Result.andThen_ok, rl, Instr.slice, h1, run_sizeOf hs, Sem.run_pure, Option.map_some]
        split <;> rfl
    · cases h
  · rename_i len cap
    split at h
    · rename_i esz z hi'
      rcases ixInfo_spec hi' with ⟨k, e, hk, _⟩ | ⟨e, _, hu, hs, _⟩
      · cases hk
      · split at h
        · rename_i hc
          obtain ⟨rfl, rfl⟩ := hc
          split at h
          · rename_i m q l hm hq hl
            split at h
            · cases h
            · rename_i hno
              cases h
              refine ⟨?_, by simp [vtop]⟩
              have hm0 : m = 0 := by have := bndD_le hm (Nat.le_refl _); omega
              have hq0 : q = 0 := by have := bndD_le hq (Nat.le_refl _); omega
              have hl0 : l = 0 := by have := bndD_le hl (Nat.le_refl _); omega
              subst hm0 hq0 hl0
              have hb : (Instr.sliceBounds true 0 0 (lo.map (rl ρ)) (hi.map (rl ρ)) (mx.map (rl ρ))).run P w = .ok (0, 0, 0) w := by
                cases mx with
                | none => exact run_bounds2 hq hl
                | some m0 => cases hi with
                  | none => simp at hno
                  | some h0 => exact run_bounds3 hm hq hl
              simp [Instr.sliceAt, run_und hu, rl, Instr.slice, hb, run_sizeOf hs]
          · cases h
        · cases h
    · cases h
  · rename_i a
    split at h
    · rename_i k esz z hi'
      rcases ixInfo_spec hi' with ⟨k', e, hk, hu, hs, _⟩ | ⟨e, hk, _⟩
      · cases hk
        · obtain ⟨l, q, m, h1, h2, h3⟩ := row_slice (P := P) (w := w) (ρ := ρ) h false
          refine ⟨?_, by simp only [vtop] at hx; omega⟩
          have e4 : rlCap ρ a (2 * k) = k := by simp only [rlCap]; rw [if_neg (by omega)]; omega
          rw [e4] at h1
          rw [h2]
          simp only [Instr.sliceAt, Sem.run_bind, run_und hu, Result.andThen_ok, rl, Instr.sureAddr, Sem.run_pure, h1, run_sizeOf hs]
      · cases hk
    · cases h
  · cases h

/-! ### Structs and arrays put together -/
theorem foldl_set_map (g : Value → Value) (l : List (Value × Nat)) (off : Nat) : ∀ (cs : Array Value),
    (l.map fun p => (g p.1, p.2)).foldl (fun cs p => cs.setIfInBounds (off + p.2) p.1) (cs.map g) = (l.foldl (fun cs p => cs.setIfInBounds (off + p.2) p.1) cs).map g := by
  induction l with
  | nil => intro cs; rfl
  | cons p l ih =>
    intro cs
    simp only [List.map_cons, List.foldl_cons]
    rw [← ih]
    congr 1
    simp

theorem mem_foldl_set {Q : Value → Prop} (l : List (Value × Nat)) (off : Nat) : ∀ (cs : Array Value), (∀ v ∈ cs, Q v) → (∀ p ∈ l, Q p.1) → ∀ v ∈ l.foldl (fun cs p => cs.setIfInBounds (off + p.2) p.1) cs, Q v := by
  induction l with
  | nil => intro cs hc _; exact hc
  | cons p l ih =>
    intro cs hc hp
    refine ih _ (fun v hv => ?_) (fun q hq => hp q (by simp [hq]))
    rcases Array.mem_or_eq_of_mem_setIfInBounds hv with h | h
    · exact hc v h
    · subst h; exact hp p (by simp)

theorem zipIdx_map (g : Value → Value) (cs : Array Value) : (cs.map g).zipIdx = cs.zipIdx.map fun p => (g p.1, p.2) := by
  apply Array.ext
  · simp
  · intro i h1 h2; simp

theorem fill_map (ρ : Rn) (pl : Nat → Option (Nat × Nat)) (parts : List (Nat × Value)) : ∀ (cs : Array Value),
    Instr.fill pl (cs.map (rl ρ)) (parts.map fun p => (p.1, rl ρ p.2)) = (Instr.fill pl cs parts).map fun r => r.map (rl ρ) := by
  induction parts with
  | nil => intro cs; rfl
  | cons p parts ih =>
    intro cs
    obtain ⟨i, v⟩ := p
    simp only [List.map_cons, Instr.fill]
    cases hp : pl i with
    | none => rfl
    | some q =>
      obtain ⟨off, size⟩ := q
      simp only [rl_cells, Array.size_map]
      split
      · rfl
      · rw [← ih]
        congr 1
        rw [zipIdx_map]
        simp only [← Array.foldl_toList, Array.toList_map]
        exact foldl_set_map (rl ρ) v.cells.zipIdx.toList off cs

theorem fill_mem {Q : Value → Prop} {pl : Nat → Option (Nat × Nat)} (parts : List (Nat × Value)) : ∀ {cs r : Array Value}, Instr.fill pl cs parts = some r → (∀ v ∈ cs, Q v) → (∀ p ∈ parts, ∀ v ∈ p.2.cells, Q v) → ∀ v ∈ r, Q v := by
  induction parts with
  | nil => intro cs r h hc _; simp only [Instr.fill, Option.some.injEq] at h; subst h; exact hc
  | cons p parts ih =>
    intro cs r h hc hp
    obtain ⟨i, v⟩ := p
    simp only [Instr.fill] at h
    cases hq : pl i with
    | none => simp [hq] at h
    | some q =>
      obtain ⟨off, size⟩ := q
      simp only [hq] at h
      split at h
      · cases h
      · refine ih h ?_ (fun p hp' => hp p (by simp [hp']))
        rw [← Array.foldl_toList]
        refine mem_foldl_set _ off cs hc fun p hp' => hp (i, v) (by simp) p.1 ?_
        have := Array.mem_toList_iff.1 hp'
        obtain ⟨j, hj, he⟩ := Array.mem_iff_getElem.1 this
        rw [← he]
        simp

theorem zeroOf_spec {ty : TypeId} {z : Array Value} (h : zeroOf P ty = some z) : ∃ i v, P.info? ty = some i ∧ i.zero = some v ∧ v.cells = z ∧ ∀ u ∈ z, vtop u = 0 ∧ u.oneCell' = true := by
  unfold zeroOf at h
  cases hi : P.info? ty with
  | none => simp [hi] at h
  | some i =>
    cases hz : i.zero with
    | none => simp [hi, hz] at h
    | some v =>
      simp only [hi, Option.bind_some, hz] at h
      split at h
      · rename_i hok
        cases h
        refine ⟨i, v, rfl, hz, rfl, fun u hu => ?_⟩
        unfold okZero at hok
        have := Array.all_eq_true'.1 hok u hu
        simpa using this
      · cases h

theorem map_rl_zero {ρ : Rn} {z : Array Value} (h : ∀ u ∈ z, vtop u = 0) : z.map (rl ρ) = z := by
  apply Array.ext
  · simp
  · intro i h1 h2; simp [rl_id _ (h _ (Array.getElem_mem h2))]

theorem run_build {ty : TypeId} {parts : List (Nat × Value)} {v : Value} (h : abuild P ty parts = some v) (hx : ∀ p ∈ parts, vtop p.2 ≤ n) :
    (Instr.build ty (parts.map fun p => (p.1, rl ρ p.2)).toArray).run P w = .ok (rl ρ v) w ∧ vtop v ≤ n := by
  unfold abuild at h
  split at h
  · rename_i z pl hz hp
    cases hf : Instr.fill pl z parts with
    | none => simp [hf] at h
    | some r =>
      simp only [hf, Option.map_some, Option.some.injEq] at h
      subst h
      obtain ⟨i, zv, hi, hzv, hzc, hz0⟩ := zeroOf_spec hz
      have hf' : Instr.fill pl z (parts.map fun p => (p.1, rl ρ p.2)) = some (r.map (rl ρ)) := by
        have := fill_map ρ pl parts z
        rw [map_rl_zero (fun u hu => (hz0 u hu).1), hf] at this
        exact this
      refine ⟨?_, vtop_agg.2 (fill_mem parts hf (fun u hu => by have := (hz0 u hu).1; omega) (fun p hp' u hu => vtop_cells (hx p hp') u hu))⟩
      unfold placesOf at hp
      rw [rl_agg]
      split at hp
      · rename_i fs hu
        cases hpr : pureRun P (fs.mapM fun f => do pure (f.offset, ← sizeOf f.type)) with
        | none => rw [hpr] at hp; exact absurd hp (by simp)
        | some pls =>
          rw [hpr] at hp
          simp only [Option.map_some, Option.some.injEq] at hp
          subst hp
          have := run_of_pureRun _ hpr w
          simp only [Instr.build, Sem.run_bind, zeroValue, typeInfo, run_program, Result.andThen_ok, hi, Sem.run_pure, hzv, run_und hu, this, hzc]
          simp only [hf', Sem.run_pure]
      · rename_i k e hu
        cases hs : szOf P e with
        | none => simp [hs] at hp
        | some s =>
          simp only [hs, Option.map_some, Option.some.injEq] at hp
          subst hp
          simp only [Instr.build, Sem.run_bind, zeroValue, typeInfo, run_program, Result.andThen_ok, hi, Sem.run_pure, hzv, run_und hu, run_sizeOf hs, hzc]
          simp only [hf', Sem.run_pure]
      · cases hp
  · cases h

end
end Go.Mini
