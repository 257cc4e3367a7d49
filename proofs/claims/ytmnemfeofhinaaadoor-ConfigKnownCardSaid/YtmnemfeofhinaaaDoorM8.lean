/-
  The other builtins; slices that are made; and all operations but calls together: each does in the world what 'aop' says of names.
-/
import Derived.Test.YtmnemfeofhinaaaDoorM7
set_option linter.unusedSimpArgs false
set_option linter.unusedVariables false
set_option linter.unusedSectionVars false
namespace Go.Mini
open Go

section
variable {P : Program} {B : Bd} {w0 w : World} {ρ : Rn} {h h' : Hp} {v : Value}

theorem one0 (a : Value) : (#[a] : Array Value)[0]? = some a := rfl
theorem two0 (a b : Value) : (#[a, b] : Array Value)[0]? = some a := rfl
theorem two1 (a b : Value) : (#[a, b] : Array Value)[1]? = some b := rfl

theorem run_alen {ty : TypeId} {x : Value} {ats : Array TypeId} (h0 : ats[0]? = some ty) (hl : alen (lenK P ty) x = some v) (rt : TypeId) : (Builtin.len_ ats rt #[rl ρ x]).run P w = .ok (rl ρ v) w ∧ vtop v = 0 := by
  unfold lenK at hl
  split at hl
  · rename_i hu
    unfold alen at hl
    split at hl
    · rename_i s hk; cases hl; simp only [Builtin.len_, h0, one0, Sem.run_bind, run_und hu, Result.andThen_ok, rl, Sem.run_pure, goInt]; exact ⟨trivial, rfl⟩
    · rename_i hk; cases hk
    · rename_i hk; cases hk
    · rename_i hk; cases hk
    · cases hl
  · rename_i e hu
    unfold alen at hl
    split at hl
    · rename_i hk; cases hk
    · rename_i a n c hk
      cases hl
      refine ⟨?_, rfl⟩
      cases a <;> simp only [Builtin.len_, h0, one0, Sem.run_bind, run_und hu, Result.andThen_ok, rl, Sem.run_pure, goInt]
    · rename_i k a b hk
      cases hl
      refine ⟨?_, rfl⟩
      simp only [Builtin.len_, h0, one0, Sem.run_bind, run_und hu, Result.andThen_ok, rl, Sem.run_pure, goInt]
      rfl
    · rename_i hk; cases hk
    · cases hl
  · rename_i n e hu
    unfold alen at hl
    split at hl
    · rename_i hk; cases hk
    · rename_i hk; cases hk
    · rename_i hk; cases hk
    · rename_i m hk
      cases hk
      cases hl
      refine ⟨?_, rfl⟩
      simp only [Builtin.len_, h0, one0, Sem.run_bind, run_und hu, Result.andThen_ok, Sem.run_pure, goInt, rl]
    · rename_i hno _ _ _; exact absurd rfl (hno n)
  · rename_i arr hu
    split at hl
    · rename_i n e hu2
      unfold alen at hl
      split at hl
      · rename_i hk; cases hk
      · rename_i hk; cases hk
      · rename_i hk; cases hk
      · rename_i m hk
        cases hk
        cases hl
        refine ⟨?_, rfl⟩
        simp only [Builtin.len_, h0, one0, Sem.run_bind, run_und hu, run_und hu2, Result.andThen_ok, Sem.run_pure, goInt, rl]
      · rename_i hno _ _ _; exact absurd rfl (hno n)
    · simp [alen] at hl
  · simp [alen] at hl

theorem apure_spec {args : List Value} {s : Sem Value} (ha : apure P args s = some v) : (∀ u ∈ args, vtop u = 0) ∧ s.run P w = .ok v w ∧ vtop v = 0 := by
  unfold apure at ha
  split at ha
  · rename_i h0
    split at ha
    · rename_i v' hr
      split at ha
      · rename_i hv
        cases ha
        refine ⟨fun u hu => ?_, run_of_pureRun _ hr w, hv⟩
        have := vtopL_le.1 (Nat.le_of_eq h0) u hu
        omega
      · cases ha
    · cases ha
  · cases ha

theorem map_rl_id {args : List Value} (h0 : ∀ u ∈ args, vtop u = 0) : args.map (rl ρ) = args := by
  induction args with
  | nil => rfl
  | cons u l ih => simp [rl_id u (h0 u (by simp)), ih (fun x hx => h0 x (by simp [hx]))]

theorem run_acopy {ats : Array TypeId} {ty rt : TypeId} {esz bytes : Nat} {z : Array Value} {d s : Value} (hs : Sim B w0 ρ h w) (h0 : ats[0]? = some ty) (hi : elInfo P ty = some (esz, bytes, z)) (hc : acopy h esz d s = some (v, h')) (hd : vtop d ≤ h.next) :
    Res P B w0 ρ h w (Builtin.copy_ ats rt #[rl ρ d, rl ρ s]) v h' := by
  obtain ⟨e, i, zv, hu, hie, rfl, _⟩ := elInfo_spec hi
  have hsz : (sizeOf e).run P w = .ok i.size w := by simp [sizeOf, typeInfo, hie]
  unfold acopy at hc
  cases hsrc : srcCells h i.size s with
  | none => split at hc <;> simp_all
  | some r =>
    obtain ⟨n, cs⟩ := r
    obtain ⟨g1, g2, g3, g4⟩ := run_srcCells (P := P) hs hsrc
    simp only [hsrc] at hc
    -- the first so many elements of the source
    have first : ∀ m, m ≤ n → (Builtin.firstCells i.size m (rl ρ s)).run P w = .ok ((cs.toList.take (m * i.size)).map (rl ρ)).toArray w := by
      intro m hm
      unfold srcCells at hsrc
      split at hsrc
      · rename_i a k c
        split at hsrc
        · simp only [Option.some.injEq, Prod.mk.injEq] at hsrc
          obtain ⟨rfl, rfl⟩ := hsrc
          obtain rfl : m = 0 := by omega
          simp [rl, Builtin.firstCells, loadCells, loadCellsFrom]
        split at hsrc
        · rename_i cs' hr
          simp only [Option.some.injEq, Prod.mk.injEq] at hsrc
          obtain ⟨rfl, rfl⟩ := hsrc
          have hr' : rowAt h a (m * i.size) = some (cs'.extract 0 (m * i.size)) := by
            unfold rowAt at hr ⊢
            cases hb : h.blks a.block with
            | none => simp [hb] at hr
            | some b =>
              simp only [hb] at hr ⊢
              split at hr
              · rename_i hle
                cases hr
                have := Nat.mul_le_mul_right i.size hm
                rw [if_pos (by omega)]
                congr 1
                rw [Array.extract_extract]
                congr 1
                omega
              · cases hr
          obtain ⟨q1, _⟩ := rowAt_spec (P := P) hs hr'
          simp only [rl, Builtin.firstCells, q1]
          congr 1
          apply Array.ext'
          simp
        · cases hsrc
      · split at hsrc
        · rename_i hk
          simp only [Option.some.injEq, Prod.mk.injEq] at hsrc
          obtain ⟨rfl, rfl⟩ := hsrc
          simp [rl, Builtin.firstCells]
        · cases hsrc
      · rename_i str
        split at hsrc
        · rename_i he
          simp only [Option.some.injEq, Prod.mk.injEq] at hsrc
          obtain ⟨rfl, rfl⟩ := hsrc
          simp only [rl, Builtin.firstCells, Sem.run_pure, he, Nat.mul_one]
          congr 1
          apply Array.ext'
          simp [byteV, rl, List.map_take, Function.comp_def]
        · cases hsrc
      · cases hsrc
    split at hc
    · rename_i len cap n' cs' hx
      cases hx
      split at hc
      · rename_i hl
        subst hl
        cases hc
        refine Res.same hs ⟨?_, by simp [vtop]⟩
        have f0 := first 0 (Nat.zero_le _)
        simp only [Nat.zero_mul, List.take_zero, List.map_nil] at f0
        have hm : Nat.min n 0 = 0 := Nat.min_zero n
        simp only [Builtin.copy_, h0, two0, two1, Sem.run_bind, run_und hu, Result.andThen_ok, rl, g1, hsz, hm, f0, Sem.run_pure, goInt]
        rfl
      · cases hc
    · rename_i a len cap n' cs' hx
      cases hx
      cases hb : h.blks a.block with
      | none => simp [hb] at hc
      | some b =>
        simp only [hb] at hc
        split at hc
        · rename_i hok
          cases hc
          have hlen : (cs.toList.take (min n len * i.size)).length = min n len * i.size := by
            rw [List.length_take, Array.length_toList, g3]
            have := Nat.mul_le_mul_right i.size (Nat.min_le_left n len)
            omega
          obtain ⟨w', h1, h2⟩ := hs.storeCells (P := P) (cs.toList.take (min n len * i.size)) hb hok.1 a.off 0 (by rw [hlen]; have := hok.2; omega)
            (fun u hu => g4 u (by simpa using List.mem_of_mem_take hu)) a.spot
          refine ⟨ρ, w', ?_, by simpa using h2, by simp [vtop], Nat.le_refl _, Goes.refl _ _⟩
          have hf := first (min n len) (Nat.min_le_left _ _)
          have hm : Nat.min n len = min n len := rfl
          simp only [Builtin.copy_, h0, two0, two1, Sem.run_bind, run_und hu, Result.andThen_ok, rl, g1, hsz, hm, hf, goInt]
          have h1' : (storeCells (rlAddr ρ a) ((cs.toList.take (min n len * i.size)).map (rl ρ)) 0).run P w = .ok () w' := h1
          simp only [h1', Result.andThen_ok, Sem.run_pure]
        · cases hc
    · cases hc

theorem zeroRow_eq (z : Array Value) (n : Nat) : Builtin.zeroCells z n = zeroRow z (n * z.size) := rfl
theorem zeroRow_mem {z : Array Value} {n : Nat} (hz : ∀ u ∈ z, vtop u = 0 ∧ u.oneCell' = true) (h0 : 0 < z.size) : ∀ u ∈ zeroRow z n, vtop u = 0 ∧ u.oneCell' = true := by
  intro u hu
  simp only [zeroRow, Array.mem_map] at hu
  obtain ⟨k, _, rfl⟩ := hu
  have hk : k % z.size < z.size := Nat.mod_lt _ h0
  rw [getElem!_pos z _ hk]
  exact hz _ (Array.getElem_mem hk)
theorem size_zeroRow (z : Array Value) (n : Nat) : (zeroRow z n).size = n := by simp [zeroRow]

theorem run_aclear {ats : Array TypeId} {ty rt : TypeId} {esz bytes : Nat} {z : Array Value} {x : Value} (hs : Sim B w0 ρ h w) (h0 : ats[0]? = some ty) (hi : elInfo P ty = some (esz, bytes, z)) (hc : aclear h z x = some (v, h')) :
    Res P B w0 ρ h w (Builtin.clear_ ats rt #[rl ρ x]) v h' := by
  obtain ⟨e, i, zv, hu, hie, rfl, _, hzv, rfl, hzs, hpos, hz⟩ := elInfo_spec hi
  unfold aclear at hc
  split at hc
  · cases hc
    refine Res.same hs ⟨?_, by simp [vtop, vtopL]⟩
    simp only [Builtin.clear_, h0, one0, Sem.run_bind, run_und hu, Result.andThen_ok, rl, Sem.run_pure, rlL]
  · rename_i a n c
    split at hc
    · rename_i hn
      subst hn
      cases hc
      refine Res.same hs ⟨?_, by simp [vtop, vtopL]⟩
      simp only [Builtin.clear_, h0, one0, Sem.run_bind, run_und hu, Result.andThen_ok, rl, Sem.run_pure, rlL]
    · rename_i hn
      cases hb : h.blks a.block with
      | none => simp [hb] at hc
      | some b =>
        simp only [hb] at hc
        split at hc
        · rename_i hok
          cases hc
          have hm := zeroRow_mem (n := n * zv.cells.size) hz (by omega)
          obtain ⟨w', h1, h2⟩ := hs.storeCells (P := P) (zeroRow zv.cells (n * zv.cells.size)).toList hb hok.1 a.off 0 (by simp [size_zeroRow]; exact hok.2)
            (fun u hu => ⟨by have := (hm u (by simpa using hu)).1; omega, (hm u (by simpa using hu)).2⟩) a.spot
          have hid : (zeroRow zv.cells (n * zv.cells.size)).toList.map (rl ρ) = (zeroRow zv.cells (n * zv.cells.size)).toList := map_rl_id fun u hu => (hm u (by simpa using hu)).1
          rw [hid] at h1
          refine ⟨ρ, w', ?_, by simpa using h2, by simp [vtop, vtopL], Nat.le_refl _, Goes.refl _ _⟩
          have hzr : (zeroValue e).run P w = .ok zv w := by simp [zeroValue, typeInfo, hie, hzv]
          have h1' : (storeCells (rlAddr ρ a) (zeroRow zv.cells (n * zv.cells.size)).toList 0).run P w = .ok () w' := h1
          obtain ⟨m, rfl⟩ : ∃ m, n = m + 1 := ⟨n - 1, by omega⟩
          simp only [Builtin.clear_, h0, one0, Sem.run_bind, run_und hu, Result.andThen_ok, rl, hzr, zeroRow_eq, h1', Sem.run_pure, rlL]
        · cases hc
  · cases hc

theorem run_row (hs : Sim B w0 ρ h w) (e : TypeId) (cs : Array Value) (esz n : Nat) (hc : ∀ u ∈ cs, vtop u ≤ h.next ∧ u.oneCell' = true) (m : Nat) :
    ∃ ρ' w', (newRow e (cs.map (rl ρ))).run P w = .ok (rlAddr ρ' ⟨h.next, 0, none⟩) w' ∧ Sim B w0 ρ' (h.alloc ⟨cs, esz, true⟩) w' ∧ Goes h.next ρ ρ' ∧ rl ρ' (.slice (some ⟨h.next, 0, none⟩) n (2 * m)) = .slice (some (rlAddr ρ' ⟨h.next, 0, none⟩)) n m := by
  obtain ⟨ρ', w', h1, h2, h3, h4⟩ := run_newRow (P := P) hs e cs esz hc
  refine ⟨ρ', w', h1, h2, h3, ?_⟩
  simp only [rl, rlCap]
  rw [if_neg (by omega)]
  congr 1
  omega

theorem run_amake {ty : TypeId} {l c : Value} (hs : Sim B w0 ρ h w) (hm : amake P ty l c h = some (v, h')) : Res P B w0 ρ h w (Instr.makeSlice ty (rl ρ l) (rl ρ c)) v h' := by
  unfold amake at hm
  split at hm
  · rename_i esz bytes z k1 l k2 c hi
    obtain ⟨e, i, zv, hu, hie, rfl, rfl, hzv, rfl, hzs, hpos, hz⟩ := elInfo_spec hi
    split at hm
    · rename_i hok
      cases hm
      obtain ⟨o1, o2, o3, o4⟩ := hok
      have hR : (ROOM : Int) = 140737488355328 := rfl
      have hw1 : IntKind.i64.wrap l = l := by rw [IntKind.wrap_i64]; omega
      have hw2 : IntKind.i64.wrap c = c := by rw [IntKind.wrap_i64]; omega
      have hmem := zeroRow_mem (n := c.toNat * i.size) hz (by omega)
      have hby : (i.bytes : Int) * c ≤ 140737488355328 := by
        have : ((c.toNat * i.bytes : Nat) : Int) ≤ 140737488355328 := by have := o4; rw [show ROOM = 140737488355328 from rfl] at this; exact Int.ofNat_le.2 this
        rw [Int.natCast_mul, Int.toNat_of_nonneg (by omega), Int.mul_comm] at this
        exact this
      have hby0 : 0 ≤ (i.bytes : Int) * c := Int.mul_nonneg (by omega) (by omega)
      obtain ⟨ρ', w', h1, h2, h3, h4⟩ := run_row (P := P) hs e (zeroRow zv.cells (c.toNat * i.size)) i.size l.toNat (fun u hu => ⟨by have := (hmem u hu).1; omega, (hmem u hu).2⟩) c.toNat
      rw [map_rl_zero (fun u hu => (hmem u hu).1)] at h1
      refine ⟨ρ', w', ?_, h2, by simp [vtop], by simp, h3⟩
      rw [h4]
      have t1 : (decide (c < 0) || decide ((i.bytes : Int) * c > 2 ^ 48)) = false := by
        rw [Bool.or_eq_false_iff]; constructor <;> (rw [decide_eq_false_iff_not]; omega)
      have t2 : (decide (l < 0)) = false := by rw [decide_eq_false_iff_not]; omega
      have t3 : (decide (l > c)) = false := by rw [decide_eq_false_iff_not]; omega
      have hzr : (zeroValue e).run P w = .ok zv w := by simp [zeroValue, typeInfo, hie, hzv]
      by_cases hc0 : c.toNat * i.size = 0
      · have hr0 : ∀ f : Nat → Value, (Array.range 0).map f = zeroRow zv.cells 0 := fun f => by simp [zeroRow]
        rw [hc0] at h1
        simp only [Instr.makeSlice, Sem.run_bind, run_und hu, Result.andThen_ok, rl, asInt, asIntOf, Sem.run_pure, typeInfo, run_program, hie, hw1, hw2, t1, t2, t3, Bool.or_self, Bool.false_eq_true, if_false, run_askRoom, sizeOf, hc0, if_true, hr0, h1]
      · have hr1 : ((Array.range (c.toNat * i.size)).map (zv.cells[· % zv.cells.size]!)) = zeroRow zv.cells (c.toNat * i.size) := rfl
        simp only [Instr.makeSlice, Sem.run_bind, run_und hu, Result.andThen_ok, rl, asInt, asIntOf, Sem.run_pure, typeInfo, run_program, hie, hw1, hw2, t1, t2, t3, Bool.or_self, Bool.false_eq_true, if_false, run_askRoom, sizeOf, hc0, hzr, hr1, h1]
    · cases hm
  · cases hm

theorem run_abuildSlice {ty : TypeId} {len : Nat} {parts : List (Nat × Value)} (hs : Sim B w0 ρ h w) (hm : abuildSlice P ty len parts h = some (v, h')) (hx : ∀ p ∈ parts, vtop p.2 ≤ h.next) :
    Res P B w0 ρ h w (Instr.buildSlice ty len (parts.map fun p => (p.1, rl ρ p.2)).toArray) v h' := by
  unfold abuildSlice at hm
  split at hm
  · rename_i esz bytes z hi
    obtain ⟨e, i, zv, hu, hie, rfl, _, hzv, rfl, hzs, hpos, hz⟩ := elInfo_spec hi
    split at hm
    · rename_i hle
      split at hm
      · rename_i cs hf
        split at hm
        · rename_i hone
          cases hm
          have hmem := zeroRow_mem (n := len * i.size) hz (by omega)
          have hcs : ∀ u ∈ cs, vtop u ≤ h.next := fill_mem parts hf (fun u hu => by have := (hmem u hu).1; omega) (fun p hp u hu => vtop_cells (hx p hp) u hu)
          obtain ⟨ρ', w', h1, h2, h3, h4⟩ := run_row (P := P) hs e cs i.size len (fun u hu => ⟨hcs u hu, Array.all_eq_true'.1 hone u hu⟩) len
          refine ⟨ρ', w', ?_, h2, by simp [vtop], by simp, h3⟩
          rw [h4]
          have hf' : Instr.fill (fun k => some (k * i.size, i.size)) (zeroRow zv.cells (len * i.size)) (parts.map fun p => (p.1, rl ρ p.2)) = some (cs.map (rl ρ)) := by
            have := fill_map ρ (fun k => some (k * i.size, i.size)) parts (zeroRow zv.cells (len * i.size))
            rw [map_rl_zero (fun u hu => (hmem u hu).1), hf] at this
            exact this
          have hbig : ¬ (len * i.size > 2 ^ 24) := by omega
          have hzr : (zeroValue e).run P w = .ok zv w := by simp [zeroValue, typeInfo, hie, hzv]
          by_cases hc0 : len * i.size = 0
          · have hr0 : ∀ f : Nat → Value, (Array.range 0).map f = zeroRow zv.cells 0 := fun f => by simp [zeroRow]
            rw [hc0] at hf'
            have hb0 : ¬ ((0 : Nat) > 2 ^ 24) := by omega
            simp only [Instr.buildSlice, Sem.run_bind, run_und hu, Result.andThen_ok, sizeOf, typeInfo, run_program, hie, Sem.run_pure, hc0, hb0, if_false, if_true, hr0, hf', h1]
          · have hr1 : ((Array.range (len * i.size)).map (zv.cells[· % zv.cells.size]!)) = zeroRow zv.cells (len * i.size) := rfl
            simp only [Instr.buildSlice, Sem.run_bind, run_und hu, Result.andThen_ok, sizeOf, typeInfo, run_program, hie, Sem.run_pure, hbig, if_false, hc0, hzr, hr1, hf', h1]
        · cases hm
      · cases hm
    · cases hm
  · cases hm

end
end Go.Mini
