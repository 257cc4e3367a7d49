/-
  Which devices are the same: of the document; both agree.
-/
import Derived.Test.YtkbiadobkheafaaX8
set_option linter.unusedSimpArgs false
set_option linter.unusedVariables false
set_option linter.unusedSectionVars false
namespace Go.Proofs.Ytkbiadobkheafaa
open Go Go.Mini Go.Proofs.Try
set_option maxRecDepth 100000

theorem digL_mem {n : Nat} : ∀ x ∈ digL n, x ≠ 32 := by
  induction n using Nat.strongRecOn with
  | _ n ih =>
    intro x hx
    have d : ∀ k : Nat, k < 10 → UInt8.ofNat (48 + k) ≠ 32 := by
      intro k hk
      rcases (by omega : k = 0 ∨ k = 1 ∨ k = 2 ∨ k = 3 ∨ k = 4 ∨ k = 5 ∨ k = 6 ∨ k = 7 ∨ k = 8 ∨ k = 9) with rfl | rfl | rfl | rfl | rfl | rfl | rfl | rfl | rfl | rfl <;> decide
    rcases Nat.lt_or_ge n 10 with h | h
    · rw [digL_small h] at hx
      rw [List.mem_singleton.1 hx]; exact d n h
    · rw [digL_big (by omega)] at hx
      rcases List.mem_append.1 hx with hx | hx
      · exact ih (n / 10) (by omega) x hx
      · rw [List.mem_singleton.1 hx]; exact d _ (by omega)
theorem digL_ne (n : Nat) : digL n ≠ [] := by
  rcases Nat.lt_or_ge n 10 with h | h
  · rw [digL_small h]; simp
  · rw [digL_big (by omega)]; simp
theorem digit_inj {a b : Nat} (ha : a < 10) (hb : b < 10) (h : UInt8.ofNat (48 + a) = UInt8.ofNat (48 + b)) : a = b := by
  have := congrArg UInt8.toNat h
  simp only [UInt8.toNat_ofNat'] at this
  omega
theorem digL_inj : ∀ {n m : Nat}, digL n = digL m → n = m := by
  intro n
  induction n using Nat.strongRecOn with
  | _ n ih =>
    intro m h
    rcases Nat.lt_or_ge n 10 with h1 | h1
    · rcases Nat.lt_or_ge m 10 with h2 | h2
      · rw [digL_small h1, digL_small h2] at h
        exact digit_inj h1 h2 (by simpa using h)
      · rw [digL_small h1, digL_big (by omega : ¬ m < 10)] at h
        have := congrArg List.length h
        rw [List.length_append] at this
        have h3 : (digL (m / 10)).length ≠ 0 := fun q => digL_ne _ (List.length_eq_zero_iff.1 q)
        simp only [List.length_cons, List.length_nil] at this
        omega
    · rcases Nat.lt_or_ge m 10 with h2 | h2
      · rw [digL_big (by omega : ¬ n < 10), digL_small h2] at h
        have := congrArg List.length h
        rw [List.length_append] at this
        have h3 : (digL (n / 10)).length ≠ 0 := fun q => digL_ne _ (List.length_eq_zero_iff.1 q)
        simp only [List.length_cons, List.length_nil] at this
        omega
      · rw [digL_big (by omega : ¬ n < 10), digL_big (by omega : ¬ m < 10)] at h
        obtain ⟨q1, q2⟩ := List.append_inj' h rfl
        have e1 := ih (n / 10) (by omega) q1
        have e2 := digit_inj (Nat.mod_lt _ (by omega)) (Nat.mod_lt _ (by omega)) (List.cons.inj q2).1
        omega
theorem split32 : ∀ {a b X Y : List UInt8}, (∀ x ∈ a, x ≠ 32) → (∀ x ∈ b, x ≠ 32) → a ++ 32 :: X = b ++ 32 :: Y → a = b ∧ X = Y := by
  intro a
  induction a with
  | nil =>
    intro b X Y _ hb h
    cases b with
    | nil => exact ⟨rfl, (List.cons.inj h).2⟩
    | cons y b => exact absurd (List.cons.inj h).1.symm (hb y (by simp))
  | cons x a ih =>
    intro b X Y ha hb h
    cases b with
    | nil => exact absurd (List.cons.inj h).1 (ha x (by simp))
    | cons y b =>
      obtain ⟨h1, h2⟩ := List.cons.inj h
      obtain ⟨h3, h4⟩ := ih (fun z hz => ha z (by simp [hz])) (fun z hz => hb z (by simp [hz])) h2
      exact ⟨by rw [h1, h3], h4⟩
theorem dig_split {n m : Nat} {X Y : List UInt8} (h : digL n ++ 32 :: X = digL m ++ 32 :: Y) : n = m ∧ X = Y := by
  obtain ⟨h1, h2⟩ := split32 digL_mem digL_mem h
  exact ⟨digL_inj h1, h2⟩
theorem textR_inj {r r' : Rd} (h : textR r = textR r') : r.se = r'.se ∧ r.ad = r'.ad ∧ r.cm = r'.cm ∧ r.st = r'.st ∧ leftR r = leftR r' ∧ r.dl = r'.dl := by
  unfold textR at h
  simp only [List.append_assoc, List.singleton_append] at h
  obtain ⟨h1, h⟩ := dig_split h
  obtain ⟨h2, h⟩ := dig_split h
  obtain ⟨h3, h⟩ := dig_split h
  obtain ⟨h4, h⟩ := dig_split h
  obtain ⟨h5, h⟩ := dig_split h
  exact ⟨h1, h2, h3, h4, h5, digL_inj h⟩
def SameR (r r' : Rd) : Prop := (∀ i, i < 32 → rbytes r i = rbytes r' i) ∧ textR r = textR r' ∧ (r.st ≠ 1 ∨ (r.wh = r'.wh ∧ r.wt = r'.wt ∧ r.we = r'.we))
theorem bytes_inj {S S' : Nat → Nat} (h1 : ∀ i, S i < 256) (h2 : ∀ i, S' i < 256) (h : ∀ n, n < 32 → bytesM S (n * 64) 64 = bytesM S' (n * 64) 64) {i : Nat} (hi : i < 2048) : S i = S' i := by
  have := congrArg (fun l => l[i % 64]?) (h (i / 64) (by omega))
  rw [bytesM_at _ _ _ _ (by omega), bytesM_at _ _ _ _ (by omega), show i / 64 * 64 + i % 64 = i by omega] at this
  have : (UInt8.ofNat (S i)).toNat = (UInt8.ofNat (S' i)).toNat := by rw [Option.some.inj this]
  rw [UInt8.toNat_ofNat_of_lt' (h1 i), UInt8.toNat_ofNat_of_lt' (h2 i)] at this
  have a := h1 i
  have b := h2 i
  omega
theorem same_law {d d' : Dev} {r r' : Rd} {M M' : Nat → Nat} {L L' : Rm.By} (e : Rel d r M L) (e' : Rel d' r' M' L') (hd : d.ok) (hd' : d'.ok) : (∀ i, 1 ≤ i → i < 2058 → cell (shownD d) i = cell (shownD d') i) ↔ SameR r r' := by
  have left : ∀ {d : Dev} {r : Rd} {M : Nat → Nat} {L : Rm.By}, Rel d r M L → leftR r = (shownD d).lf := fun {d r M L} e => by
    unfold leftR shownD
    rw [← e.st]
    by_cases h : d.st = 1
    · rw [if_pos h, if_pos h, (e.run h).2.2.2]; split <;> omega
    · rw [if_neg h, if_neg h]
  have st : ∀ d : Dev, (shownD d).st = d.st ∧ (shownD d).rs = d.rs ∧ (shownD d).rc = d.rc ∧ (shownD d).ra = d.ra ∧ (shownD d).dl = d.dl ∧ (shownD d).S = d.S := fun d => by unfold shownD; split <;> exact ⟨rfl, rfl, rfl, rfl, rfl, rfl⟩
  obtain ⟨a1, a2, a3, a4, a5, a6⟩ := st d
  obtain ⟨b1, b2, b3, b4, b5, b6⟩ := st d'
  constructor
  · intro h
    have g : ∀ (i : Nat) (k : IntKind) (x y : Nat), 1 ≤ i → i < 2058 → cell (shownD d) i = .int k x → cell (shownD d') i = .int k y → x = y := fun i k x y h1 h2 h3 h4 => by
      have := h i h1 h2
      rw [h3, h4] at this
      have := (Value.int.inj this).2
      omega
    have k1 := g 1 .u32 _ _ (by omega) (by omega) rfl rfl
    have k2 := g 2 .u32 _ _ (by omega) (by omega) rfl rfl
    have k3 := g 3 .u64 _ _ (by omega) (by omega) rfl rfl
    have k4 := g 4 .u32 _ _ (by omega) (by omega) rfl rfl
    have k5 := g 5 .u32 _ _ (by omega) (by omega) rfl rfl
    have k6 := g 6 .u64 _ _ (by omega) (by omega) rfl rfl
    have k7 := g 7 .u8 _ _ (by omega) (by omega) rfl rfl
    have k8 := g 8 .u32 _ _ (by omega) (by omega) rfl rfl
    have k9 := g 9 .u32 _ _ (by omega) (by omega) rfl rfl
    have kS : ∀ i, i < 2048 → d.S i = d'.S i := fun i hi => by
      have := g (i + 10) .u8 _ _ (by omega) (by omega) (cell_S _ (by omega)) (cell_S _ (by omega))
      rw [a6, b6, show i + 10 - 10 = i by omega] at this
      exact this
    rw [a1, b1] at k7
    rw [a2, b2] at k1
    rw [a3, b3] at k2
    rw [a4, b4] at k3
    rw [a5, b5] at k9
    refine ⟨fun i hi => ?_, ?_, ?_⟩
    · rw [← e.sec i hi, ← e'.sec i hi]
      exact bytes_eq fun j hj => kS _ (by omega)
    · unfold textR
      rw [left e, left e', k8, ← e.rs, ← e'.rs, ← e.ra, ← e'.ra, ← e.rc, ← e'.rc, ← e.st, ← e'.st, ← e.dl, ← e'.dl, k1, k2, k3, k7, k9]
    · by_cases h1 : d.st = 1
      · right
        have h1' : d'.st = 1 := k7 ▸ h1
        obtain ⟨r1, r2, r3, _⟩ := e.run h1
        obtain ⟨s1, s2, s3, _⟩ := e'.run h1'
        have x : shownD d = d := by unfold shownD; rw [if_pos h1]
        have x' : shownD d' = d' := by unfold shownD; rw [if_pos h1']
        rw [x, x'] at k4 k5 k6
        exact ⟨by omega, by omega, by omega⟩
      · left; rw [← e.st]; exact h1
  · rintro ⟨hb, ht, hr⟩ i h1 h2
    obtain ⟨t1, t2, t3, t4, t5, t6⟩ := textR_inj ht
    rw [left e, left e'] at t5
    have hst : d.st = d'.st := by rw [e.st, e'.st, t4]
    have run : (shownD d).us = (shownD d').us ∧ (shownD d).uc = (shownD d').uc ∧ (shownD d).ua = (shownD d').ua := by
      by_cases c : d.st = 1
      · have c' : d'.st = 1 := hst ▸ c
        obtain ⟨r1, r2, r3, _⟩ := e.run c
        obtain ⟨s1, s2, s3, _⟩ := e'.run c'
        have x : shownD d = d := by unfold shownD; rw [if_pos c]
        have x' : shownD d' = d' := by unfold shownD; rw [if_pos c']
        rw [x, x']
        have := hr.resolve_left (fun q => q (e.st ▸ c))
        exact ⟨by omega, by omega, by omega⟩
      · have c' : ¬ d'.st = 1 := hst ▸ c
        unfold shownD
        rw [if_neg c, if_neg c']
        exact ⟨rfl, rfl, rfl⟩
    rcases Nat.lt_or_ge i 10 with c | c
    · rcases (by omega : i = 1 ∨ i = 2 ∨ i = 3 ∨ i = 4 ∨ i = 5 ∨ i = 6 ∨ i = 7 ∨ i = 8 ∨ i = 9) with rfl | rfl | rfl | rfl | rfl | rfl | rfl | rfl | rfl
      · show Value.int .u32 ((shownD d).rs : Nat) = .int .u32 ((shownD d').rs : Nat); rw [a2, b2, e.rs, e'.rs, t1]
      · show Value.int .u32 ((shownD d).rc : Nat) = .int .u32 ((shownD d').rc : Nat); rw [a3, b3, e.rc, e'.rc, t3]
      · show Value.int .u64 ((shownD d).ra : Nat) = .int .u64 ((shownD d').ra : Nat); rw [a4, b4, e.ra, e'.ra, t2]
      · show Value.int .u32 ((shownD d).us : Nat) = .int .u32 ((shownD d').us : Nat); rw [run.1]
      · show Value.int .u32 ((shownD d).uc : Nat) = .int .u32 ((shownD d').uc : Nat); rw [run.2.1]
      · show Value.int .u64 ((shownD d).ua : Nat) = .int .u64 ((shownD d').ua : Nat); rw [run.2.2]
      · show Value.int .u8 ((shownD d).st : Nat) = .int .u8 ((shownD d').st : Nat); rw [a1, b1, hst]
      · show Value.int .u32 ((shownD d).lf : Nat) = .int .u32 ((shownD d').lf : Nat); rw [t5]
      · show Value.int .u32 ((shownD d).dl : Nat) = .int .u32 ((shownD d').dl : Nat); rw [a5, b5, e.dl, e'.dl, t6]
    · rw [cell_S _ c, cell_S _ c, a6, b6]
      have := bytes_inj hd.S hd'.S (fun n hn => by rw [e.sec n hn, e'.sec n hn]; exact hb n hn) (i := i - 10) (by omega)
      rw [this]
section
variable {h : Hp} {K : Value → Hp → Prop} {q q' : Nat} {r r' : Rd}
theorem rSame_call (hb : h.blks q = some ⟨refC r, 1, true⟩) (hd : r.ok) (hq : q < h.next) (hb' : h.blks q' = some ⟨refC r', 1, true⟩) (hd' : r'.ok) (hq' : q' < h.next) (hK : ∀ h' s, Ext h h' → (s = true ↔ SameR r r') → K (.bool s) h') : ACall prog 23 [ptr q, ptr q'] h K := by
  refine acallF_of tb0 func23 rfl rfl mixed (by kernel_rfl) fun hwf => ?_
  simp -dsimp (disch := omega)
  refine awp_loop (fun t h' => Ext h h' ∧ ∃ k : Nat, k ≤ 32 ∧ (∀ i, i < k → rbytes r i = rbytes r' i) ∧ t 0 = ptr q ∧ t 1 = ptr q' ∧ t 5 = .int .i64 k) (fun t _ => 32 - ivN (t 5)) ?_ ?_
  · simp -dsimp (disch := omega)
    exact ⟨Ext.refl _, 0, by omega, fun i hi => by omega, rfl⟩
  · rintro t h' ⟨e, k, hk, hall, g0, g1, g5⟩
    refine vcF_sound mixed (tb := tb0) _ (by kernel_rfl) ?_
    have g := (e.same q hq).trans hb
    have g' := (e.same q' hq').trans hb'
    have le := e.le
    rcases Nat.lt_or_ge k 32 with c | c
    · have c' : (k : Int) < 32 := by omega
      simp -dsimp (disch := omega) [g0, g1, g5, c, c']
      refine rBytes_call g c fun h1 x1 => ?_
      simp -dsimp (disch := omega) [g0, g1, g5]
      refine rBytes_call ((x1.same q' (by omega)).trans g') c fun h2 x2 => ?_
      by_cases eq : rbytes r k = rbytes r' k
      · rw [eq]
        simp -dsimp (disch := omega) [g0, g1, g5]
        refine ⟨⟨(e.trans x1).trans x2, k + 1, by omega, fun i hi => ?_, by simp⟩, by simp [ivN]; omega⟩
        rcases Nat.lt_or_ge i k with hik | hik
        · exact hall i hik
        · rw [show i = k by omega]; exact eq
      · have hk := hK h2 false ((e.trans x1).trans x2) ⟨fun z => (by cases z), fun z => absurd (z.1 k c) eq⟩
        simp -dsimp (disch := omega) [g0, g1, g5, eq]
        exact RetF.all (r := .bool false) (by simp) hk
    · have c' : ¬ (k : Int) < 32 := by omega
      have hk32 : k = 32 := by omega
      subst hk32
      have b3 := refC_3 r
      have b4 := refC_4 r
      have b5 := refC_5 r
      have b6 := refC_6 r
      have d4 := refC_4 r'
      have d5 := refC_5 r'
      have d6 := refC_6 r'
      have k3 := hd.st
      simp -dsimp (disch := omega) [g0, g1, g5]
      refine rText_call g hd (by omega) fun h1 x1 => ?_
      simp -dsimp (disch := omega) [g0, g1, g5]
      refine rText_call ((x1.same q' (by omega)).trans g') hd' (by have := x1.le; omega) fun h2 x2 => ?_
      have y := (x2.same q (by have := x1.le; omega)).trans ((x1.same q (by omega)).trans g)
      have y' := (x2.same q' (by have := x1.le; omega)).trans ((x1.same q' (by omega)).trans g')
      have ex := (e.trans x1).trans x2
      by_cases ht : textR r = textR r'
      · rw [ht]
        have fin : ∀ s : Bool, (s = true ↔ (r.st ≠ 1 ∨ (r.wh = r'.wh ∧ r.wt = r'.wt ∧ r.we = r'.we))) → K (.bool s) h2 := fun s hs => hK h2 s ex (hs.trans ⟨fun z => ⟨hall, ht, z⟩, fun z => z.2.2⟩)
        have k4 := hd.wh
        have k5 := hd.wt
        have k6 := hd.we
        have l4 := hd'.wh
        have l5 := hd'.wt
        have l6 := hd'.we
        generalize r.st = st at *
        generalize r.wh = wh at *
        generalize r.wt = wt at *
        generalize r.we = we at *
        generalize r'.wh = wh' at *
        generalize r'.wt = wt' at *
        generalize r'.we = we' at *
        obtain ⟨cr, hcr⟩ : ∃ c, c = refC r := ⟨_, rfl⟩
        obtain ⟨cs, hcs⟩ : ∃ c, c = refC r' := ⟨_, rfl⟩
        rw [← hcr] at b3 b4 b5 b6 y
        rw [← hcs] at d4 d5 d6 y'
        clear hcr hcs
        by_cases hs : st = 1
        · subst hs
          by_cases h1 : wh = wh'
          · subst h1
            by_cases h2 : wt = wt'
            · subst h2
              have hk := fin (decide ((we : Int) = we')) (by rw [decide_eq_true_iff]; constructor <;> intro z <;> omega)
              simp -dsimp (disch := omega) [g0, g1, g5, y, y', b3, b4, b5, b6, d4, d5, d6, -getElem?_pos]
              exact RetF.all (r := .bool (decide ((we : Int) = we'))) (by simp) hk
            · have h2' : ¬ (wt : Int) = wt' := by omega
              have hk := fin false ⟨fun z => (by cases z), fun z => by omega⟩
              simp -dsimp (disch := omega) [g0, g1, g5, y, y', b3, b4, b5, b6, d4, d5, d6, h2, h2', -getElem?_pos]
              exact RetF.all (r := .bool false) (by simp) hk
          · have h1' : ¬ (wh : Int) = wh' := by omega
            have hk := fin false ⟨fun z => (by cases z), fun z => by omega⟩
            simp -dsimp (disch := omega) [g0, g1, g5, y, y', b3, b4, b5, b6, d4, d5, d6, h1, h1', -getElem?_pos]
            exact RetF.all (r := .bool false) (by simp) hk
        · have hs' : ¬ (st : Int) = 1 := by omega
          have hk := fin true ⟨fun _ => .inl hs, fun _ => rfl⟩
          simp -dsimp (disch := omega) [g0, g1, g5, y, y', b3, b4, b5, b6, d4, d5, d6, hs, hs', -getElem?_pos]
          exact RetF.all (r := .bool true) (by simp) hk
      · have hk := hK h2 false ex ⟨fun z => (by cases z), fun z => absurd z.2.1 ht⟩
        simp -dsimp (disch := omega) [g0, g1, g5, ht]
        exact RetF.all (r := .bool false) (by simp) hk
end
end Go.Proofs.Ytkbiadobkheafaa
