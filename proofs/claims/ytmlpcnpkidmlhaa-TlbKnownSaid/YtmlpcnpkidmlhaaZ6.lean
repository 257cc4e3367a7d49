/-
  Add, Find, Wrote of one entry at most; works.
-/
import Derived.Test.YtmlpcnpkidmlhaaZ5
set_option linter.unusedSimpArgs false
set_option linter.unusedVariables false
set_option linter.unusedSectionVars false
namespace Go.Proofs.Ytmlpcnpkidmlhaa
open Go Go.Mini Go.Proofs.Try

def tb11 : Nat → Marks := fun _ => ⟨[], fun _ => False⟩
/-- What else stands is as it was. -/
structure Md (h h' : Hp) (S : Nat → Prop) : Prop where
  le : h.next ≤ h'.next
  same : ∀ i, i < h.next → ¬ S i → h'.blks i = h.blks i
/-- A TLB of one entry. -/
structure One (h : Hp) (tp sb : Nat) (e : Ent) : Prop where
  t : h.blks tp = some ⟨tlA (.slice (some ⟨sb, 0, none⟩) 1 3), 1, true⟩
  s : h.blks sb = some ⟨entA e, 8, true⟩
  tl : tp < h.next
  sl : sb < h.next
  ne : sb ≠ tp
theorem One.ext {h h' : Hp} {tp sb : Nat} {e : Ent} (o : One h tp sb e) (x : Ext h h') : One h' tp sb e :=
  ⟨by rw [x.same _ o.tl]; exact o.t, by rw [x.same _ o.sl]; exact o.s, Nat.lt_of_lt_of_le o.tl x.le, Nat.lt_of_lt_of_le o.sl x.le, o.ne⟩

section
variable {h : Hp} {K : Value → Hp → Prop}
set_option maxRecDepth 100000 in
theorem add_call {e : Ent} {tp : Nat} (ht : h.blks tp = some ⟨tlA (.slice none 0 0), 1, true⟩) (hl : tp < h.next) (hm : mayB e = true) (hK : ∀ h' sb, One h' tp sb e → h.next ≤ sb → (h.next ≤ h'.next ∧ ∀ i, i < h.next → i ≠ tp → h'.blks i = h.blks i) → K (.int .i64 0) h') : ACall prog 11 [ptr tp, .agg (entA e)] h K := by
  refine acallF_of tb0 func11 rfl rfl mixed (by kernel_rfl) fun hwf => ?_
  obtain ⟨H, hH⟩ : ∃ H, H = h.alloc ⟨entA e, 1, true⟩ := ⟨_, rfl⟩
  have hB : H.blks h.next = some ⟨entA e, 1, true⟩ := by rw [hH]; exact blks_alloc_eq _ _
  have hS : ∀ i, i < h.next → H.blks i = h.blks i := fun i hi => by rw [hH]; exact blks_alloc_ne _ _ _ (by omega)
  have hN : H.next = h.next + 1 := by rw [hH]; rfl
  have hT : H.blks tp = some ⟨tlA (.slice none 0 0), 1, true⟩ := by rw [hS _ hl]; exact ht
  have key := @may_call
  have hn2 : ¬ tp = h.next := by omega
  unfold entA at *
  simp -dsimp (disch := omega) [← hH]
  refine is_call hT ?_
  simp -dsimp (disch := omega) [hB]
  refine key (e := e) ?_
  rw [hm]
  simp -dsimp (disch := omega) [hB]
  refine lose_nil hT ?_
  simp -dsimp (disch := omega) [hB, hT]
  refine app_row (m := h.next) (n := 0) (cs := []) ((Row.nil _ _ _).alloc _) (by simp; omega) (src_slice _ _ _ _ _ (entA e) (by simp [entA])) (by omega) (by simp [entA]) (by unfold ROOM; omega) ?_
  intro v' h3 r3 n3 b3 s3
  obtain ⟨_, ⟨_, hz⟩ | ⟨sb, q1, q2, hv, q3⟩⟩ := r3
  · omega
  subst hv
  simp only [Hp.next_alloc] at n3 b3
  have hsb : sb = H.next + 1 := by simpa [sblk] using b3
  have hT3 : h3.blks tp = some ⟨tlA (.slice none 0 0), 1, true⟩ := by rw [s3 tp (by simp; omega) (by simp [sblk]), blks_alloc_ne _ _ _ (by omega)]; exact hT
  simp -dsimp (disch := omega) [hB, hT3]
  refine RetF.all (r := .int .i64 0) (by simp) (hK _ sb ⟨blks_set_eq _ _ _, ?_, by simp; omega, by simp; omega, by omega⟩ (by omega) ⟨by simp; omega, fun i hi hne => ?_⟩)
  · rw [blks_set_ne _ _ _ _ (by omega), q3]
    rfl
  · rw [blks_set_ne _ _ _ _ hne, s3 i (by simp; omega) (by simp [sblk]), blks_alloc_ne _ _ _ (by omega)]
    exact hS i hi

theorem find_one {e : Ent} {tp sb sa va : Nat} (o : One h tp sb e) (hv : va < 18446744073709551616) (hK : K (if (decide (e.satp = sa) && decide (e.vpn = va / 4096)) = true then .tuple #[.agg (entA e), .bool true] else .tuple #[.agg none8, .bool false]) h) : ACall prog 26 [ptr tp, .int .u64 sa, .int .u64 va] h K := by
  refine acallF_of tb0 func26 rfl rfl mixed (by kernel_rfl) fun hwf => ?_
  have htl := o.tl
  have hsl := o.sl
  obtain ⟨H, hH⟩ : ∃ H, H = ((h.alloc ⟨#[.int .u64 sa], 1, true⟩).alloc ⟨#[.int .u64 va], 1, true⟩).alloc ⟨none8, 1, true⟩ := ⟨_, rfl⟩
  have hE : Ext h H := by rw [hH]; exact ((Ext.alloc h _).then_alloc _).then_alloc _
  have hN : H.next = h.next + 3 := by rw [hH]; rfl
  have b1 : H.blks h.next = some ⟨#[.int .u64 sa], 1, true⟩ := by rw [hH, blks_alloc_ne _ _ _ (by simp; omega), blks_alloc_ne _ _ _ (by simp), blks_alloc_eq]
  have b2 : H.blks (h.next + 1) = some ⟨#[.int .u64 va], 1, true⟩ := by rw [hH, blks_alloc_ne _ _ _ (by simp)]; exact blks_alloc_eq _ _
  have b3 : H.blks (h.next + 2) = some ⟨none8, 1, true⟩ := by rw [hH]; exact blks_alloc_eq _ _
  have O := o.ext hE
  have hT := O.t
  have key := fun K' (hk : K' (.bool (decide (e.satp = sa) && decide (e.vpn = va / 4096))) H) => @find_call H K' e h.next (h.next + 1) sa va b1 b2 (by omega) (by omega) hv hk
  have hS : ∀ i, i < h.next → H.blks i = h.blks i := fun i hi => hE.same i hi
  have hS' : ∀ c i, i < h.next → (H.set (h.next + 2) c).blks i = h.blks i := fun c i hi => by rw [blks_set_ne _ _ _ _ (by omega)]; exact hS i hi
  unfold none8 at *
  simp -dsimp (disch := omega) [← hH]
  refine is_call hT ?_
  simp -dsimp (disch := omega) [hT]
  refine idx35_one (b := (decide (e.satp = sa) && decide (e.vpn = va / 4096))) O.s (fun K' hk => key K' hk) ?_
  cases hm : (decide (e.satp = sa) && decide (e.vpn = va / 4096))
  · rw [hm] at hK
    simp -dsimp (disch := omega) [b3]
    refine RetF.same (r := .tuple #[.agg none8, .bool false]) hwf ?_ (by simp [vtop, vtopL, none8]) (fun i hi => hS' _ i hi) hK
    simp [none8]
  · rw [hm] at hK
    have hx : (entA e).extract 0 8 = entA e := rfl
    have hz : (entA e).size = 8 := rfl
    have hsb := O.s
    unfold entA at *
    simp -dsimp (disch := omega) [b3, hT, hsb, hx, hz]
    refine RetF.same (r := .tuple #[.agg (entA e), .bool true]) hwf ?_ (by simp [vtop, vtopL, entA]) (fun i hi => hS' _ i hi) hK
    simp [entA]
theorem find_nil {a : Option Addr} {c : Nat} {tp sa va : Nat} (ht : h.blks tp = some ⟨tlA (.slice a 0 c), 1, true⟩) (hl : tp < h.next) (hK : K (.tuple #[.agg none8, .bool false]) h) : ACall prog 26 [ptr tp, .int .u64 sa, .int .u64 va] h K := by
  refine acallF_of tb0 func26 rfl rfl mixed (by kernel_rfl) fun hwf => ?_
  obtain ⟨H, hH⟩ : ∃ H, H = ((h.alloc ⟨#[.int .u64 sa], 1, true⟩).alloc ⟨#[.int .u64 va], 1, true⟩).alloc ⟨none8, 1, true⟩ := ⟨_, rfl⟩
  have hE : Ext h H := by rw [hH]; exact ((Ext.alloc h _).then_alloc _).then_alloc _
  have b3 : H.blks (h.next + 2) = some ⟨none8, 1, true⟩ := by rw [hH]; exact blks_alloc_eq _ _
  have hT : H.blks tp = some ⟨tlA (.slice a 0 c), 1, true⟩ := by rw [hE.same _ hl]; exact ht
  have hS' : ∀ c i, i < h.next → (H.set (h.next + 2) c).blks i = h.blks i := fun c i hi => by rw [blks_set_ne _ _ _ _ (by omega)]; exact hE.same i hi
  unfold none8 at *
  simp -dsimp (disch := omega) [← hH]
  refine is_call hT ?_
  simp -dsimp (disch := omega) [hT]
  refine idx35_nil ?_
  simp -dsimp (disch := omega) [b3]
  refine RetF.same (r := .tuple #[.agg none8, .bool false]) hwf ?_ (by simp [vtop, vtopL, none8]) (fun i hi => hS' _ i hi) hK
  simp [none8]

set_option maxRecDepth 100000 in
theorem wrote_call {e : Ent} {tp sb a n : Nat} (o : One h tp sb e) (ha : a < 18446744073709551616) (hn : n ≤ 4096) (hn0 : 0 < n) (hrd : e.rd = 3) (ho : e.a0 < 18446744073709551616 ∧ e.a1 < 18446744073709551616 ∧ e.a2 < 18446744073709551616)
    (hK1 : any3 a n e = false → K (.int .i64 0) h) (hK2 : any3 a n e = true → ∀ h', (h.next ≤ h'.next ∧ ∀ i, i < h.next → i ≠ tp → i ≠ sb → h'.blks i = h.blks i) → h'.blks tp = some ⟨tlA (.slice (some ⟨sb, 0, none⟩) 0 3), 1, true⟩ → K (.int .i64 1) h') : ACall prog 17 [ptr tp, .int .u64 a, .int .u64 n] h K := by
  refine acallF_of tb0 func17 rfl rfl mixed (by kernel_rfl) fun hwf => ?_
  have htl := o.tl
  have hsl := o.sl
  obtain ⟨H, hH⟩ : ∃ H, H = (h.alloc ⟨#[.int .u64 a], 1, true⟩).alloc ⟨#[.int .u64 n], 1, true⟩ := ⟨_, rfl⟩
  have hE : Ext h H := by rw [hH]; exact (Ext.alloc h _).then_alloc _
  have hN : H.next = h.next + 2 := by rw [hH]; rfl
  have b1 : H.blks h.next = some ⟨#[.int .u64 a], 1, true⟩ := by rw [hH, blks_alloc_ne _ _ _ (by simp), blks_alloc_eq]
  have b2 : H.blks (h.next + 1) = some ⟨#[.int .u64 n], 1, true⟩ := by rw [hH]; exact blks_alloc_eq _ _
  have hss := set_self b2
  have O := o.ext hE
  have hmin : ¬ (4096 : Int) < n := by omega
  have key := fun K' (hk : K' (.bool (any3 a n e)) H) => @wrote1_call H K' e (h.next + 1) h.next a n b2 b1 (by omega) (by omega) ha (by omega) hn0 hrd ho hk
  simp -dsimp (disch := omega) [← hH, b2, hmin, hss]
  cases hm : any3 a n e
  · rw [hm] at key
    refine lose_no O.t O.sl O.s key ?_
    simp -dsimp (disch := omega)
    exact RetF.same (r := .int .i64 0) hwf (by simp) (Nat.zero_le _) (fun i hi => hE.same i hi) (hK1 hm)
  · rw [hm] at key
    refine lose_yes O.t O.ne O.sl O.s key fun cs' => ?_
    simp -dsimp (disch := omega)
    refine RetF.all (r := .int .i64 1) (by simp) (hK2 hm _ ⟨by simp; omega, fun i hi h1 h2 => ?_⟩ (blks_set_eq _ _ _))
    rw [blks_set_ne _ _ _ _ h1, blks_set_ne _ _ _ _ h2]
    exact hE.same i hi

theorem finds_call {e : Ent} {tp sb : Nat} (o : One h tp sb e) (hv : e.vpn < 4503599627370496) (hK : K (.bool true) h) : ACall prog 15 [ptr tp, .agg (entA e)] h K := by
  refine acallF_of tb0 func15 rfl rfl mixed (by kernel_rfl) fun hwf => ?_
  obtain ⟨H, hH⟩ : ∃ H, H = h.alloc ⟨entA e, 1, true⟩ := ⟨_, rfl⟩
  have hE : Ext h H := by rw [hH]; exact Ext.alloc h _
  have hN : H.next = h.next + 1 := by rw [hH]; rfl
  have b1 : H.blks h.next = some ⟨entA e, 1, true⟩ := by rw [hH]; exact blks_alloc_eq _ _
  have O := o.ext hE
  have e1 := shl_u64 e.vpn 12 (by omega) (e.vpn * 4096) rfl (by omega)
  obtain ⟨va, hva⟩ : ∃ va, va = e.vpn * 4096 := ⟨_, rfl⟩
  rw [← hva] at e1
  have key := fun K' (hk : K' (.tuple #[.agg (entA e), .bool true]) H) => @find_one H K' e tp sb e.satp va O (by omega) (by rw [if_pos (by simp; omega)]; exact hk)
  unfold entA at *
  simp -dsimp (disch := omega) [← hH, b1, e1]
  refine key _ ?_
  simp -dsimp (disch := omega) [b1, hN]
  refine RetF.same (r := .bool true) hwf (by simp) (Nat.zero_le _) (fun i hi => ?_) hK
  rw [blks_alloc_ne _ _ _ (by omega)]
  exact hE.same i hi

theorem none_one {e : Ent} {tp sb sa va : Nat} (o : One h tp sb e) (hv : va < 18446744073709551616) (hm : (decide (e.satp = sa) && decide (e.vpn = va / 4096)) = false) (hK : K (.bool true) h) : ACall prog 12 [ptr tp, .int .u64 sa, .int .u64 va] h K := by
  refine acallF_of tb0 func12 rfl rfl mixed (by kernel_rfl) fun hwf => ?_
  have key := fun K' (hk : K' (.tuple #[.agg none8, .bool false]) h) => @find_one h K' e tp sb sa va o hv (by rw [hm]; exact hk)
  unfold none8 at *
  simp -dsimp (disch := omega)
  refine key _ ?_
  simp -dsimp (disch := omega)
  refine RetF.same (r := .bool true) hwf (by simp) (Nat.zero_le _) (fun i hi => ?_) hK
  rw [blks_alloc_ne _ _ _ (by omega)]
theorem none_nil {a : Option Addr} {c : Nat} {tp sa va : Nat} (ht : h.blks tp = some ⟨tlA (.slice a 0 c), 1, true⟩) (hl : tp < h.next) (hK : K (.bool true) h) : ACall prog 12 [ptr tp, .int .u64 sa, .int .u64 va] h K := by
  refine acallF_of tb0 func12 rfl rfl mixed (by kernel_rfl) fun hwf => ?_
  have key := fun K' (hk : K' (.tuple #[.agg none8, .bool false]) h) => @find_nil h K' a c tp sa va ht hl hk
  unfold none8 at *
  simp -dsimp (disch := omega)
  refine key _ ?_
  simp -dsimp (disch := omega)
  refine RetF.same (r := .bool true) hwf (by simp) (Nat.zero_le _) (fun i hi => ?_) hK
  rw [blks_alloc_ne _ _ _ (by omega)]

theorem new_call (hK : K (ptr h.next) (h.alloc ⟨tlA (.slice none 0 0), 1, true⟩)) : ACall prog 9 [] h K := by
  refine acallF_of tb0 func9 rfl rfl mixed (by kernel_rfl) fun hwf => ?_
  simp -dsimp (disch := omega)
  exact RetF.all (by simp) hK
/-- The chapter's entry. -/
def gE : Ent := ⟨9223372036854775809, 514, 536871119, 0, 4096, 8200, 12304, 3⟩
theorem given_call (hK : K (.agg #[.int .u64 9223372036854775809, .int .u64 514, .int .u64 536871119, .int .i64 0, .int .u64 4096, .int .u64 8200, .int .u64 12304, .int .i64 3]) h) : ACall prog 10 [] h K := by
  refine acallF_of tb0 func10 rfl rfl mixed (by kernel_rfl) fun hwf => ?_
  simp -dsimp (disch := omega)
  exact RetF.same (r := .agg #[.int .u64 9223372036854775809, .int .u64 514, .int .u64 536871119, .int .i64 0, .int .u64 4096, .int .u64 8200, .int .u64 12304, .int .i64 3]) hwf (by simp) (by simp [vtop, vtopL]) (fun i hi => by simp (disch := omega)) hK

set_option maxRecDepth 100000 in
theorem works_call (hK : ∀ h', Ext h h' → K (.bool true) h') : ACall prog 8 [] h K := by
  refine acallF_of tb0 func8 rfl rfl mixed (by kernel_rfl) fun hwf => ?_
  have hg : gE.ok := by decide
  simp -dsimp (disch := omega)
  refine new_call ?_
  simp -dsimp (disch := omega)
  refine given_call ?_
  simp -dsimp (disch := omega)
  obtain ⟨H, hH⟩ : ∃ H, H = (h.alloc ⟨tlA (.slice none 0 0), 1, true⟩).alloc ⟨#[.int .u64 9223372036854775809, .int .u64 514, .int .u64 536871119, .int .i64 0, .int .u64 4096, .int .u64 8200, .int .u64 12304, .int .i64 3], 1, true⟩ := ⟨_, rfl⟩
  have hE : Ext h H := by rw [hH]; exact (Ext.alloc h _).then_alloc _
  have hN : H.next = h.next + 2 := by rw [hH]; rfl
  have hT : H.blks h.next = some ⟨tlA (.slice none 0 0), 1, true⟩ := by rw [hH, blks_alloc_ne _ _ _ (by simp)]; exact blks_alloc_eq _ _
  have hB : H.blks (h.next + 1) = some ⟨#[.int .u64 9223372036854775809, .int .u64 514, .int .u64 536871119, .int .i64 0, .int .u64 4096, .int .u64 8200, .int .u64 12304, .int .i64 3], 1, true⟩ := by rw [hH]; exact blks_alloc_eq _ _
  rw [← hH]
  refine pa_call (e := gE) (va := 2105635) hg (by omega) ?_
  rw [show paE gE 2105635 = 2147483939 from by decide +kernel]
  simp -dsimp (disch := omega) [hB]
  refine add_call (e := gE) hT (by omega) (by decide) fun h2 sb o hsb hfr => ?_
  have hB2 : h2.blks (h.next + 1) = some ⟨#[.int .u64 9223372036854775809, .int .u64 514, .int .u64 536871119, .int .i64 0, .int .u64 4096, .int .u64 8200, .int .u64 12304, .int .i64 3], 1, true⟩ := by rw [hfr.2 _ (by omega) (by omega)]; exact hB
  simp -dsimp (disch := omega) [hB2]
  refine finds_call o (by decide) ?_
  simp -dsimp (disch := omega) [hB2]
  refine none_one (va := 2109439) o (by omega) (by decide +kernel) ?_
  simp -dsimp (disch := omega) [hB2]
  refine wrote_call (a := 4104) (n := 8) o (by omega) (by omega) (by omega) rfl (by decide) (fun _ => ?_) (fun hc => absurd hc (by decide +kernel))
  simp -dsimp (disch := omega) [hB2]
  refine wrote_call (a := 8207) (n := 1) o (by omega) (by omega) (by omega) rfl (by decide) (fun hc => absurd hc (by decide +kernel)) (fun _ h3 hf3 ht3 => ?_)
  have hle := hfr.1
  have hB3 : h3.blks (h.next + 1) = some ⟨#[.int .u64 9223372036854775809, .int .u64 514, .int .u64 536871119, .int .i64 0, .int .u64 4096, .int .u64 8200, .int .u64 12304, .int .i64 3], 1, true⟩ := by rw [hf3.2 _ (by omega) (by omega) (by omega)]; exact hB2
  simp -dsimp (disch := omega) [hB3]
  refine none_nil ht3 (by have := hf3.1; omega) ?_
  simp -dsimp (disch := omega)
  refine RetF.all (r := .bool true) (by simp) (hK _ ⟨by have := hf3.1; omega, fun i hi => ?_⟩)
  rw [hf3.2 i (by omega) (by omega) (by omega), hfr.2 i (by omega) (by omega)]
  exact hE.same i hi
end
end Go.Proofs.Ytmlpcnpkidmlhaa
