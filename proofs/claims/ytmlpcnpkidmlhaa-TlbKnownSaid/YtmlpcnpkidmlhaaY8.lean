/-
  A TLB of a list: finds, none, Drop, Flush, Wrote, All, Copy; TLBs that are none.
-/
import Derived.Test.YtmlpcnpkidmlhaaY7
set_option linter.unusedSimpArgs false
set_option linter.unusedVariables false
set_option linter.unusedSectionVars false
namespace Go.Proofs.Ytmlpcnpkidmlhaa
set_option maxRecDepth 100000
open Go Go.Mini Go.Proofs.Try

def fineE (e : Ent) : Prop := mayB e = true ∧ e.a0 < 18446744073709551616 ∧ e.a1 < 18446744073709551616 ∧ e.a2 < 18446744073709551616
instance (e : Ent) : Decidable (fineE e) := by unfold fineE; infer_instance
section
variable {h : Hp} {K : Value → Hp → Prop}
theorem tfinds_call {e : Ent} {tp : Nat} {ob : Option Nat} {l : List Ent} (T : Tl h tp ob l) (hl : l.length < 900000) (hv : e.vpn < 4503599627370496) (hf : l.find? (fP e.satp (e.vpn * 4096)) = some e) (hK : K (.bool true) h) : ACall prog 15 [ptr tp, .agg (entA e)] h K := by
  refine acallF_of tb0 func15 rfl rfl mixed (by kernel_rfl) fun hwf => ?_
  obtain ⟨H, hH⟩ : ∃ H, H = h.alloc ⟨entA e, 1, true⟩ := ⟨_, rfl⟩
  have hE : Ext h H := by rw [hH]; exact Ext.alloc h _
  have hN : H.next = h.next + 1 := by rw [hH]; rfl
  have b1 : H.blks h.next = some ⟨entA e, 1, true⟩ := by rw [hH]; exact blks_alloc_eq _ _
  have O := T.ext hE
  have e1 := shl_u64 e.vpn 12 (by omega) (e.vpn * 4096) rfl (by omega)
  obtain ⟨va, hva⟩ : ∃ va, va = e.vpn * 4096 := ⟨_, rfl⟩
  rw [← hva] at e1 hf
  have key := fun K' (hk : K' (.tuple #[.agg (entA e), .bool true]) H) => @tfind_call H K' tp e.satp va ob l O (by omega) hl (by rw [hf]; exact hk)
  unfold entA at *
  simp -dsimp (disch := omega) [← hH, b1, e1]
  refine key _ ?_
  simp -dsimp (disch := omega) [b1, hN]
  refine RetF.same (r := .bool true) hwf (by simp) (Nat.zero_le _) (fun i hi => ?_) hK
  rw [blks_alloc_ne _ _ _ (by omega)]
  exact hE.same i hi
theorem tnone_call {tp sa va : Nat} {ob : Option Nat} {l : List Ent} (T : Tl h tp ob l) (hl : l.length < 900000) (hv : va < 18446744073709551616) (hm : l.find? (fP sa va) = none) (hK : K (.bool true) h) : ACall prog 12 [ptr tp, .int .u64 sa, .int .u64 va] h K := by
  refine acallF_of tb0 func12 rfl rfl mixed (by kernel_rfl) fun hwf => ?_
  have key := fun K' (hk : K' (.tuple #[.agg none8, .bool false]) h) => @tfind_call h K' tp sa va ob l T hv hl (by rw [hm]; exact hk)
  unfold none8 at *
  simp -dsimp (disch := omega)
  refine key _ ?_
  simp -dsimp (disch := omega)
  refine RetF.same (r := .bool true) hwf (by simp) (Nat.zero_le _) (fun i hi => ?_) hK
  rw [blks_alloc_ne _ _ _ (by omega)]
theorem tdrop_call {tp va : Nat} {ob : Option Nat} {l : List Ent} (T : Tl h tp ob l) (hl : l.length < 900000) (hv : va < 18446744073709551616) (hK : ∀ h', Tl h' tp ob (l.filter fun e => !decide (e.vpn = va / 4096)) → Ft h h' tp ob → K (.int .i64 ((l.length - (l.filter fun e => !decide (e.vpn = va / 4096)).length : Nat) : Int)) h') : ACall prog 13 [ptr tp, .int .u64 va] h K := by
  refine acallF_of tb0 func13 rfl rfl mixed (by kernel_rfl) fun hwf => ?_
  have htl := T.lt
  obtain ⟨H, hH⟩ : ∃ H, H = h.alloc ⟨#[.int .u64 va], 1, true⟩ := ⟨_, rfl⟩
  have hE : Ext h H := by rw [hH]; exact Ext.alloc h _
  have hN : H.next = h.next + 1 := by rw [hH]; rfl
  have b1 : H.blks h.next = some ⟨#[.int .u64 va], 1, true⟩ := by rw [hH]; exact blks_alloc_eq _ _
  have hclo : ∀ b, ob = some b → Clo H b 27 [ptr h.next] (fun e => decide (e.vpn = va / 4096)) l := fun b hb h' n' s' x _ K' k => by
    have hbl := T.bl b hb
    exact drop1_call (by rw [s' _ (by omega) (by omega)]; exact b1) (by omega) hv k
  simp -dsimp (disch := omega)
  rw [← hH]
  refine lose_call (T.ext hE) hl hclo fun h2 T2 F2 => ?_
  simp -dsimp (disch := omega)
  exact RetF.all (by simp) (hK h2 T2 ⟨by have := F2.le; omega, fun i i1 i2 i3 => (F2.same i (by omega) i2 i3).trans (hE.same i i1)⟩)
theorem tflush_call {tp : Nat} {ob : Option Nat} {l : List Ent} (T : Tl h tp ob l) (hl : l.length < 900000) (hK : ∀ h', Tl h' tp ob [] → Ft h h' tp ob → K (.int .i64 (l.length : Nat)) h') : ACall prog 14 [ptr tp] h K := by
  refine acallF_of tb0 func14 rfl rfl mixed (by kernel_rfl) fun hwf => ?_
  have hclo : ∀ b, ob = some b → Clo h b 28 [] (fun _ => true) l := fun b hb h' n' s' x _ K' k => flush1_call k
  have hf : (l.filter fun _ => !true) = [] := by simp
  simp -dsimp (disch := omega)
  refine lose_call (f := 28) (cs := []) (p := fun _ => true) T hl hclo fun h2 T2 F2 => ?_
  rw [hf] at T2 ⊢
  rw [List.length_nil, Nat.sub_zero]
  simp -dsimp (disch := omega)
  exact RetF.all (by simp) (hK h2 T2 F2)
theorem twrote_call {tp a n : Nat} {ob : Option Nat} {l : List Ent} (T : Tl h tp ob l) (hl : l.length < 900000) (ha : a < 18446744073709551616) (hn : n < 18446744073709551616) (hn0 : 0 < n) (hfi : ∀ e ∈ l, fineE e) (hK : ∀ h', Tl h' tp ob (l.filter fun e => !anyR e.rd.toNat a (min n 4096) e) → Ft h h' tp ob → K (.int .i64 ((l.length - (l.filter fun e => !anyR e.rd.toNat a (min n 4096) e).length : Nat) : Int)) h') : ACall prog 17 [ptr tp, .int .u64 a, .int .u64 n] h K := by
  refine acallF_of tb0 func17 rfl rfl mixed (by kernel_rfl) fun hwf => ?_
  have htl := T.lt
  obtain ⟨N, hNd⟩ : ∃ N, N = min n 4096 := ⟨_, rfl⟩
  rw [← hNd] at hK
  have hNl : N < 18446744073709551616 ∧ 0 < N := by omega
  obtain ⟨H, hH⟩ : ∃ H, H = (h.alloc ⟨#[.int .u64 a], 1, true⟩).alloc ⟨#[.int .u64 N], 1, true⟩ := ⟨_, rfl⟩
  have hE : Ext h H := by rw [hH]; exact (Ext.alloc h _).then_alloc _
  have hN : H.next = h.next + 2 := by rw [hH]; rfl
  have b1 : H.blks h.next = some ⟨#[.int .u64 a], 1, true⟩ := by rw [hH, blks_alloc_ne _ _ _ (by simp), blks_alloc_eq]
  have b2 : H.blks (h.next + 1) = some ⟨#[.int .u64 N], 1, true⟩ := by rw [hH]; exact blks_alloc_eq _ _
  have hclo : ∀ b, ob = some b → Clo H b 30 [ptr (h.next + 1), ptr h.next] (fun e => anyR e.rd.toNat a N e) l := fun b hb h' n' s' x hx K' k => by
    have hbl := T.bl b hb
    obtain ⟨f1, f2⟩ := hfi x hx
    obtain ⟨_, _, m3, m4⟩ := of_decide_eq_true f1
    exact wroteR_call (r := x.rd.toNat) (by rw [s' _ (by omega) (by omega)]; exact b2) (by rw [s' _ (by omega) (by omega)]; exact b1) (by omega) (by omega) ha hNl.1 hNl.2 (by omega) (by omega) f2 k
  have fin : ∀ h2, Tl h2 tp ob (l.filter fun e => !anyR e.rd.toNat a N e) → Ft H h2 tp ob → Ft h h2 tp ob := fun h2 _ F2 => ⟨by have := F2.le; omega, fun i i1 i2 i3 => (F2.same i (by omega) i2 i3).trans (hE.same i i1)⟩
  by_cases c : 4096 < n
  · have c' : (4096 : Int) < n := by omega
    obtain rfl : N = 4096 := by omega
    simp -dsimp (disch := omega) [c, c']
    refine ACallF.gen fun G hG => ?_
    obtain rfl : G = H := hG.trans hH.symm
    refine lose_call (T.ext hE) hl hclo fun h2 T2 F2 => ?_
    simp -dsimp (disch := omega)
    exact RetF.all (by simp) (hK h2 T2 (fin h2 T2 F2))
  · have c' : ¬ (4096 : Int) < n := by omega
    obtain rfl : N = n := by omega
    simp -dsimp (disch := omega) [c, c']
    refine ACallF.gen fun G hG => ?_
    obtain rfl : G = H := hG.trans hH.symm
    refine lose_call (T.ext hE) hl hclo fun h2 T2 F2 => ?_
    simp -dsimp (disch := omega)
    exact RetF.all (by simp) (hK h2 T2 (fin h2 T2 F2))
theorem tall_call {tp : Nat} {ob : Option Nat} {l : List Ent} (T : Tl h tp ob l) (h0 : ob = none ∨ l ≠ []) (hl : l.length < 900000) (hK : ∀ h' ob' v', Sli h' ob' l v' → Ext h h' → (∀ b, ob' = some b → h.next ≤ b) → K v' h') : ACall prog 16 [ptr tp] h K := by
  refine acallF_of tb0 func16 rfl rfl mixed (by kernel_rfl) fun hwf => ?_
  obtain ⟨v, hv, s⟩ := T.ex
  simp -dsimp (disch := omega)
  refine is_tl T ?_
  simp -dsimp (disch := omega) [hv]
  refine clone_call s h0 hl fun h2 ob2 v2 s2 x2 n2 => ?_
  simp -dsimp (disch := omega)
  exact RetF.all (by simp) (hK h2 ob2 v2 s2 x2 n2)
theorem tcopy_call {tp : Nat} {ob : Option Nat} {l : List Ent} (T : Tl h tp ob l) (h0 : ob = none ∨ l ≠ []) (hl : l.length < 900000) (hK : ∀ h' tp' ob', Tl h' tp' ob' l → Ext h h' → h.next ≤ tp' → (∀ b, ob' = some b → h.next ≤ b) → K (ptr tp') h') : ACall prog 18 [ptr tp] h K := by
  refine acallF_of tb0 func18 rfl rfl mixed (by kernel_rfl) fun hwf => ?_
  obtain ⟨v, hv, s⟩ := T.ex
  simp -dsimp (disch := omega)
  refine is_tl T ?_
  simp -dsimp (disch := omega) [hv]
  refine clone_call s h0 hl fun h2 ob2 v2 s2 x2 n2 => ?_
  obtain ⟨a2, c2, rfl⟩ := s2.slice
  have hlt := s2.lt
  simp -dsimp (disch := omega)
  exact RetF.all (by simp) (hK _ h2.next ob2 ⟨⟨_, blks_alloc_eq _ _, s2.mono (by simp) fun b q => blks_alloc_ne _ _ _ (by have := hlt b q; omega)⟩, by simp, fun q => by have := hlt _ q; omega⟩ (x2.trans (Ext.alloc _ _)) x2.le n2)
/-- A TLB that is none. -/
def NoT (h : Hp) (p : Value) : Prop := p = .pointer none ∨ ∃ i, p = ptr i ∧ h.blks i = some ⟨#[.bool false, .slice none 0 0], 1, true⟩ ∧ i < h.next
theorem NoT.ext {h h' : Hp} {p : Value} (t : NoT h p) (x : Ext h h') : NoT h' p := by
  rcases t with rfl | ⟨i, rfl, h1, h2⟩
  · exact .inl rfl
  · exact .inr ⟨i, rfl, by rw [x.same _ h2]; exact h1, Nat.lt_of_lt_of_le h2 x.le⟩
theorem isNo_call {p : Value} (t : NoT h p) (hK : K (.bool false) h) : ACall prog 21 [p] h K := by
  rcases t with rfl | ⟨i, rfl, h1, h2⟩
  · refine acallF_of tb0 func21 rfl rfl mixed (by kernel_rfl) fun hwf => ?_
    simp -dsimp (disch := omega)
    exact RetF.same hwf (by simp) (Nat.zero_le _) (fun _ _ => rfl) hK
  · refine acallF_of tb0 func21 rfl rfl mixed (by kernel_rfl) fun hwf => ?_
    simp -dsimp (disch := omega) [h1]
    exact RetF.same hwf (by simp) (Nat.zero_le _) (fun _ _ => rfl) hK
theorem addNo_call {p : Value} {e : Ent} (t : NoT h p) (hK : K (.int .i64 1) h) : ACall prog 11 [p, .agg (entA e)] h K := by
  refine acallF_of tb0 func11 rfl rfl mixed (by kernel_rfl) fun hwf => ?_
  unfold entA at hwf ⊢
  simp -dsimp (disch := omega)
  refine isNo_call (t.ext (Ext.alloc _ _)) ?_
  simp -dsimp (disch := omega)
  exact RetF.same hwf (by simp) (Nat.zero_le _) (fun i hi => by simp (disch := omega)) hK
theorem addBad_call {tp : Nat} {ob : Option Nat} {l : List Ent} {e : Ent} (T : Tl h tp ob l) (hm : mayB e = false) (hK : K (.int .i64 2) h) : ACall prog 11 [ptr tp, .agg (entA e)] h K := by
  refine acallF_of tb0 func11 rfl rfl mixed (by kernel_rfl) fun hwf => ?_
  obtain ⟨H, hH⟩ : ∃ H, H = h.alloc ⟨entA e, 1, true⟩ := ⟨_, rfl⟩
  have hB : H.blks h.next = some ⟨entA e, 1, true⟩ := by rw [hH]; exact blks_alloc_eq _ _
  have hS : ∀ i, i < h.next → H.blks i = h.blks i := fun i hi => by rw [hH]; exact blks_alloc_ne _ _ _ (by omega)
  have key := fun K' hk => @may_call H K' e hk
  rw [hm] at key
  have TH : Tl H tp ob l := T.ext (by rw [hH]; exact Ext.alloc _ _)
  unfold entA at *
  simp -dsimp (disch := omega) [← hH]
  refine is_tl TH ?_
  simp -dsimp (disch := omega) [hB]
  refine key _ ?_
  simp -dsimp (disch := omega)
  exact RetF.same hwf (by simp) (Nat.zero_le _) hS hK
theorem loseNo_call {p f : Value} (t : NoT h p) (hK : K (.int .i64 0) h) : ACall prog 22 [p, f] h K := by
  refine acallF_of tb0 func22 rfl rfl mixed (by kernel_rfl) fun hwf => ?_
  simp -dsimp (disch := omega)
  refine isNo_call t ?_
  simp -dsimp (disch := omega)
  exact RetF.same hwf (by simp) (Nat.zero_le _) (fun _ _ => rfl) hK
theorem noneNo_call {p : Value} {sa va : Nat} (t : NoT h p) (hK : K (.bool true) h) : ACall prog 12 [p, .int .u64 sa, .int .u64 va] h K := by
  have key : ∀ K' : Value → Hp → Prop, K' (.tuple #[.agg none8, .bool false]) h → ACall prog 26 [p, .int .u64 sa, .int .u64 va] h K' := fun K' hk => by
    refine acallF_of tb0 func26 rfl rfl mixed (by kernel_rfl) fun hwf => ?_
    simp -dsimp (disch := omega)
    refine isNo_call (((t.ext (Ext.alloc _ _)).ext (Ext.alloc _ _)).ext (Ext.alloc _ _)) ?_
    simp -dsimp (disch := omega)
    exact RetF.same (r := .tuple #[.agg none8, .bool false]) hwf (by simp [none8]) (by simp [vtop, vtopL, none8]) (fun i hi => by simp (disch := omega)) hk
  refine acallF_of tb0 func12 rfl rfl mixed (by kernel_rfl) fun hwf => ?_
  unfold none8 at key
  simp -dsimp (disch := omega)
  refine key _ ?_
  simp -dsimp (disch := omega)
  refine RetF.same (r := .bool true) hwf (by simp) (Nat.zero_le _) (fun i hi => ?_) hK
  rw [blks_alloc_ne _ _ _ (by omega)]
theorem dropNo_call {p : Value} {va : Nat} (t : NoT h p) (hK : K (.int .i64 0) h) : ACall prog 13 [p, .int .u64 va] h K := by
  refine acallF_of tb0 func13 rfl rfl mixed (by kernel_rfl) fun hwf => ?_
  simp -dsimp (disch := omega)
  refine loseNo_call (t.ext (Ext.alloc _ _)) ?_
  simp -dsimp (disch := omega)
  exact RetF.same hwf (by simp) (Nat.zero_le _) (fun i hi => by simp (disch := omega)) hK
theorem flushNo_call {p : Value} (t : NoT h p) (hK : K (.int .i64 0) h) : ACall prog 14 [p] h K := by
  refine acallF_of tb0 func14 rfl rfl mixed (by kernel_rfl) fun hwf => ?_
  simp -dsimp (disch := omega)
  refine loseNo_call t ?_
  simp -dsimp (disch := omega)
  exact RetF.same hwf (by simp) (Nat.zero_le _) (fun _ _ => rfl) hK
theorem wroteNo_call {p : Value} (t : NoT h p) (hK : K (.int .i64 0) h) : ACall prog 17 [p, .int .u64 0, .int .u64 1] h K := by
  refine acallF_of tb0 func17 rfl rfl mixed (by kernel_rfl) fun hwf => ?_
  simp -dsimp (disch := omega)
  refine loseNo_call ((t.ext (Ext.alloc _ _)).ext (Ext.alloc _ _)) ?_
  simp -dsimp (disch := omega)
  exact RetF.same hwf (by simp) (Nat.zero_le _) (fun i hi => by simp (disch := omega)) hK
theorem allNo_call {p : Value} (t : NoT h p) (hK : K (.slice none 0 0) h) : ACall prog 16 [p] h K := by
  refine acallF_of tb0 func16 rfl rfl mixed (by kernel_rfl) fun hwf => ?_
  simp -dsimp (disch := omega)
  refine isNo_call t ?_
  simp -dsimp (disch := omega)
  exact RetF.same hwf (by simp) (Nat.zero_le _) (fun _ _ => rfl) hK
theorem copyNo_call {p : Value} (t : NoT h p) (hK : K (.pointer none) h) : ACall prog 18 [p] h K := by
  refine acallF_of tb0 func18 rfl rfl mixed (by kernel_rfl) fun hwf => ?_
  simp -dsimp (disch := omega)
  refine isNo_call t ?_
  simp -dsimp (disch := omega)
  exact RetF.same hwf (by simp) (Nat.zero_le _) (fun _ _ => rfl) hK
end
end Go.Proofs.Ytmlpcnpkidmlhaa
