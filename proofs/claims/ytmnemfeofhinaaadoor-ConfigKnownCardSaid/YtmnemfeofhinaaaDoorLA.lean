/-
  A fault tells where. The small functions of the statements. The chapter's configuration; which configurations may be gone through. Lists of channels that tell the same are the same. Configurations that tell the same are the same. Some of the chapter's answers.
-/
import Derived.Test.YtmnemfeofhinaaaDoorDA
import Derived.Test.YtmnemfeofhinaaaDoorJA
import Derived.Test.YtmnemfeofhinaaaDoorNA
set_option linter.unusedSimpArgs false
set_option linter.unusedVariables false
set_option linter.unusedSectionVars false

namespace Go.Proofs.YtmnemfeofhinaaaDoor
set_option maxRecDepth 100000
open Go Go.Mini

def FltOk (z : Flt) : Prop := z.1 ≠ txt [] ∧ 0 ≤ z.2.1 ∧ z.2.2 ≠ 0
theorem firstG_pos : ∀ {l : List Gu} {i : Nat} {p : Nat × Nat}, firstG l i = some p → p.2 ≠ 0
  | [], _, _, h => by cases h
  | g :: l, i, p, h => by
    unfold firstG at h
    split at h
    · rename_i hg
      cases h
      exact hg
    · exact firstG_pos h
theorem chkC_fltOk {gs : List Gu} {ws : List Win} {cs : List Ch} {z : Flt} (h : chkC gs ws cs = some z) : FltOk z := by
  unfold chkC at h
  split at h
  · cases h; exact ⟨by decide, by decide, by decide⟩
  · split at h
    · rename_i i e he
      cases h
      have := firstG_pos he
      exact ⟨by show sGuest ≠ _; decide, by show (0 : Int) ≤ (i : Nat); omega, by show ((e : Nat) : Int) ≠ 0; simp at this; omega⟩
    · split at h
      · rename_i hw
        cases h
        exact ⟨by show sWindows ≠ _; decide, Int.le_refl _, by show ((checkW ws gs.length : Nat) : Int) ≠ 0; omega⟩
      · split at h
        · rename_i hc
          cases h
          exact ⟨by show sChannels ≠ _; decide, Int.le_refl _, by show ((checkC cs gs.length : Nat) : Int) ≠ 0; omega⟩
        · cases h
theorem dL_fltOk {α : Type} {one : Nat → Option (α × Nat)} {each : ByteArray} (he : each ≠ txt []) : ∀ {n i a : Nat} {z : Flt}, dL one each n i a = .inl z → FltOk z
  | 0, i, a, z, h => by cases h
  | n + 1, i, a, z, h => by
    rw [dL_succ] at h
    cases h1 : one a with
    | none => rw [h1] at h; cases h; exact ⟨he, by show (0 : Int) ≤ (i : Nat); omega, by show (4 : Int) ≠ 0; decide⟩
    | some p =>
      obtain ⟨x, b⟩ := p
      rw [h1] at h
      dsimp only at h
      cases h2 : dL one each n (i + 1) b with
      | inl z' => rw [h2] at h; cases h; exact dL_fltOk he h2
      | inr q => rw [h2] at h; cases h
theorem dLn_fltOk {α : Type} {S : List UInt8} {one : Nat → Option (α × Nat)} {all each : ByteArray} (ha : all ≠ txt []) (he : each ≠ txt []) {a : Nat} {z : Flt} (h : dLn S one all each a = .inl z) : FltOk z := by
  unfold dLn at h
  split at h
  · cases h; exact ⟨ha, Int.le_refl _, by show (4 : Int) ≠ 0; decide⟩
  · exact dL_fltOk he h
theorem docP_fltOk {S : List UInt8} {z : Flt} (h : docP S = .inl z) : FltOk z := by
  unfold docP at h
  split at h
  · cases h; exact ⟨by show sMagic ≠ _; decide, by decide, by decide⟩
  · split at h
    · cases h; exact ⟨by show sMagic ≠ _; decide, by decide, by decide⟩
    · split at h
      · rename_i h1; cases h; exact dLn_fltOk (by decide) (by decide) h1
      · split at h
        · rename_i h1; cases h; exact dLn_fltOk (by decide) (by decide) h1
        · split at h
          · rename_i h1; cases h; exact dLn_fltOk (by decide) (by decide) h1
          · unfold docE at h
            split at h
            · cases h; exact ⟨by show sSum ≠ _; decide, by decide, by decide⟩
            · split at h
              · cases h; exact ⟨by show sSum ≠ _; decide, by decide, by decide⟩
              · split at h
                · cases h; exact ⟨by show sEnd ≠ _; decide, by decide, by decide⟩
                · split at h
                  · rename_i h1; cases h; exact chkC_fltOk h1
                  · cases h
theorem prF_doc {S : List UInt8} {z : Flt} (h : prF S = some z) : docP S = .inl z := by
  have law := pr_doc S
  cases hd : docP S with
  | inl z' => rw [hd] at law; rw [show prF S = some z' from law] at h; cases h; rfl
  | inr p => obtain ⟨a, b, c⟩ := p; rw [hd] at law; rw [law.1] at h; cases h
theorem prF_fltOk {S : List UInt8} {z : Flt} (h : prF S = some z) : FltOk z := docP_fltOk (prF_doc h)
end Go.Proofs.YtmnemfeofhinaaaDoor
namespace Go.Proofs.YtmnemfeofhinaaaDoor
set_option maxRecDepth 100000
open Go Go.Mini Go.Proofs.Tryd

def tb11 : Nat → Marks := fun k => if k = 2 then ⟨[8, 10], fun _ => True⟩ else ⟨[], fun _ => True⟩
theorem tb11_2 : tb11 2 = ⟨[8, 10], fun _ => True⟩ := rfl
section
variable {h : Hp} {K : Value → Hp → Prop}
theorem HasErr.ext {h h' : Hp} (he : HasErr h) (x : Ext h h') (h100 : 100 < h.next) : HasErr h' := (x.same 100 h100).trans he
theorem IsEr.ext {h h' : Hp} {e : Er} {v : Value} (he : IsEr h e v) (x : Ext h h') : IsEr h' e v := by
  cases e with
  | nil => exact he
  | num n => exact he
  | flt f a n =>
    obtain ⟨p, e, hp, hpn⟩ := he
    exact ⟨p, e, (x.same p hpn).trans hp, Nat.lt_of_lt_of_le hpn x.le⟩
set_option maxHeartbeats 4000000 in
theorem tells_call {o : Option Flt} {v vg vw vc : Value} (og : vg.oneCell' = true) (ow : vw.oneCell' = true) (oc : vc.oneCell' = true) (he : IsEr h (erOf o) v) (hE : HasErr h) (h100 : 100 < h.next) (hn : ∀ z, o = some z → z.2.2 ≠ 0) (hK : K (.bool true) h) : ACall prog 11 [v, toldV o vg vw vc] h K := by
  refine acallF_of tb11 func11 rfl rfl mixed (by kernel_rfl) fun hwf => ?_
  have hg : ∀ b, HasErr (h.alloc b) := fun b => hE.ext (Ext.alloc _ _) h100
  cases o with
  | none =>
    obtain rfl : v = .nilIface := he
    have ha : ∀ b, IsEr (h.alloc b) (erOf none) .nilIface := fun _ => rfl
    simp -dsimp (disch := omega) [toldV, goodV, og, ow, oc]
    refine where_call (e := .nil) (ha _) (hg _) (by simp; omega) ?_
    simp -dsimp (disch := omega) [tb11_2]
    refine code_call (e := .nil) (ha _) (hg _) (by simp; omega) ?_
    simp -dsimp (disch := omega) [tb11_2, Er.code, Er.field, Er.place]
    exact RetF.same hwf (by simp) (Nat.zero_le _) (fun i hi => by simp [Hp.blks_alloc, Nat.ne_of_lt hi]) hK
  | some z =>
    obtain ⟨f, a, n⟩ := z
    have hn := hn _ rfl
    simp only at hn
    have ha : ∀ b, IsEr (h.alloc b) (.flt f a n) v := fun b => by
      obtain ⟨p, rfl, hp, hpn⟩ := he
      exact ⟨p, rfl, by rw [blks_alloc_ne _ _ _ (by omega)]; exact hp, by simp; omega⟩
    obtain ⟨p, rfl, hp, hpn⟩ := he
    simp -dsimp (disch := omega) [toldV, badV]
    refine where_call (e := .flt f a n) (ha _) (hg _) (by simp; omega) ?_
    simp -dsimp (disch := omega) [tb11_2, hn]
    refine code_call (e := .flt f a n) (ha _) (hg _) (by simp; omega) ?_
    simp -dsimp (disch := omega) [tb11_2, Er.code, Er.field, Er.place, hn]
    exact RetF.same hwf (by simp) (Nat.zero_le _) (fun i hi => by simp [Hp.blks_alloc, Nat.ne_of_lt hi]) hK
set_option maxHeartbeats 4000000 in
theorem faults_call {f : ByteArray} {a n : Int} {v : Value} (he : IsEr h (.flt f a n) v) (hE : HasErr h) (h100 : 100 < h.next) (hK : K (.bool true) h) : ACall prog 24 [v, .string f, .int .i64 a, .int .i64 n] h K := by
  refine acallF_of tb0 func24 rfl rfl mixed (by kernel_rfl) fun hwf => ?_
  have he' := he
  obtain ⟨p, rfl, hp, hpn⟩ := he
  simp -dsimp (disch := omega)
  refine where_call he' hE h100 ?_
  simp -dsimp (disch := omega) [Er.field, Er.place]
  refine code_call he' hE h100 ?_
  simp -dsimp (disch := omega) [Er.code]
  refine is_fault_call hp ?_
  simp -dsimp (disch := omega)
  exact RetF.all (by simp) hK
set_option maxHeartbeats 4000000 in
theorem parses_call {S : List UInt8} (hS : S.length < 4611686018427387904) (hK : ∀ h' v, Ext h h' → IsEr h' (erOf (prF S)) v → K v h') : ACall prog 15 [.string (txt S)] h K := by
  refine acallF_of tb0 func15 rfl rfl mixed (by kernel_rfl) fun hwf => ?_
  simp -dsimp (disch := omega)
  refine parse_call hS fun h1 v L vg vw vc x he hc hL => ?_
  obtain ⟨_, _, rfl⟩ := hc.v.g.slice
  obtain ⟨_, _, rfl⟩ := hc.v.w.slice
  obtain ⟨_, _, rfl⟩ := hc.v.c.sl.slice
  simp -dsimp (disch := omega)
  exact RetF.all (by simp) (hK _ v (x.then_alloc _) (he.ext (Ext.alloc _ _)))
end
end Go.Proofs.YtmnemfeofhinaaaDoor
namespace Go.Proofs.YtmnemfeofhinaaaDoor
set_option maxRecDepth 100000
open Go Go.Mini Go.Proofs.Tryd

def gGu : Gu := ⟨1, 5, 2, List.replicate 17 0⟩
def gWi : Win := ⟨0, 3⟩
section
variable {h : Hp} {K : Value → Hp → Prop}
set_option maxHeartbeats 4000000 in
theorem given_call (hK : ∀ h', Ext h h' → h'.next = h.next + 3 → h'.blks (h.next + 1) = some ⟨(guC gGu).toArray, 20, true⟩ → h'.blks (h.next + 2) = some ⟨#[.int .u8 0, .int .u16 3], 2, true⟩ → K (.agg #[.slice (some ⟨h.next + 1, 0, none⟩) 1 2, .slice (some ⟨h.next + 2, 0, none⟩) 1 2, .slice none 0 0]) h') : ACall prog 23 [] h K := by
  refine acallF_of tb0 func23 rfl rfl mixed (by kernel_rfl) fun hwf => ?_
  simp -dsimp (disch := omega)
  exact RetF.all (by simp (disch := omega)) (hK _ (((Ext.alloc _ _).then_alloc _).then_alloc _) (by simp) (by rw [blks_alloc_ne _ _ _ (by simp)]; exact blks_alloc_eq (h.alloc _) _) (by exact blks_alloc_eq ((h.alloc _).alloc _) _))
theorem given_cfv {h : Hp} {p q : Nat} (hp : h.blks p = some ⟨(guC gGu).toArray, 20, true⟩) (hq : h.blks q = some ⟨#[.int .u8 0, .int .u16 3], 2, true⟩) : CfV h [gGu] [gWi] [] (.slice (some ⟨p, 0, none⟩) 1 2) (.slice (some ⟨q, 0, none⟩) 1 2) (.slice none 0 0) := by
  refine ⟨⟨by simp [guesC, guC, u8L, gGu], .inr ⟨_, _, _, rfl, hp, ?_, ?_⟩⟩, ⟨rfl, .inr ⟨_, _, _, rfl, hq, ?_, ?_⟩⟩, ⟨⟨rfl, .inl ⟨_, _, rfl, rfl⟩⟩, fun x hx => by cases hx⟩, ?_, ?_, by simp, by simp, by simp⟩
  · simp [gGu, guC, u8L]
  · intro j hj
    simp [guesC]
  · simp
  · intro j hj
    rw [show winsC [gWi] = [.int .u8 0, .int .u16 3] from rfl]
    simp
  · intro g hg
    rw [List.mem_singleton] at hg
    subst hg
    refine ⟨by decide, by decide, by decide, by decide, by decide⟩
  · intro g hg
    rw [List.mem_singleton] at hg
    subst hg
    refine ⟨by decide, by decide⟩
def fewL (gs : List Gu) (ws : List Win) (cs : List Ch) : Bool := (cs.take 30).all (fun c => decide (c.to.length ≤ 10)) && decide (gs.length ≤ 20) && decide (ws.length ≤ 40) && decide (cs.length ≤ 20)
set_option maxHeartbeats 4000000 in
theorem few_call {gs : List Gu} {ws : List Win} {L : List (Ch × Value)} {vg vw vc : Value} (hv : CfV h gs ws L vg vw vc) (hK : K (.bool (fewL gs ws (L.map (·.1)))) h) : ACall prog 14 [.agg #[vg, vw, vc]] h K := by
  refine acallF_of tb0 func14 rfl rfl mixed (by kernel_rfl) fun hwf => ?_
  have ht := hwf.args _ (List.mem_cons_self ..)
  have htg := sblk_lt (Nat.le_trans (show vtop vg ≤ vtop (.agg #[vg, vw, vc]) by simp [vtop, vtopL]; omega) ht)
  have htw := sblk_lt (Nat.le_trans (show vtop vw ≤ vtop (.agg #[vg, vw, vc]) by simp [vtop, vtopL]; omega) ht)
  have htc := sblk_lt (Nat.le_trans (show vtop vc ≤ vtop (.agg #[vg, vw, vc]) by simp [vtop, vtopL]; omega) ht)
  have hto := sl_tops hwf hv.c.sl
  obtain ⟨ag, cg, e1⟩ := hv.g.slice
  obtain ⟨aw, cw, e2⟩ := hv.w.slice
  obtain ⟨ac, cc, e3⟩ := hv.c.sl.slice
  subst e1 e2 e3
  simp -dsimp (disch := omega)
  refine awp_loop (fun t h' => Ext h h' ∧ h'.blks h.next = some ⟨#[.slice ag gs.length cg, .slice aw ws.length cw, .slice ac L.length cc], 1, true⟩ ∧ ∃ k : Nat, k ≤ L.length ∧ k ≤ 30 ∧ t 1 = ptr h.next ∧ t 2 = .bool false ∧ t 3 = .int .i64 k ∧ ∀ i, i < k → ∀ x, L[i]? = some x → x.1.to.length ≤ 10) (fun t _ => L.length - ivN (t 3)) ?_ ?_
  · simp -dsimp (disch := omega)
    exact ⟨Ext.alloc _ _, 0, by omega, by omega, rfl, fun i hi => by omega⟩
  · rintro t h' ⟨E, b1, k, hk, hk3, g1, g2, g3, hall⟩
    refine vcF_sound (tb := tb0) mixed _ (by kernel_rfl) ?_
    have En := E.le
    have hl := hv.lc
    by_cases hc : k < L.length ∧ k < 30
    · obtain ⟨hc1, hc2⟩ := hc
      have hc2' : (k : Int) < 30 := by omega
      obtain ⟨⟨c, vt⟩, hx⟩ : ∃ w, L[k]? = some w := ⟨L[k], List.getElem?_eq_getElem hc1⟩
      obtain ⟨a', c', b', q2, fa, s1, x1, y1⟩ := sl_el (f := fun x : Ch × Value => chC x.1 x.2) (n := 7) chC_len hv.c.sl hx
      cases q2
      have hab : a'.block < h.next := htc _ rfl
      rw [← E.same _ hab] at fa
      obtain ⟨cok, cto⟩ := hv.c.ok _ (List.mem_of_getElem? hx)
      simp only at cok cto
      have y3 : b'.cells[a'.off + k * 7 + 3]? = some vt := y1 3 (by omega)
      by_cases d : 10 < c.to.length
      · have d' : (10 : Int) < c.to.length := by omega
        simp -dsimp (disch := omega) [g1, g3, b1, hc1, hc2, hc2', fa, y3, cto.len.1, d', -getElem?_pos]
        have : fewL gs ws (L.map (·.1)) = false := by
          unfold fewL
          have hm : c ∈ (L.map (·.1)).take 30 := by
            refine List.mem_of_getElem? (i := k) ?_
            rw [List.getElem?_take_of_lt hc2, List.getElem?_map, hx]; rfl
          rw [show ((L.map (·.1)).take 30).all (fun c => decide (c.to.length ≤ 10)) = false from by
            rw [← Bool.not_eq_true, List.all_eq_true]
            intro hh
            have := hh c hm
            simp at this
            omega]
          rfl
        rw [this] at hK
        exact RetF.same hwf (by simp) (Nat.zero_le _) (fun i hi => by simp [E.same i hi]) hK
      · have d' : ¬ (10 : Int) < c.to.length := by omega
        simp -dsimp (disch := omega) [g1, g2, g3, b1, hc1, hc2, hc2', fa, y3, cto.len.1, d', -getElem?_pos]
        refine ⟨⟨E, k + 1, by omega, by omega, by omega, fun i hi a b hab => ?_⟩, by simp [ivN]; omega⟩
        by_cases hik : i = k
        · subst hik
          rw [hx] at hab
          cases hab
          omega
        · exact hall i (by omega) _ hab
    · have hcc : k = L.length ∨ k = 30 := by omega
      have hall' : ((L.map (·.1)).take 30).all (fun c => decide (c.to.length ≤ 10)) = true := by
        rw [List.all_eq_true]
        intro c hc
        obtain ⟨i, hi⟩ := List.mem_iff_getElem?.1 hc
        have hi3 : i < 30 := by
          have := (List.getElem?_eq_some_iff.1 hi).1
          rw [List.length_take] at this
          omega
        rw [List.getElem?_take_of_lt hi3, List.getElem?_map] at hi
        cases hx : L[i]? with
        | none => rw [hx] at hi; cases hi
        | some x =>
          rw [hx] at hi
          cases hi
          have hil := (List.getElem?_eq_some_iff.1 hx).1
          exact decide_eq_true (hall i (by omega) x hx)
      have hfew : fewL gs ws (L.map (·.1)) = (decide (gs.length ≤ 20) && decide (ws.length ≤ 40) && decide (L.length ≤ 20)) := by
        unfold fewL
        rw [hall', List.length_map]
        rfl
      rw [hfew] at hK
      have hfin : ∀ b, b = (decide (gs.length ≤ 20) && decide (ws.length ≤ 40) && decide (L.length ≤ 20)) → K (.bool b) h := fun b hb => by rw [hb]; exact hK
      clear hK hfew hall hall' hcc
      by_cases hc1 : k < L.length
      · have hk30 : k = 30 := by omega
        subst hk30
        have hc1' : (30 : Int) < L.length := by omega
        have q3 : ¬ L.length ≤ 20 := by omega
        by_cases q1 : gs.length ≤ 20 <;> by_cases q2 : ws.length ≤ 40
        all_goals
          first | have q1' : (gs.length : Int) ≤ 20 := by omega | have q1' : ¬ (gs.length : Int) ≤ 20 := by omega
          first | have q2' : (ws.length : Int) ≤ 40 := by omega | have q2' : ¬ (ws.length : Int) ≤ 40 := by omega
          first | have q3' : (L.length : Int) ≤ 20 := by omega | have q3' : ¬ (L.length : Int) ≤ 20 := by omega
          simp -dsimp (disch := omega) [g1, g2, g3, b1, hc1, hc1', q1', q2', q3']
          exact RetF.same hwf (by simp [q1, q2, q3]) (Nat.zero_le _) (fun i hi => by simp [E.same i hi]) (hfin (decide (gs.length ≤ 20) && decide (ws.length ≤ 40) && decide (L.length ≤ 20)) rfl)
      · by_cases q1 : gs.length ≤ 20 <;> by_cases q2 : ws.length ≤ 40 <;> by_cases q3 : L.length ≤ 20
        all_goals
          first | have q1' : (gs.length : Int) ≤ 20 := by omega | have q1' : ¬ (gs.length : Int) ≤ 20 := by omega
          first | have q2' : (ws.length : Int) ≤ 40 := by omega | have q2' : ¬ (ws.length : Int) ≤ 40 := by omega
          first | have q3' : (L.length : Int) ≤ 20 := by omega | have q3' : ¬ (L.length : Int) ≤ 20 := by omega
          simp -dsimp (disch := omega) [g1, g2, g3, b1, hc1, q1', q2', q3']
          exact RetF.same hwf (by simp [q1, q2, q3]) (Nat.zero_le _) (fun i hi => by simp [E.same i hi]) (hfin (decide (gs.length ≤ 20) && decide (ws.length ≤ 40) && decide (L.length ≤ 20)) rfl)
end
end Go.Proofs.YtmnemfeofhinaaaDoor
namespace Go.Proofs.YtmnemfeofhinaaaDoor
set_option maxRecDepth 100000
open Go Go.Mini Go.Proofs.Tryd

def tb48 : Nat → Marks := fun k => if k = 6 then ⟨[7, 10, 1000000, 2000008, 2000009], fun _ => True⟩ else ⟨[], fun _ => True⟩
theorem tb48_6 : tb48 6 = ⟨[7, 10, 1000000, 2000008, 2000009], fun _ => True⟩ := rfl
theorem tb48_12 : tb48 12 = ⟨[], fun _ => True⟩ := rfl
section
variable {h : Hp} {K : Value → Hp → Prop}
set_option maxHeartbeats 8000000 in
theorem sameChannels_call {L L' : List (Ch × Value)} {v v' : Value} (hv : ChV h L v) (hv' : ChV h L' v') (hl : L.length < 9223372036854775808) (hL : L.map (·.1) = L'.map (·.1)) (hK : K (.bool true) h) : ACall prog 48 [v, v'] h K := by
  refine acallF_of tb48 func48 rfl rfl mixed (by kernel_rfl) fun hwf => ?_
  have hvb := sblk_lt (hwf.args v (by simp))
  have hvb' := sblk_lt (hwf.args v' (by simp))
  have hsl := hv.sl
  have hsl' := hv'.sl
  have hll : L'.length = L.length := by have := congrArg List.length hL; simpa using this.symm
  obtain ⟨va, vc, rfl⟩ := hsl.slice
  obtain ⟨va', vc', rfl⟩ := hsl'.slice
  simp -dsimp (disch := omega) [hll]
  refine awp_loop (fun t h' => Ext h h' ∧ ∃ k : Nat, k ≤ L.length ∧ t 0 = .slice va L.length vc ∧ t 1 = .slice va' L'.length vc' ∧ t 4 = .bool false ∧ t 5 = .int .i64 k) (fun t _ => L.length - ivN (t 5)) ?_ ?_
  · simp -dsimp (disch := omega) [hll]
    exact ⟨Ext.refl _, 0, by omega, rfl⟩
  · rintro t h' ⟨E, k, hk, g0, g1, g4, g5⟩
    refine vcF_sound (tb := tb48) mixed _ (by kernel_rfl) ?_
    have En := E.le
    simp -dsimp (disch := omega) [g0, g5]
    refine CondF_dec (fun hc => ?_) (fun hc => ?_)
    · obtain ⟨⟨c, vt⟩, hx⟩ : ∃ w, L[k]? = some w := ⟨L[k], List.getElem?_eq_getElem (by omega)⟩
      obtain ⟨⟨c', vt'⟩, hx'⟩ : ∃ w, L'[k]? = some w := ⟨L'[k], List.getElem?_eq_getElem (by omega)⟩
      have hcc : c = c' := by
        have := congrArg (fun l => l[k]?) hL
        simpa [List.getElem?_map, hx, hx'] using this
      subst hcc
      obtain ⟨a1, c1, b1, q1, f1, s1, x1, y1⟩ := sl_el (f := fun x : Ch × Value => chC x.1 x.2) (n := 7) chC_len hsl hx
      obtain ⟨a2, c2, b2, q2, f2, s2, x2, y2⟩ := sl_el (f := fun x : Ch × Value => chC x.1 x.2) (n := 7) chC_len hsl' hx'
      cases q1
      cases q2
      have ht1 : vtop vt ≤ h.next := hwf.top _ _ f1 vt (Array.mem_of_getElem? (y1 3 (by omega)))
      have ht2 : vtop vt' ≤ h.next := hwf.top _ _ f2 vt' (Array.mem_of_getElem? (y2 3 (by omega)))
      have hb1 : a1.block < h.next := hvb _ rfl
      have hb2 : a2.block < h.next := hvb' _ rfl
      rw [← E.same _ hb1] at f1
      rw [← E.same _ hb2] at f2
      obtain ⟨cok, cto⟩ := hv.ok _ (List.mem_of_getElem? hx)
      obtain ⟨_, cto'⟩ := hv'.ok _ (List.mem_of_getElem? hx')
      simp only at cok cto cto'
      have x1' : b1.cells.extract (a1.off + k * 7) (a1.off + k * 7 + 7) = #[.int .u8 c.k, .int .u8 c.g, .int .u8 c.p, vt, .int .u8 c.m, .int .u8 c.d, .int .u32 c.v] := x1
      have x2' : b2.cells.extract (a2.off + k * 7) (a2.off + k * 7 + 7) = #[.int .u8 c.k, .int .u8 c.g, .int .u8 c.p, vt', .int .u8 c.m, .int .u8 c.d, .int .u32 c.v] := x2
      clear x1 y1 x2 y2
      have hne1 : a2.block ≠ h'.next := by omega
      simp -dsimp (disch := omega) [g0, g1, g5, f1, f2, s1, s2, x1', x2', cto.len.1, cto.len.2, cto'.len.1, cto'.len.2, tb48_6, hll, hne1]
      refine ⟨by omega, fun j hj hR => ?_, ?_⟩
      · have hj' : j < h'.next := by simpa [Marks.at_R] using hR
        simp (disch := omega) [blks_alloc_ne]
      obtain ⟨H, hH⟩ : ∃ H, H = (h'.alloc ⟨#[.int .u8 c.k, .int .u8 c.g, .int .u8 c.p, vt, .int .u8 c.m, .int .u8 c.d, .int .u32 c.v], 1, true⟩).alloc ⟨#[.int .u8 c.k, .int .u8 c.g, .int .u8 c.p, vt', .int .u8 c.m, .int .u8 c.d, .int .u32 c.v], 1, true⟩ := ⟨_, rfl⟩
      rw [← hH]
      have EH : Ext h H := by rw [hH]; exact (E.then_alloc _).then_alloc _
      have Hn : H.next = h'.next + 2 := by rw [hH]; simp
      have B1 : H.blks h'.next = some ⟨#[.int .u8 c.k, .int .u8 c.g, .int .u8 c.p, vt, .int .u8 c.m, .int .u8 c.d, .int .u32 c.v], 1, true⟩ := by rw [hH, blks_alloc_ne _ _ _ (by simp)]; exact blks_alloc_eq _ _
      have B2 : H.blks (h'.next + 1) = some ⟨#[.int .u8 c.k, .int .u8 c.g, .int .u8 c.p, vt', .int .u8 c.m, .int .u8 c.d, .int .u32 c.v], 1, true⟩ := by rw [hH]; exact blks_alloc_eq (h'.alloc _) _
      refine awp_loop (fun t hh => hh = H ∧ ∃ j : Nat, j ≤ c.to.length ∧ t 0 = .slice (some a1) L.length vc ∧ t 1 = .slice (some a2) L'.length vc' ∧ t 4 = .bool false ∧ t 5 = .int .i64 k ∧ t 6 = ptr h'.next ∧ t 7 = ptr (h'.next + 1) ∧ t 8 = .int .i64 j) (fun t _ => c.to.length - ivN (t 8)) ?_ ?_
      · simp -dsimp (disch := omega) [g0, g1, g4, g5]
        exact ⟨0, by omega, rfl⟩
      · rintro t hh ⟨rfl, j, hj, k0, k1, k4, k5, k6, k7, k8⟩
        refine vcF_sound (tb := tb48) mixed _ (by kernel_rfl) ?_
        simp -dsimp (disch := omega) [k6, k8, B1, cto.len.1]
        refine CondF_dec (fun hc2 => ?_) (fun hc2 => ?_)
        · have hto := cto.sl (by omega)
          have hto' := cto'.sl (by omega)
          obtain ⟨⟨p, q⟩, hxe⟩ : ∃ e, c.to[j]? = some e := ⟨c.to[j], List.getElem?_eq_getElem hc2⟩
          obtain ⟨a3, c3, b3, q3, f3, s3, x3, y3⟩ := sl_el (f := endC) (n := 2) endC_len hto hxe
          obtain ⟨a4, c4, b4, q4, f4, s4, x4, y4⟩ := sl_el (f := endC) (n := 2) endC_len hto' hxe
          subst q3 q4
          have l3 := sblk_lt ht1 _ rfl
          have l4 := sblk_lt ht2 _ rfl
          rw [← EH.same _ l3] at f3
          rw [← EH.same _ l4] at f4
          have x3' : b3.cells.extract (a3.off + j * 2) (a3.off + j * 2 + 2) = #[.int .u8 p, .int .u8 q] := x3
          have x4' : b4.cells.extract (a4.off + j * 2) (a4.off + j * 2 + 2) = #[.int .u8 p, .int .u8 q] := x4
          clear x3 x4 y3 y4
          have hc63 := cok.2.2.2.2.2.2.2
          simp -dsimp (disch := omega) [k0, k1, k4, k5, k6, k7, k8, B1, B2, f3, f4, s3, s4, x3', x4', tb48_12]
          exact ⟨⟨j + 1, by omega, by omega⟩, by simp [ivN]; omega⟩
        · simp -dsimp (disch := omega) [k0, k1, k4, k5, k6, k7, k8]
          exact ⟨⟨EH, k + 1, by omega, by omega⟩, by simp [ivN, g5]; omega⟩
    · simp -dsimp (disch := omega)
      exact RetF.same hwf (by simp) (Nat.zero_le _) E.same hK
end
end Go.Proofs.YtmnemfeofhinaaaDoor
namespace Go.Proofs.YtmnemfeofhinaaaDoor
set_option maxRecDepth 100000
open Go Go.Mini Go.Proofs.Tryd

theorem len17 {l : List Nat} (h : l.length = 17) : ∃ a0 a1 a2 a3 a4 a5 a6 a7 a8 a9 b0 b1 b2 b3 b4 b5 b6, l = [a0, a1, a2, a3, a4, a5, a6, a7, a8, a9, b0, b1, b2, b3, b4, b5, b6] := by
  match l, h with
  | [a0, a1, a2, a3, a4, a5, a6, a7, a8, a9, b0, b1, b2, b3, b4, b5, b6], _ => exact ⟨_, _, _, _, _, _, _, _, _, _, _, _, _, _, _, _, _, rfl⟩
section
variable {h : Hp} {K : Value → Hp → Prop}
set_option maxHeartbeats 8000000 in
theorem same_call {gs : List Gu} {ws : List Win} {L L' : List (Ch × Value)} {vg vw vc vg' vw' vc' : Value} (hv : CfV h gs ws L vg vw vc) (hv' : CfV h gs ws L' vg' vw' vc') (hL : L.map (·.1) = L'.map (·.1)) (hK : K (.bool true) h) : ACall prog 12 [.agg #[vg, vw, vc], .agg #[vg', vw', vc']] h K := by
  refine acallF_of tb0 func12 rfl rfl mixed (by kernel_rfl) fun hwf => ?_
  have ht := hwf.args _ (List.mem_cons_self ..)
  have ht' := hwf.args (.agg #[vg', vw', vc']) (by simp)
  have htg := sblk_lt (Nat.le_trans (show vtop vg ≤ vtop (.agg #[vg, vw, vc]) by simp [vtop, vtopL]; omega) ht)
  have htw := sblk_lt (Nat.le_trans (show vtop vw ≤ vtop (.agg #[vg, vw, vc]) by simp [vtop, vtopL]; omega) ht)
  have htc := sblk_lt (Nat.le_trans (show vtop vc ≤ vtop (.agg #[vg, vw, vc]) by simp [vtop, vtopL]; omega) ht)
  have htg' := sblk_lt (Nat.le_trans (show vtop vg' ≤ vtop (.agg #[vg', vw', vc']) by simp [vtop, vtopL]; omega) ht')
  have htw' := sblk_lt (Nat.le_trans (show vtop vw' ≤ vtop (.agg #[vg', vw', vc']) by simp [vtop, vtopL]; omega) ht')
  have htc' := sblk_lt (Nat.le_trans (show vtop vc' ≤ vtop (.agg #[vg', vw', vc']) by simp [vtop, vtopL]; omega) ht')
  have hto := sl_tops hwf hv.c.sl
  have hto' := sl_tops hwf hv'.c.sl
  obtain ⟨ag, cg, e1⟩ := hv.g.slice
  obtain ⟨aw, cw, e2⟩ := hv.w.slice
  obtain ⟨ac, cc, e3⟩ := hv.c.sl.slice
  obtain ⟨ag', cg', e4⟩ := hv'.g.slice
  obtain ⟨aw', cw', e5⟩ := hv'.w.slice
  obtain ⟨ac', cc', e6⟩ := hv'.c.sl.slice
  subst e1 e2 e3 e4 e5 e6
  simp -dsimp (disch := omega)
  obtain ⟨H, hH⟩ : ∃ H, H = (h.alloc ⟨#[.slice ag gs.length cg, .slice aw ws.length cw, .slice ac L.length cc], 1, true⟩).alloc ⟨#[.slice ag' gs.length cg', .slice aw' ws.length cw', .slice ac' L'.length cc'], 1, true⟩ := ⟨_, rfl⟩
  rw [← hH]
  have E : Ext h H := by rw [hH]; exact (Ext.alloc _ _).then_alloc _
  have En := E.le
  have Hn : H.next = h.next + 2 := by rw [hH]; simp
  have B1 : H.blks h.next = some ⟨#[.slice ag gs.length cg, .slice aw ws.length cw, .slice ac L.length cc], 1, true⟩ := by rw [hH, blks_alloc_ne _ _ _ (by simp)]; exact blks_alloc_eq _ _
  have B2 : H.blks (h.next + 1) = some ⟨#[.slice ag' gs.length cg', .slice aw' ws.length cw', .slice ac' L'.length cc'], 1, true⟩ := by rw [hH]; exact blks_alloc_eq (h.alloc _) _
  refine sameChannels_call (hv.c.ext E htc hto) (hv'.c.ext E htc' hto') hv.lc hL ?_
  have lg := hv.lg
  have lw := hv.lw
  simp -dsimp (disch := omega)
  refine awp_loop (fun t hh => hh = H ∧ ∃ k : Nat, k ≤ gs.length ∧ t 2 = ptr h.next ∧ t 3 = ptr (h.next + 1) ∧ t 4 = .bool false ∧ t 5 = .int .i64 k) (fun t _ => gs.length - ivN (t 5)) ?_ ?_
  · simp -dsimp (disch := omega)
    exact ⟨0, by omega, rfl⟩
  · rintro t hh ⟨hHH, k, hk, g2, g3, g4, g5⟩
    subst hh
    refine vcF_sound (tb := tb0) mixed _ (by kernel_rfl) ?_
    simp -dsimp (disch := omega) [g2, g5, B1]
    refine CondF_dec (fun hc => ?_) (fun hc => ?_)
    · obtain ⟨g, hx⟩ : ∃ g, gs[k]? = some g := ⟨gs[k], List.getElem?_eq_getElem hc⟩
      have gok := hv.gok g (List.mem_of_getElem? hx)
      obtain ⟨a1, c1, b1, q1, f1, s1, x1, y1⟩ := sl_el' (f := guC) (n := 20) (fun g hg => Gu.len (hv.gok g hg)) hv.g hx
      obtain ⟨a2, c2, b2, q2, f2, s2, x2, y2⟩ := sl_el' (f := guC) (n := 20) (fun g hg => Gu.len (hv.gok g hg)) hv'.g hx
      cases q1
      cases q2
      have l1 := htg _ rfl
      have l2 := htg' _ rfl
      rw [← E.same _ l1] at f1
      rw [← E.same _ l2] at f2
      clear y1 y2
      obtain ⟨gp, gl, gr, ga⟩ := g
      obtain ⟨u0, u1, u2, u3, u4, u5, u6, u7, u8, u9, w0, w1, w2, w3, w4, w5, w6, e⟩ := len17 gok.2.2.2.1
      simp only at e
      subst e
      simp only [guC, u8L, List.map_cons, List.map_nil, List.cons_append, List.nil_append] at x1 x2
      simp -dsimp (disch := omega) [g2, g3, g5, B1, B2, f1, f2, s1, s2, x1, x2]
      exact ⟨⟨k + 1, by omega, g4, by omega⟩, by simp [ivN]; omega⟩
    · simp -dsimp (disch := omega) [g2, g3, g4, g5, B1, B2]
      refine awp_loop (fun t hh => hh = H ∧ ∃ k : Nat, k ≤ ws.length ∧ t 2 = ptr h.next ∧ t 3 = ptr (h.next + 1) ∧ t 4 = .bool false ∧ t 6 = .int .i64 k) (fun t _ => ws.length - ivN (t 6)) ?_ ?_
      · simp -dsimp (disch := omega) [g2, g3, g4]
        exact ⟨0, by omega, rfl⟩
      · rintro t hh ⟨rfl, j, hj, k2, k3, k4, k6⟩
        refine vcF_sound (tb := tb0) mixed _ (by kernel_rfl) ?_
        simp -dsimp (disch := omega) [k2, k6, B1]
        refine CondF_dec (fun hc2 => ?_) (fun hc2 => ?_)
        · obtain ⟨w, hx⟩ : ∃ w, ws[j]? = some w := ⟨ws[j], List.getElem?_eq_getElem hc2⟩
          obtain ⟨wok1, wok2⟩ := hv.wok w (List.mem_of_getElem? hx)
          obtain ⟨a1, c1, b1, q1, f1, s1, x1, y1⟩ := sl_el (f := winC) (n := 2) winC_len hv.w hx
          obtain ⟨a2, c2, b2, q2, f2, s2, x2, y2⟩ := sl_el (f := winC) (n := 2) winC_len hv'.w hx
          cases q1
          cases q2
          have l1 := htw _ rfl
          have l2 := htw' _ rfl
          rw [← E.same _ l1] at f1
          rw [← E.same _ l2] at f2
          clear y1 y2
          have x1' : b1.cells.extract (a1.off + j * 2) (a1.off + j * 2 + 2) = #[.int .u8 w.g, .int .u16 w.s] := x1
          have x2' : b2.cells.extract (a2.off + j * 2) (a2.off + j * 2 + 2) = #[.int .u8 w.g, .int .u16 w.s] := x2
          simp -dsimp (disch := omega) [k2, k3, k6, B1, B2, f1, f2, s1, s2, x1', x2']
          exact ⟨⟨j + 1, by omega, k4, by omega⟩, by simp [ivN]; omega⟩
        · simp -dsimp (disch := omega) [k2, k3, k4, k6]
          exact RetF.same hwf (by simp) (Nat.zero_le _) E.same hK
end
end Go.Proofs.YtmnemfeofhinaaaDoor
namespace Go.Proofs.YtmnemfeofhinaaaDoor
set_option maxRecDepth 100000
open Go Go.Mini Go.Proofs.Tryd

def gB : List UInt8 := [65, 76, 67, 49, 1, 1, 5, 0, 0, 0, 2, 0, 0, 0, 0, 0, 0, 0, 0, 0, 0, 0, 0, 0, 0, 0, 0, 0, 1, 0, 3, 0, 0, 241, 77, 90, 6]
theorem chk_given : chkC [gGu] [gWi] [] = none := by kernel_rfl
theorem bld_given : bldO [gGu] [gWi] [] = gB := by kernel_rfl
theorem doc_given : docP gB = .inr ([gGu], [gWi], []) := by kernel_rfl
theorem doc_torn : docP magicL = .inl (sGuests, 0, 4) := by kernel_rfl
section
variable {h : Hp} {K : Value → Hp → Prop}
set_option maxHeartbeats 4000000 in
theorem awake_call (hE : HasErr h) (h100 : 100 < h.next) (hK : K (.bool true) h) : ACall prog 8 [] h K := by
  refine acallF_of tb0 func8 rfl rfl mixed (by kernel_rfl) fun hwf => ?_
  simp -dsimp (disch := omega)
  refine given_call fun h1 x1 n1 b1 b2 => ?_
  simp -dsimp (disch := omega)
  refine build_call (given_cfv b1 b2) fun h2 v x2 he => ?_
  have he : v = .nilIface := by
    have : erOf (chkC [gGu] [gWi] (List.map (·.1) ([] : List (Ch × Value)))) = .nil := by
      rw [show List.map (·.1) ([] : List (Ch × Value)) = [] from rfl, chk_given]; rfl
    rw [this] at he
    exact he
  subst he
  rw [show List.map (·.1) ([] : List (Ch × Value)) = [] from rfl, bld_given]
  simp -dsimp (disch := omega)
  refine parse_call (S := gB) (by decide) fun h3 v L vg vw vc x3 he hc hL => ?_
  have law := pr_doc gB
  rw [doc_given] at law
  obtain ⟨w1, w2, w3, w4⟩ := law
  rw [w1] at he hc hL
  rw [show orN (α := Gu) none (prG gB).1 = [gGu] from w2, show orN (α := Win) none (prW gB).1 = [gWi] from w3] at hc
  obtain rfl : v = .nilIface := he
  have hg0 : ([gGu] : List Gu)[0]? = some gGu := rfl
  obtain ⟨a1, c1, bb1, q1, f1, s1, z1, y1⟩ := sl_el' (f := guC) (n := 20) (fun g hg => Gu.len (hc.v.gok g hg)) hc.v.g hg0
  have hw0 : ([gWi] : List Win)[0]? = some gWi := rfl
  obtain ⟨a2, c2, bb2, q2, f2, s2, z2, y2⟩ := sl_el (f := winC) (n := 2) winC_len hc.v.w hw0
  obtain ⟨a3, c3, q3⟩ := hc.v.c.sl.slice
  subst q1 q2 q3
  have y1' : bb1.cells[a1.off + 1]? = some (.int .u32 5) := by have := y1 1 (by omega); rw [Nat.zero_mul, Nat.add_zero] at this; exact this
  have y2' : bb2.cells[a2.off + 1]? = some (.int .u16 3) := by have := y2 1 (by omega); rw [Nat.zero_mul, Nat.add_zero] at this; exact this
  have e37 : (txt gB).size = 37 := rfl
  have n1 : ¬ a1.block = h3.next := by have := hc.tg _ rfl; omega
  have n2 : ¬ a2.block = h3.next := by have := hc.tw _ rfl; omega
  have E3 : Ext h h3 := (x1.trans x2).trans x3
  simp -dsimp (disch := omega) [e37, n1, n2, f1, f2, y1', y2', -getElem?_pos]
  refine parses_call (S := magicL) (by decide) fun h4 v4 x4 he4 => ?_
  have law4 := pr_doc magicL
  rw [doc_torn] at law4
  rw [show prF magicL = some (sGuests, 0, 4) from law4] at he4
  have E4 : Ext h h4 := (E3.then_alloc _).trans x4
  simp -dsimp (disch := omega)
  refine faults_call (f := sGuests) (a := 0) (n := 4) he4 (hE.ext E4 h100) (Nat.lt_of_lt_of_le h100 E4.le) ?_
  simp -dsimp (disch := omega)
  exact RetF.same hwf (by simp) (Nat.zero_le _) E4.same hK
end
end Go.Proofs.YtmnemfeofhinaaaDoor
