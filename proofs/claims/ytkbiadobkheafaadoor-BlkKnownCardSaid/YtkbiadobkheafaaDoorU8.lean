/-
  A block device: a command ends; Tick.
-/
import Derived.Test.YtkbiadobkheafaaDoorU7
import Derived.Test.YtkbiadobkheafaaDoorM30
set_option linter.unusedSimpArgs false
set_option linter.unusedVariables false
set_option linter.unusedSectionVars false
namespace Go.Proofs.YtkbiadobkheafaaDoor
open Go Go.Mini Go.Proofs.Tryd
set_option maxRecDepth 100000

/-- A device beside a memory. -/
structure Dm (h : Hp) (p : Nat) (d : Dev) (pm b N C : Nat) (M : Nat → Nat) (a : Nat) (w : Int) : Prop where
  dev : h.blks p = some ⟨devC d, 1, true⟩
  ok : d.ok
  plt : p < h.next
  ram : Rm.Ram h pm b N C M a w
  p1 : p ≠ pm
  p2 : p ≠ b
def three (p pm b : Nat) (i : Nat) : Prop := i = p ∨ i = pm ∨ i = b
theorem Dm.fr {h h' : Hp} {p : Nat} {d : Dev} {pm b N C : Nat} {M : Nat → Nat} {a : Nat} {w : Int} {S : Nat → Prop} (m : Dm h p d pm b N C M a w) (f : Fr h h' S) (h1 : ¬ S p) (h2 : ¬ S pm) (h3 : ¬ S b) : Dm h' p d pm b N C M a w :=
  ⟨by rw [f.same _ m.plt h1]; exact m.dev, m.ok, Nat.lt_of_lt_of_le m.plt f.le, Ram_fr m.ram f h2 h3, m.p1, m.p2⟩
theorem Dm.setd {h : Hp} {p : Nat} {d : Dev} {pm b N C : Nat} {M : Nat → Nat} {a : Nat} {w : Int} (m : Dm h p d pm b N C M a w) {d' : Dev} (ok : d'.ok) : Dm (h.set p ⟨devC d', 1, true⟩) p d' pm b N C M a w :=
  ⟨blks_set_eq _ _ _, ok, m.plt, m.ram.mono (Nat.le_refl _) (blks_set_ne _ _ _ _ (Ne.symm m.p1)) (blks_set_ne _ _ _ _ (Ne.symm m.p2)), m.p1, m.p2⟩
def fits (d : Dev) (N : Nat) : Prop := d.us < 32 ∧ d.ua + 64 ≤ N
instance (d : Dev) (N : Nat) : Decidable (fits d N) := by unfold fits; infer_instance
def endD (d : Dev) (M : Nat → Nat) (N : Nat) : Dev :=
  if d.uc = 2 ∧ fits d N then { d with S := takeS d.S d.us M d.ua, st := 2, lf := 0 } else if d.uc = 1 ∧ fits d N then { d with st := 2, lf := 0 } else { d with st := 3, lf := 0 }
def endM (d : Dev) (M : Nat → Nat) (N : Nat) : Nat → Nat := if d.uc = 1 ∧ fits d N then lay M d.ua (bytesM d.S (d.us * 64) 64) else M
def endsB (d : Dev) : Prop := d.st = 1 ∧ d.lf ≤ 1
instance (d : Dev) : Decidable (endsB d) := by unfold endsB; infer_instance
def tickD (d : Dev) (M : Nat → Nat) (N : Nat) : Dev := if d.st ≠ 1 then d else if 1 < d.lf then { d with lf := d.lf - 1 } else endD d M N
def tickM (d : Dev) (M : Nat → Nat) (N : Nat) : Nat → Nat := if endsB d then endM d M N else M
theorem takeS_lt {S : Nat → Nat} {s : Nat} {M : Nat → Nat} {x : Nat} (h1 : ∀ i, S i < 256) (h2 : ∀ i, M i < 256) (i : Nat) : takeS S s M x i < 256 := by
  unfold takeS; split
  · exact h2 _
  · exact h1 _
theorem devC_st2 (d : Dev) : (devC d).setIfInBounds 7 (.int .u8 2) = devC { d with st := 2 } := devC_set7 d 2
theorem devC_st3 (d : Dev) : (devC d).setIfInBounds 7 (.int .u8 3) = devC { d with st := 3 } := devC_set7 d 3
section
variable {h : Hp} {K : Value → Hp → Prop} {p : Nat} {d : Dev} {pm b N C : Nat} {M : Nat → Nat} {a : Nat} {w : Int}
theorem end_call {s c x : Nat} (hb : h.blks p = some ⟨devC d, 1, true⟩) (hS : ∀ i, d.S i < 256) (r : Rm.Ram h pm b N C M a w) (hp : p < h.next)
    (hK1 : c = 1 → s < 32 ∧ x + 64 ≤ N → ∀ h', Rm.Ram h' pm b N C (lay M x (bytesM d.S (s * 64) 64)) (Rm.toA a x 64) (Rm.toW a w x 64) → Fr h h' (fun i => i = pm ∨ i = b) → K (.int .u8 2) h')
    (hK2 : c = 2 → s < 32 ∧ x + 64 ≤ N → ∀ h', h'.blks p = some ⟨devC { d with S := takeS d.S s M x }, 1, true⟩ → Fr h h' (fun i => i = p) → K (.int .u8 2) h')
    (hK3 : ¬ ((c = 1 ∨ c = 2) ∧ s < 32 ∧ x + 64 ≤ N) → ∀ h', Fr h h' (fun _ => False) → K (.int .u8 3) h') : ACall prog 34 [ptr p, memV pm, ordV s c x] h K := by
  refine acallF_of tb0 func34 rfl rfl mixed (by kernel_rfl) fun hwf => ?_
  simp -dsimp (disch := omega)
  refine ACallF.gen fun G hG => ?_
  have e0 : Ext h G := by rw [hG]; exact Ext.alloc _ _
  have hbx : G.blks h.next = some ⟨#[.int .u32 s, .int .u32 c, .int .u64 x], 1, true⟩ := by rw [hG]; exact blks_alloc_eq _ _
  clear hG
  have hb' : G.blks p = some ⟨devC d, 1, true⟩ := by rw [e0.same _ hp]; exact hb
  have r' := Ram_fr r (Fr.of_ext e0 fun _ => False) id id
  have hp' : p < G.next := Nat.lt_of_lt_of_le hp e0.le
  refine of_call (fun c1 => ?_) (fun c2 => ?_) (fun c1 c2 => ?_)
  · by_cases hs : s < 32
    · have hs' : ¬ 32 ≤ s := by omega
      have hs2 : ¬ (32 : Int) ≤ s := by omega
      simp -dsimp (disch := omega) [hbx, hs', hs2]
      refine put_call hb' hS r' hp' hs (fun hx h1 r1 f1 => ?_) (fun hx h1 f1 => ?_)
      · have hk := hK1 c1 ⟨hs, hx⟩ h1 r1 ((Fr.of_ext e0 _).trans f1 fun _ _ h => h)
        simp -dsimp (disch := omega)
        exact RetF.all (r := .int .u8 2) (by simp) hk
      · have hk := hK3 (fun q => hx q.2.2) h1 ((Fr.of_ext e0 _).trans f1 fun _ _ h => h)
        simp -dsimp (disch := omega)
        exact RetF.all (r := .int .u8 3) (by simp) hk
    · have hs' : 32 ≤ s := by omega
      have hs2 : (32 : Int) ≤ s := by omega
      have hk := hK3 (fun q => hs q.2.1) G (Fr.of_ext e0 _)
      simp -dsimp (disch := omega) [hbx, hs', hs2]
      exact RetF.all (r := .int .u8 3) (by simp) hk
  · by_cases hs : s < 32
    · have hs' : ¬ 32 ≤ s := by omega
      have hs2 : ¬ (32 : Int) ≤ s := by omega
      simp -dsimp (disch := omega) [hbx, hs', hs2]
      refine take_call hb' r' hp' hs (fun hx h1 r1 f1 => ?_) (fun hx h1 f1 => ?_)
      · have hk := hK2 c2 ⟨hs, hx⟩ h1 r1 ((Fr.of_ext e0 _).trans f1 fun _ _ h => h)
        simp -dsimp (disch := omega)
        exact RetF.all (r := .int .u8 2) (by simp) hk
      · have hk := hK3 (fun q => hx q.2.2) h1 ((Fr.of_ext e0 _).trans f1 fun _ _ h => h)
        simp -dsimp (disch := omega)
        exact RetF.all (r := .int .u8 3) (by simp) hk
    · have hs' : 32 ≤ s := by omega
      have hs2 : (32 : Int) ≤ s := by omega
      have hk := hK3 (fun q => hs q.2.1) G (Fr.of_ext e0 _)
      simp -dsimp (disch := omega) [hbx, hs', hs2]
      exact RetF.all (r := .int .u8 3) (by simp) hk
  · have hk := hK3 (fun q => q.1.elim c1 c2) G (Fr.of_ext e0 _)
    simp -dsimp (disch := omega)
    exact RetF.all (r := .int .u8 3) (by simp) hk
theorem endNil_call {s c x : Nat} (hK : ∀ h', Fr h h' (fun _ => False) → K (.int .u8 3) h') : ACall prog 34 [ptr p, .nilIface, ordV s c x] h K := by
  refine acallF_of tb0 func34 rfl rfl mixed (by kernel_rfl) fun hwf => ?_
  simp -dsimp (disch := omega)
  refine ACallF.gen fun G hG => ?_
  have e0 : Ext h G := by rw [hG]; exact Ext.alloc _ _
  clear hG
  have hk := hK G (Fr.of_ext e0 _)
  refine of_call (fun c1 => ?_) (fun c2 => ?_) (fun c1 c2 => ?_) <;>
    simp -dsimp (disch := omega) <;>
    exact RetF.all (r := .int .u8 3) (by simp) hk
theorem devC_run (d : Dev) : (devC d).extract 4 7 = #[.int .u32 d.us, .int .u32 d.uc, .int .u64 d.ua] := by
  apply Array.ext_getElem?
  intro i
  rw [Array.getElem?_extract]
  match i with
  | 0 => rw [if_pos (by simp), devC_at d (by omega)]; rfl
  | 1 => rw [if_pos (by simp), devC_at d (by omega)]; rfl
  | 2 => rw [if_pos (by simp), devC_at d (by omega)]; rfl
  | i + 3 => rw [if_neg (by simp)]; simp
theorem tick_call (m : Dm h p d pm b N C M a w) (hK : ∀ h' a' w', Dm h' p (tickD d M N) pm b N C (tickM d M N) a' w' → Fr h h' (three p pm b) → K (.bool (decide (endsB d))) h') : ACall prog 12 [ptr p, memV pm] h K := by
  refine acallF_of tb0 func12 rfl rfl mixed (by kernel_rfl) fun hwf => ?_
  have hd := m.ok
  simp -dsimp (disch := omega)
  refine is_call m.dev ?_
  by_cases c1 : d.st = 1
  · obtain ⟨k, hk⟩ : ∃ k, d.lf = k + 1 := ⟨d.lf - 1, by have := hd.run c1; omega⟩
    have hl := hd.lf
    obtain ⟨d1, hd1⟩ : ∃ d1 : Dev, d1 = { d with lf := k } := ⟨_, rfl⟩
    have x7 := devC_7 d
    have x8 := devC_8 d
    have y8 := devC_set8 d k
    have z8 := devC_8 d1
    have zr := devC_run d1
    have hb := m.dev
    have cs : (devC d).size = 2058 := by simp
    have cs1 : (devC d1).size = 2058 := by simp
    rw [← hd1] at y8
    rw [c1] at x7
    rw [hk] at x8
    rw [show d1.lf = k from by rw [hd1]] at z8
    have u1 : d1.us = d.us := by rw [hd1]
    have u2 : d1.uc = d.uc := by rw [hd1]
    have u3 : d1.ua = d.ua := by rw [hd1]
    have u4 : d1.S = d.S := by rw [hd1]
    rw [u1, u2, u3] at zr
    have b1 := blks_set_eq h p ⟨devC d1, 1, true⟩
    obtain ⟨H, hH⟩ : ∃ H, H = h.set p ⟨devC d1, 1, true⟩ := ⟨_, rfl⟩
    have f1 : Fr h H (three p pm b) := by rw [hH]; exact Fr.set h _ (.inl rfl)
    rw [← hH] at b1
    obtain ⟨cc, hc⟩ : ∃ c, c = devC d := ⟨_, rfl⟩
    obtain ⟨cc1, hc1⟩ : ∃ c, c = devC d1 := ⟨_, rfl⟩
    rw [← hc] at x7 x8 y8 hb cs
    rw [← hc1] at y8 z8 zr b1 hH cs1
    by_cases c2 : k = 0
    · subst c2
      have hE : endsB d := ⟨c1, by omega⟩
      rw [decide_eq_true hE] at hK
      have bM : H.blks pm = h.blks pm := by rw [hH]; exact blks_set_ne _ _ _ _ (Ne.symm m.p1)
      have bB : H.blks b = h.blks b := by rw [hH]; exact blks_set_ne _ _ _ _ (Ne.symm m.p2)
      have hn : H.next = h.next := by rw [hH]; rfl
      have r1 : Rm.Ram H pm b N C M a w := m.ram.mono (Nat.le_of_eq hn.symm) bM bB
      have y72 := devC_st2 d1
      have y73 := devC_st3 d1
      have hu : d1.us < 4294967296 := by rw [u1]; exact hd.us
      have hue : d.uc < 4294967296 := hd.uc
      have hua : d1.ua < 18446744073709551616 := by rw [u3]; exact hd.ua
      have okv : ∀ st S, st < 4 → st ≠ 1 → (∀ i, S i < 256) → ({ d1 with st := st, S := S } : Dev).ok := fun st S h1 h2 h3 => by
        rw [hd1]; exact ⟨hd.rs, hd.rc, hd.ra, hd.us, hd.uc, hd.ua, h1, by show 0 < 4294967296; omega, hd.dl, h3, fun q => absurd q h2⟩
      have et : tickD d M N = endD d M N := by unfold tickD; rw [if_neg (by omega), if_neg (by omega)]
      have em : tickM d M N = endM d M N := by unfold tickM; rw [if_pos hE]
      rw [et, em] at hK
      have hS1 : ∀ i, d1.S i < 256 := by rw [u4]; exact hd.S
      have hpn : p < H.next := by rw [hn]; exact m.plt
      have y80 : cc.setIfInBounds 8 (.int .u32 0) = cc1 := y8
      have x80 : cc[8]? = some (.int .u32 1) := x8
      have z80 : cc1[8]? = some (.int .u32 0) := z8
      simp -dsimp (disch := omega) [hb, x7, x80, y80, cs, ← hH, b1, z80, zr, -getElem?_pos]
      refine end_call (d := d1) (by rw [← hc1]; exact b1) hS1 r1 hpn (fun e1 hx h1 r2 f2 => ?_) (fun e1 hx h1 b2 f2 => ?_) (fun hx h1 f2 => ?_)
      · have hfit : fits d N := hx
        have b2 : h1.blks p = some ⟨cc1, 1, true⟩ := by rw [f2.same p hpn (fun q => q.elim m.p1 m.p2)]; exact b1
        rw [u4] at r2
        have ee : endD d M N = { d1 with st := 2, lf := 0 } := by unfold endD; rw [if_neg (fun q => by omega), if_pos ⟨e1, hfit⟩, hd1]
        have em : endM d M N = lay M d.ua (bytesM d.S (d.us * 64) 64) := by unfold endM; rw [if_pos ⟨e1, hfit⟩]
        rw [ee, em] at hK
        have l0 : ({ d1 with st := 2, lf := 0 } : Dev) = { d1 with st := 2 } := by rw [hd1]
        rw [l0] at hK
        have hk := hK (h1.set p ⟨devC { d1 with st := 2 }, 1, true⟩) _ _ ⟨blks_set_eq _ _ _, okv 2 d1.S (by omega) (by omega) hS1, Nat.lt_of_lt_of_le hpn f2.le, Ram_fr r2 (Fr.set h1 (p := p) ⟨devC { d1 with st := 2 }, 1, true⟩ (S := fun i => i = p) rfl) (Ne.symm m.p1) (Ne.symm m.p2), m.p1, m.p2⟩
          ((f1.trans f2 fun i _ q => .inr q).trans (Fr.set h1 (p := p) _ (S := fun i => i = p) rfl) fun i _ q => .inl q)
        rw [← hc1] at y72
        clear hc hc1
        simp -dsimp (disch := omega) [b2, cs1, y72, -getElem?_pos]
        exact RetF.all (r := .bool true) (by simp) hk
      · have hfit : fits d N := hx
        rw [u4] at b2
        have e2 : ¬ (d.uc = 1 ∧ fits d N) := fun q => by omega
        have ee : endD d M N = { d1 with S := takeS d.S d.us M d.ua, st := 2, lf := 0 } := by unfold endD; rw [if_pos ⟨e1, hfit⟩, hd1]
        have em : endM d M N = M := by unfold endM; rw [if_neg e2]
        rw [ee, em] at hK
        have l0 : ({ d1 with S := takeS d.S d.us M d.ua, st := 2, lf := 0 } : Dev) = { d1 with S := takeS d.S d.us M d.ua, st := 2 } := by rw [hd1]
        rw [l0] at hK
        have y := devC_st2 { d1 with S := takeS d.S d.us M d.ua }
        have y2 : ({ ({ d1 with S := takeS d.S d.us M d.ua } : Dev) with st := 2 } : Dev) = { d1 with S := takeS d.S d.us M d.ua, st := 2 } := rfl
        rw [y2] at y
        have hk := hK (h1.set p ⟨devC { d1 with S := takeS d.S d.us M d.ua, st := 2 }, 1, true⟩) _ _ ⟨blks_set_eq _ _ _, okv 2 _ (by omega) (by omega) (takeS_lt hd.S r1.M8), Nat.lt_of_lt_of_le hpn f2.le, Ram_fr (Ram_fr r1 f2 (Ne.symm m.p1) (Ne.symm m.p2)) (Fr.set h1 (p := p) ⟨devC { d1 with S := takeS d.S d.us M d.ua, st := 2 }, 1, true⟩ (S := fun i => i = p) rfl) (Ne.symm m.p1) (Ne.symm m.p2), m.p1, m.p2⟩
          ((f1.trans f2 fun i _ q => .inl q).trans (Fr.set h1 (p := p) _ (S := fun i => i = p) rfl) fun i _ q => .inl q)
        obtain ⟨cc2, hc2⟩ : ∃ c, c = devC { d1 with S := takeS d.S d.us M d.ua } := ⟨_, rfl⟩
        have cs2 : cc2.size = 2058 := by rw [hc2]; simp
        rw [← hc2] at y b2
        clear hc hc1 hc2
        simp -dsimp (disch := omega) [b2, cs2, y, -getElem?_pos]
        exact RetF.all (r := .bool true) (by simp) hk
      · have ex : ∀ q : d.uc = 1 ∨ d.uc = 2, ¬ fits d N := fun q hf => hx ⟨q, hf⟩
        have b2 : h1.blks p = some ⟨cc1, 1, true⟩ := by rw [f2.same p hpn id]; exact b1
        have ee : endD d M N = { d1 with st := 3, lf := 0 } := by unfold endD; rw [if_neg (fun q => ex (.inr q.1) q.2), if_neg (fun q => ex (.inl q.1) q.2), hd1]
        have em : endM d M N = M := by unfold endM; rw [if_neg (fun q => ex (.inl q.1) q.2)]
        rw [ee, em] at hK
        have l0 : ({ d1 with st := 3, lf := 0 } : Dev) = { d1 with st := 3 } := by rw [hd1]
        rw [l0] at hK
        have hk := hK (h1.set p ⟨devC { d1 with st := 3 }, 1, true⟩) _ _ ⟨blks_set_eq _ _ _, okv 3 d1.S (by omega) (by omega) hS1, Nat.lt_of_lt_of_le hpn f2.le, Ram_fr (Ram_fr r1 f2 id id) (Fr.set h1 (p := p) ⟨devC { d1 with st := 3 }, 1, true⟩ (S := fun i => i = p) rfl) (Ne.symm m.p1) (Ne.symm m.p2), m.p1, m.p2⟩
          ((f1.trans f2 fun i _ q => q.elim).trans (Fr.set h1 (p := p) _ (S := fun i => i = p) rfl) fun i _ q => .inl q)
        rw [← hc1] at y73
        clear hc hc1
        simp -dsimp (disch := omega) [b2, cs1, y73, -getElem?_pos]
        exact RetF.all (r := .bool true) (by simp) hk
    · have c2' : ¬ (k : Int) ≤ 0 := by omega
      have c3' : (0 : Int) < k := by omega
      have c4 : 0 < k := by omega
      have hE : ¬ endsB d := fun q => by have := q.2; omega
      rw [decide_eq_false hE] at hK
      have m1 : Dm H p d1 pm b N C M a w := by
        rw [hH, hc1]
        exact m.setd (by rw [hd1]; exact ⟨hd.rs, hd.rc, hd.ra, hd.us, hd.uc, hd.ua, hd.st, by show k < 4294967296; omega, hd.dl, hd.S, fun _ => by show 0 < k; omega⟩)
      have et : tickD d M N = d1 := by unfold tickD; rw [if_neg (by omega), if_pos (by omega), hd1, hk, Nat.add_sub_cancel]
      have em : tickM d M N = M := by unfold tickM; rw [if_neg hE]
      rw [et, em] at hK
      have hk2 := hK H a w m1 f1
      clear hc hc1
      simp -dsimp (disch := omega) [hb, x7, x8, y8, cs, c2, c2', c3', ← hH, b1, z8, -getElem?_pos, c4]
      exact RetF.all (r := .bool false) (by simp) hk2
  · have hE : ¬ endsB d := fun q => c1 q.1
    rw [decide_eq_false hE] at hK
    have et : tickD d M N = d := by unfold tickD; rw [if_pos c1]
    have em : tickM d M N = M := by unfold tickM; rw [if_neg hE]
    rw [et, em] at hK
    have hk := hK h a w m (Fr.refl _ _)
    have x7 := devC_7 d
    have hb := m.dev
    have c1' : ¬ (d.st : Int) = 1 := by omega
    obtain ⟨st, hst⟩ : ∃ st, st = d.st := ⟨_, rfl⟩
    have h4 := hd.st
    rw [← hst] at x7 c1 c1' h4
    obtain ⟨cc, hc⟩ : ∃ c, c = devC d := ⟨_, rfl⟩
    rw [← hc] at x7 hb
    clear hc
    simp -dsimp (disch := omega) [hb, x7, c1, c1', -getElem?_pos]
    exact RetF.all (r := .bool false) (by simp) hk
/-- Without a memory. -/
def tickN (d : Dev) : Dev := if d.st ≠ 1 then d else if 1 < d.lf then { d with lf := d.lf - 1 } else { d with st := 3, lf := 0 }
theorem tickN_ok {d : Dev} (h : d.ok) : (tickN d).ok := by
  unfold tickN
  split
  · exact h
  · rename_i c
    split
    · exact ⟨h.rs, h.rc, h.ra, h.us, h.uc, h.ua, h.st, by have := h.lf; show d.lf - 1 < 4294967296; omega, h.dl, h.S, fun _ => by show 0 < d.lf - 1; omega⟩
    · exact ⟨h.rs, h.rc, h.ra, h.us, h.uc, h.ua, by show 3 < 4; omega, by show 0 < 4294967296; omega, h.dl, h.S, fun q => by have : (3 : Nat) = 1 := q; omega⟩
theorem tickNil_call (hb : h.blks p = some ⟨devC d, 1, true⟩) (hd : d.ok) (hp : p < h.next) (hK : ∀ h', h'.blks p = some ⟨devC (tickN d), 1, true⟩ → Fr h h' (fun i => i = p) → K (.bool (decide (endsB d))) h') : ACall prog 12 [ptr p, .nilIface] h K := by
  refine acallF_of tb0 func12 rfl rfl mixed (by kernel_rfl) fun hwf => ?_
  simp -dsimp (disch := omega)
  refine is_call hb ?_
  by_cases c1 : d.st = 1
  · obtain ⟨k, hk⟩ : ∃ k, d.lf = k + 1 := ⟨d.lf - 1, by have := hd.run c1; omega⟩
    have hl := hd.lf
    obtain ⟨d1, hd1⟩ : ∃ d1 : Dev, d1 = { d with lf := k } := ⟨_, rfl⟩
    have x7 := devC_7 d
    have x8 := devC_8 d
    have y8 := devC_set8 d k
    have z8 := devC_8 d1
    have zr := devC_run d1
    have cs : (devC d).size = 2058 := by simp
    have cs1 : (devC d1).size = 2058 := by simp
    rw [← hd1] at y8
    rw [c1] at x7
    rw [hk] at x8
    rw [show d1.lf = k from by rw [hd1]] at z8
    have y73 := devC_st3 d1
    have b1 := blks_set_eq h p ⟨devC d1, 1, true⟩
    obtain ⟨H, hH⟩ : ∃ H, H = h.set p ⟨devC d1, 1, true⟩ := ⟨_, rfl⟩
    have f1 : Fr h H (fun i => i = p) := by rw [hH]; exact Fr.set h _ rfl
    have hn : H.next = h.next := by rw [hH]; rfl
    rw [← hH] at b1
    obtain ⟨cc, hc⟩ : ∃ c, c = devC d := ⟨_, rfl⟩
    obtain ⟨cc1, hc1⟩ : ∃ c, c = devC d1 := ⟨_, rfl⟩
    rw [← hc] at x7 x8 y8 hb cs
    rw [← hc1] at y8 z8 zr b1 hH cs1 y73
    by_cases c2 : k = 0
    · subst c2
      have hE : endsB d := ⟨c1, by omega⟩
      rw [decide_eq_true hE] at hK
      have et : tickN d = { d1 with st := 3 } := by unfold tickN; rw [if_neg (by omega), if_neg (by omega), hd1]
      rw [et] at hK
      have y80 : cc.setIfInBounds 8 (.int .u32 0) = cc1 := y8
      have x80 : cc[8]? = some (.int .u32 1) := x8
      have z80 : cc1[8]? = some (.int .u32 0) := z8
      simp -dsimp (disch := omega) [hb, x7, x80, y80, cs, ← hH, b1, z80, zr, -getElem?_pos]
      refine endNil_call fun h1 f2 => ?_
      have b2 : h1.blks p = some ⟨cc1, 1, true⟩ := by rw [f2.same p (by rw [hn]; exact hp) id]; exact b1
      have hk := hK (h1.set p ⟨devC { d1 with st := 3 }, 1, true⟩) (blks_set_eq _ _ _) ((f1.trans f2 fun i _ q => q.elim).trans (Fr.set h1 (p := p) _ (S := fun i => i = p) rfl) fun i _ q => q)
      clear hc hc1
      simp -dsimp (disch := omega) [b2, cs1, y73, -getElem?_pos]
      exact RetF.all (r := .bool true) (by simp) hk
    · have c2' : ¬ (k : Int) ≤ 0 := by omega
      have c3' : (0 : Int) < k := by omega
      have c4 : 0 < k := by omega
      have hE : ¬ endsB d := fun q => by have := q.2; omega
      rw [decide_eq_false hE] at hK
      have et : tickN d = d1 := by unfold tickN; rw [if_neg (by omega), if_pos (by omega), hd1, hk, Nat.add_sub_cancel]
      rw [et] at hK
      have hk2 := hK H (by rw [← hc1]; exact b1) f1
      clear hc hc1
      simp -dsimp (disch := omega) [hb, x7, x8, y8, cs, c2, c2', c3', ← hH, b1, z8, -getElem?_pos, c4]
      exact RetF.all (r := .bool false) (by simp) hk2
  · have hE : ¬ endsB d := fun q => c1 q.1
    rw [decide_eq_false hE] at hK
    have et : tickN d = d := by unfold tickN; rw [if_pos c1]
    rw [et] at hK
    have hk := hK h hb (Fr.refl _ _)
    have x7 := devC_7 d
    have c1' : ¬ (d.st : Int) = 1 := by omega
    obtain ⟨st, hst⟩ : ∃ st, st = d.st := ⟨_, rfl⟩
    have h4 := hd.st
    rw [← hst] at x7 c1 c1' h4
    obtain ⟨cc, hc⟩ : ∃ c, c = devC d := ⟨_, rfl⟩
    rw [← hc] at x7 hb
    clear hc
    simp -dsimp (disch := omega) [hb, x7, c1, c1', -getElem?_pos]
    exact RetF.all (r := .bool false) (by simp) hk
end
end Go.Proofs.YtkbiadobkheafaaDoor
