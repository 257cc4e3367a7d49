/-
  ImageSpoilt's body.
-/
import Derived.Test.YtcbagjhbmdmjfaaDoorL2
set_option linter.unusedSimpArgs false
set_option linter.unusedVariables false
set_option linter.unusedSectionVars false
namespace Go.Proofs.YtcbagjhbmdmjfaaDoor
set_option maxRecDepth 100000
open Go Go.Mini Go.Proofs.Tryd

theorem xor_ne (b c : Int) (hb : 0 ≤ b ∧ b ≤ 255) (hc : 1 ≤ c ∧ c ≤ 255) :
    (((UInt8.ofNat (IntKind.u8.wrap ((((b % 2 ^ IntKind.u8.bits).toNat ^^^ (c % 2 ^ IntKind.u8.bits).toNat : Nat)) : Int)).toNat).toNat : Nat) : Int) ≠ b := by
  obtain ⟨b, rfl⟩ := Int.eq_ofNat_of_zero_le hb.1
  obtain ⟨c, rfl⟩ := Int.eq_ofNat_of_zero_le (show 0 ≤ c by omega)
  have e1 : ((b : Int) % 2 ^ IntKind.u8.bits).toNat = b := by rw [show (2 : Int) ^ IntKind.u8.bits = 256 from rfl]; omega
  have e2 : ((c : Int) % 2 ^ IntKind.u8.bits).toNat = c := by rw [show (2 : Int) ^ IntKind.u8.bits = 256 from rfl]; omega
  rw [e1, e2]
  have hlt : b ^^^ c < 2 ^ 8 := Nat.xor_lt_two_pow (by omega) (by omega)
  rw [IntWalk.u8_in _ (by omega), ofNat_toNat _ (by omega)]
  intro h
  have h1 : b ^^^ c = b := by omega
  have h2 : b ^^^ (b ^^^ c) = c := by rw [← Nat.xor_assoc, Nat.xor_self, Nat.zero_xor]
  rw [h1, Nat.xor_self] at h2
  omega
theorem xor_ne2 (x : Int) (c : Nat) (hx : 0 ≤ x ∧ x ≤ 255) (hc : 1 ≤ c ∧ c ≤ 255) :
    (((UInt8.ofNat (IntKind.u8.wrap ((((x % 2 ^ IntKind.u8.bits).toNat ^^^ c % 2 ^ IntKind.u8.bits : Nat)) : Int)).toNat).toNat : Nat) : Int) ≠ x := by
  have h := xor_ne x c hx (by omega)
  have e : ((c : Int) % 2 ^ IntKind.u8.bits).toNat = c % 2 ^ IntKind.u8.bits := by
    rw [show (2 : Int) ^ IntKind.u8.bits = 256 from rfl, show (2 : Nat) ^ IntKind.u8.bits = 256 from rfl]; omega
  rw [e] at h
  exact h
/-- A text of which one byte is changed has a fault. -/
theorem spoilt_flt {x : Nat} {l : List Sg} {i : Nat} {c' : UInt8} (hi : i < (bldS x l).length) (hc : (c'.toNat : Int) ≠ bAt (txt (bldS x l)) i) :
    ∃ z, prE ((bldS x l).take i ++ c' :: (bldS x l).drop (i + 1)) 16 = .flt z.1 z.2.1 z.2.2 ∧ FltOk ((bldS x l).take i ++ c' :: (bldS x l).drop (i + 1)) z := by
  obtain ⟨c, hcc⟩ : ∃ c, (bldS x l)[i]? = some c := ⟨_, List.getElem?_eq_getElem hi⟩
  have e2 : bAt (txt (bldS x l)) i = c.toNat := by unfold bAt; rw [txt_data, hcc]; rfl
  have e1 : bldS x l = (bldS x l).take i ++ c :: (bldS x l).drop (i + 1) := by
    have := (List.take_append_drop i (bldS x l)).symm
    rw [drop_cons hcc] at this
    exact this
  unfold prE
  rw [if_neg (by decide)]
  cases hd : docP ((bldS x l).take i ++ c' :: (bldS x l).drop (i + 1)) 2147483648 (endP (Int.toNat 16)) with
  | bad z => exact ⟨z, rfl, docP_bad hd⟩
  | good x' l' =>
    have := (docP_inv hd).1
    exact absurd (spoilt e1 this.symm) (fun h => hc (by rw [e2, h]))
theorem bld_len {x : Nat} {l : List Sg} {n : Int} (h : chkI x l n = 0) : 17 ≤ (bldS x l).length ∧ (bldS x l).length ≤ 524377 := by
  obtain ⟨h1, h2⟩ := chkI_small h
  have := flat_le (l := l) fun g hg => (h2 g hg).2
  have e : (bldS x l).length = (13 + (l.flatMap recS).length) + 4 := by
    unfold bldS bodyS
    rw [List.length_append, List.length_append, headS_length, digs_length]
  omega
def tb6 : Nat → Marks := fun k => if k = 5 then ⟨[1000000, 2000020], fun _ => True⟩ else ⟨[], fun _ => True⟩
theorem imageSpoilt_call {x : Nat} {l : List Sg} {v : Value} {a b : Nat} {h : Hp} {K : Value → Hp → Prop} (hE : HasErr h) (hn : 100 < h.next) (hx : x < 18446744073709551616) (ha : a < 65536) (hb : b < 256) (hv : Sl h 2 l.length (sgC l) v) (hl : ∀ g ∈ l, g.ok) (hL : l.length < 9223372036854775808) (hK : ∀ h', K (.bool true) h') : ACall prog 6 [imV x v, .int .u16 a, .int .u8 b] h K := by
  refine acallF_of tb6 func6 rfl rfl mixed (by kernel_rfl) fun hwf => ?_
  have hvb := sblk_lt (n := h.next) (v := v) (by have := hwf.args (imV x v) (by simp); simp [imV, vtop, vtopL] at this; omega)
  obtain ⟨va, vc, rfl⟩ := hv.slice
  simp -dsimp (disch := omega) [imV]
  obtain ⟨H, hH⟩ : ∃ H, H = h.alloc ⟨#[.int .u64 x, .slice va l.length vc], 1, true⟩ := ⟨_, rfl⟩
  have xH : Ext h H := by rw [hH]; exact Ext.alloc _ _
  have nH : H.next = h.next + 1 := by rw [hH]; simp
  have bH : H.blks h.next = some ⟨#[.int .u64 x, .slice va l.length vc], 1, true⟩ := by rw [hH]; exact blks_alloc_eq _ _
  rw [← hH]
  have aw : ∀ {h'}, Ext H h' → HasErr h' := fun e => (hE.ext xH hn).ext e (by omega)
  have sl : ∀ {h'}, Ext H h' → Sl h' 2 l.length (sgC l) (.slice va l.length vc) := fun e => Sl.ext hv (xH.trans e) hvb
  refine build_call (x := x) hx (sl (Ext.refl _)) hl hL (fun hc => ?_) (fun hc => ?_)
  · obtain ⟨R, hR⟩ : ∃ R, R = chkI x l 16 := ⟨_, rfl⟩
    rw [← hR] at hc ⊢
    simp -dsimp (disch := omega) [bH]
    refine few_call (x := x) (sl (Ext.refl _)) hl hL (fun f1 f2 => ?_) ?_
    · simp -dsimp (disch := omega) [hc]
      refine awake_call (aw (Ext.refl _)) (by omega) ?_
      simp -dsimp (disch := omega)
      exact RetF.all (by simp) (hK _)
    · simp -dsimp (disch := omega)
      refine awake_call (aw (Ext.refl _)) (by omega) ?_
      simp -dsimp (disch := omega)
      exact RetF.all (by simp) (hK _)
  · have hbl := bld_len hc
    have hsf : ∀ {i c'}, _ := fun {i c'} => spoilt_flt (x := x) (l := l) (i := i) (c' := c')
    obtain ⟨B, hB⟩ : ∃ B, B = bldS x l := ⟨_, rfl⟩
    rw [← hB] at hbl hsf ⊢
    simp -dsimp (disch := omega) [bH]
    refine few_call (x := x) (sl (Ext.refl _)) hl hL (fun f1 f2 => ?_) ?_
    rotate_left
    · simp -dsimp (disch := omega)
      refine awake_call (aw (Ext.refl _)) (by omega) ?_
      simp -dsimp (disch := omega)
      exact RetF.all (by simp) (hK _)
    by_cases hb0 : b = 0
    · subst hb0
      simp -dsimp (disch := omega)
      refine awake_call (aw (Ext.refl _)) (by omega) ?_
      simp -dsimp (disch := omega)
      exact RetF.all (by simp) (hK _)
    have hb0' : ¬ (b : Int) = 0 := by omega
    have hsz : (txt B).size = B.length := rfl
    have hnz : ¬ B = [] := fun e => by rw [e] at hbl; simp at hbl
    obtain ⟨N, hN⟩ : ∃ N, N = B.length := ⟨_, rfl⟩
    have hNi : ¬ (N : Int) = 0 := by omega
    have hNn : ¬ N = 0 := by omega
    rw [← hN] at hsz
    obtain ⟨i, hi⟩ : ∃ i, i = a % N := ⟨_, rfl⟩
    have hi1 : i < N := by rw [hi]; exact Nat.mod_lt _ (by omega)
    have hi2 : (a : Int) % N = i := by rw [hi]; omega
    have x1 : (txt B).extract 0 i = txt (B.take i) := by rw [ext_txt]; rfl
    have x2 : (txt B).extract (i + 1) N = txt (B.drop (i + 1)) := by
      rw [ext_txt, List.take_of_length_le (by rw [List.length_drop]; omega)]
    have y1 : (txt (B.take i)).size = i := by rw [txt_size, List.length_take]; omega
    have y2 : (txt (B.drop (i + 1))).size = N - (i + 1) := by rw [txt_size, List.length_drop]; omega
    simp -dsimp (disch := first | omega | (simp; omega)) [hb0, hb0', hsz, hNi, hNn, hi2, x1, x2, y1, y2, tb6]
    obtain ⟨C, hC⟩ : ∃ C : UInt8, C = UInt8.ofNat (IntKind.u8.wrap ((((bAt (txt B) i % 2 ^ IntKind.u8.bits).toNat ^^^ b % 2 ^ IntKind.u8.bits : Nat)) : Int)).toNat := ⟨_, rfl⟩
    have hCn : (C.toNat : Int) ≠ bAt (txt B) i := by rw [hC]; exact xor_ne2 _ _ (bAt_range _ _) (by omega)
    rw [← hC]
    obtain ⟨z, hz, hz1, hz2, hz3, hz4⟩ := hsf (i := i) (c' := C) (by omega) hCn
    have hTl : (B.take i ++ C :: B.drop (i + 1)).length = N := by rw [List.length_append, List.length_cons, List.length_take, List.length_drop]; omega
    rw [hTl] at hz3
    refine parse_call (by omega) fun h1 w er e1 ie ir => ?_
    rw [(err_flt hz).2] at ir
    rw [(err_flt hz).1]
    rw [hz] at ie
    obtain ⟨wa, wc, rfl⟩ := ir.slice
    obtain ⟨p, rfl, hp, hpn⟩ := ie
    have eH : Ext H h1 := (Ext.alloc _ _).trans e1
    have n1 := e1.le
    simp only [Hp.next_alloc] at n1
    obtain ⟨F, A, E⟩ := z
    simp only at hz1 hz2 hz3 hz4 hp
    simp -dsimp (disch := omega) [imV, tb6]
    obtain ⟨h5, hh5⟩ : ∃ h5, h5 = h1.alloc ⟨#[.int .u64 0, .slice wa 0 wc], 1, true⟩ := ⟨_, rfl⟩
    have e5 : Ext h1 h5 := by rw [hh5]; exact Ext.alloc _ _
    have n5 := e5.le
    have hp5 : h5.blks p = some (faultB F A E) := (e5.same _ hpn).trans hp
    have hE5 := aw (eH.trans e5)
    have ie5 : IsEr h5 (.flt F A E) (.iface 70 (.pointer (some ⟨p, 0, none⟩))) := ⟨p, rfl, hp5, by omega⟩
    have hh5' : h1.alloc ⟨#[.int .u64 ((0 : Nat) : Int), .slice wa (List.length ([] : List Sg)) wc], 1, true⟩ = h5 := hh5.symm
    refine code_call (e := .flt F A E) (by first | exact ie5 | (rw [hh5] at ie5; exact ie5)) (by first | exact hE5 | (rw [hh5] at hE5; exact hE5)) (by simp; omega) ?_
    rw [← hh5]
    simp -dsimp (disch := omega) [Er.code]
    refine awp_loop (fun t h' => h' = h5 ∧ ∃ k : Nat, k ≤ 15 ∧ t 7 = .string (txt B) ∧ t 11 = .iface 70 (.pointer (some ⟨p, 0, none⟩)) ∧ t 12 = .int .i64 E ∧ t 13 = .int .i64 (k : Nat)) (fun t _ => 15 - ivN (t 13)) ?_ ?_
    · simp -dsimp (disch := omega)
      exact ⟨0, by omega, rfl⟩
    · rintro t _ ⟨rfl, k, hk, v7, v11, v12, v13⟩
      refine vcF_sound mixed (tb := tb6) _ (by kernel_rfl) ?_
      simp -dsimp (disch := omega) [v13]
      by_cases hc : k < 15
      · have hc' : (k : Int) ≤ 14 := by omega
        have hc2 : k ≤ 14 := by omega
        simp -dsimp (disch := omega) [v11, v12, v13, hc', hc2]
        refine is_fault_call hp5 ?_
        by_cases hk : E = (k : Int)
        · have hk2 : (E == (k : Int)) = true := by simp [hk]
          rw [hk2]
          simp -dsimp (disch := omega) [v11, v12, v13, hk]
          exact ⟨⟨k + 1, by omega, v7, by simp⟩, by simp [ivN]; omega⟩
        · have hk2 : (E == (k : Int)) = false := by simp [hk]
          have hk3 : ¬ (k : Int) = E := fun e => hk e.symm
          rw [hk2]
          simp -dsimp (disch := omega) [v11, v12, v13, hk, hk3]
          exact ⟨⟨k + 1, by omega, v7, by simp⟩, by simp [ivN]; omega⟩
      · have hk' : k = 15 := by omega
        subst hk'
        simp -dsimp (disch := omega) [v7, v11, v12, v13]
        refine where_call ie5 hE5 (by omega) ?_
        simp -dsimp (disch := omega) [Er.field, Er.place, v7, v11, v12, v13, hz1, hz2, hz3, hz4, hsz]
        refine awake_call hE5 (by omega) ?_
        simp -dsimp (disch := omega)
        exact RetF.all (by simp) (hK _)
end Go.Proofs.YtcbagjhbmdmjfaaDoor
