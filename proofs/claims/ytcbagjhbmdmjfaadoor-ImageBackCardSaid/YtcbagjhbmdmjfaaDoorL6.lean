/-
  ImageBack's body.
-/
import Derived.Test.YtcbagjhbmdmjfaaDoorL5
import Derived.Test.YtcbagjhbmdmjfaaDoorM22
set_option linter.unusedSimpArgs false
set_option linter.unusedVariables false
set_option linter.unusedSectionVars false
namespace Go.Proofs.YtcbagjhbmdmjfaaDoor
set_option maxRecDepth 100000
open Go Go.Mini Go.Proofs.Tryd

theorem good_bld {x : Nat} {l : List Sg} {n : Int} (hx : x < 18446744073709551616) (hl : ∀ g ∈ l, g.a < 18446744073709551616) (h : chkI x l n = 0) : docP (bldS x l) 2147483648 (endP n.toNat) = .good x l := by
  obtain ⟨h1, h2, h3, h4, h5⟩ := chkI_zero h
  have d := docP_app (f := 2147483648) (e := endP n.toNat) [] hx hl h3 h4 h5
  rw [List.append_nil, if_pos rfl] at d
  exact d
theorem parse_cut {x : Nat} {l : List Sg} {n : Int} {k : Nat} (hx : x < 18446744073709551616) (hl : ∀ g ∈ l, g.a < 18446744073709551616) (h : chkI x l n = 0) (hk : k < (bldS x l).length) : ∃ F p, prE ((bldS x l).take k) n = .flt F p 4 := by
  obtain ⟨h1, h2, _⟩ := chkI_zero h
  obtain ⟨F, p, hp⟩ := docP_cut (good_bld hx hl h) hk
  refine ⟨F, p, ?_⟩
  unfold prE
  rw [if_neg (by omega), hp]
  rfl
theorem parse_long {x : Nat} {l : List Sg} {n : Int} (hx : x < 18446744073709551616) (hl : ∀ g ∈ l, g.a < 18446744073709551616) (h : chkI x l n = 0) : ∃ F p, prE (bldS x l ++ [0]) n = .flt F p 5 := by
  obtain ⟨h1, h2, h3, h4, h5⟩ := chkI_zero h
  have d := docP_app (f := 2147483648) (e := endP n.toNat) [0] hx hl h3 h4 h5
  rw [if_neg (by simp)] at d
  refine ⟨sEnd, ((bldS x l).length : Nat), ?_⟩
  unfold prE
  rw [if_neg (by omega), d]
  rfl
theorem parse_back {S : List UInt8} {n : Int} (h : prE S n = .nil) : chkI (prX S n) (prL S n) n = 0 ∧ bldS (prX S n) (prL S n) = S := by
  unfold prE at h
  unfold prX prL
  split at h
  · cases h
  · rename_i c
    rw [if_neg c, if_neg c]
    cases hd : docP S 2147483648 (endP n.toNat) with
    | bad z => rw [hd] at h; cases h
    | good x l =>
      obtain ⟨e1, e2, e3, e4, e5, e6⟩ := docP_inv hd
      exact ⟨chkI_of (by omega) (by omega) e3 e4 e5, e1.symm⟩
theorem back_tail {Q : APost} {S : List UInt8} {n : Int} {t : Tm} {h : Hp} (hE : HasErr h) (hn : 100 < h.next) (hS : S.length ≤ 4000) (t1 : t 1 = .string (txt S)) (t7 : t 7 = .int .i64 n)
    (hQ : ∀ t' h', t' 6 = .bool true → apQ Q .ret t' h' (.mk _)) :
    vcF prog f5.ntmps tb0 (sndC (sndC (sndC (sndC (sndC (bodyC f5)))))) Q t h (.mk _) := by
  have e0 : (sndC (sndC (sndC (sndC (sndC (bodyC f5)))))) = (sndC (sndC (sndC (sndC (sndC (bodyC f5)))))) := rfl
  conv at e0 => rhs; whnf
  rw [e0]
  clear e0
  simp -dsimp (disch := omega) [t1, t7]
  refine parse_call (by omega) fun h1 w er x1 ie ir => ?_
  obtain ⟨k1, k2, k3⟩ := prL_ok S n
  have hcode := prE_code S n
  have n1 := x1.le
  obtain ⟨wa, wc, rfl⟩ := ir.slice
  have xA := Ext.alloc h1 ⟨#[.int .u64 (prX S n), .slice wa (prL S n).length wc], 1, true⟩
  have bA : (h1.alloc ⟨#[.int .u64 (prX S n), .slice wa (prL S n).length wc], 1, true⟩).blks h1.next = some ⟨#[.int .u64 (prX S n), .slice wa (prL S n).length wc], 1, true⟩ := blks_alloc_eq _ _
  obtain ⟨h2, hh2⟩ : ∃ h2, h2 = h1.alloc ⟨#[.int .u64 (prX S n), .slice wa (prL S n).length wc], 1, true⟩ := ⟨_, rfl⟩
  rw [← hh2] at xA bA
  have hE2 : HasErr h2 := (hE.ext x1 hn).ext xA (by omega)
  have n2 := xA.le
  have ie2 := ie.ext xA
  cases hp : prE S n with
  | nil =>
    rw [hp] at ie
    obtain rfl := ie
    obtain ⟨p1, p2⟩ := parse_back hp
    have r2 := Row.sl (Row.ext ir xA)
    simp -dsimp (disch := omega) [imV, t1, t7]
    rw [← hh2]
    refine build_call (x := prX S n) k3 r2 k1 (by omega) (fun c => absurd p1 c) (fun _ => ?_)
    rw [p2]
    simp -dsimp (disch := omega) [bA, t1, t7]
    refine check_call (x := prX S n) k3 r2 k1 (by omega) ?_
    rw [p1]
    simp -dsimp (disch := omega)
    refine awake_call hE2 (by omega) ?_
    simp -dsimp (disch := omega)
    exact hQ _ _ (by simp)
  | num m =>
    rw [hp] at ie ie2 hcode
    obtain rfl := ie
    have hm : ¬ m = 0 := hcode.resolve_left (by simp)
    simp -dsimp (disch := omega) [imV, t1, t7]
    rw [← hh2]
    refine code_call ie2 hE2 (by omega) ?_
    simp -dsimp (disch := omega) [Er.code, hm]
    refine awake_call hE2 (by omega) ?_
    simp -dsimp (disch := omega)
    exact hQ _ _ (by simp)
  | flt F a m =>
    rw [hp] at ie ie2 hcode
    obtain ⟨p, rfl, _, _⟩ := ie
    have hm : ¬ m = 0 := hcode.resolve_left (by simp)
    simp -dsimp (disch := omega) [imV, t1, t7]
    rw [← hh2]
    refine code_call ie2 hE2 (by omega) ?_
    simp -dsimp (disch := omega) [Er.code, hm]
    refine awake_call hE2 (by omega) ?_
    simp -dsimp (disch := omega)
    exact hQ _ _ (by simp)
theorem imageBack_call {x : Nat} {l : List Sg} {v : Value} {S : List UInt8} {n0 n1 : Nat} {h : Hp} {K : Value → Hp → Prop} (hE : HasErr h) (hn : 100 < h.next) (hx : x < 18446744073709551616) (h0 : n0 < 65536) (h1 : n1 < 65536) (hv : Sl h 2 l.length (sgC l) v) (hl : ∀ g ∈ l, g.ok) (hL : l.length < 9223372036854775808) (hK : ∀ h', K (.bool true) h') : ACall prog 5 [imV x v, .string (txt S), .agg #[.int .u16 n0, .int .u16 n1]] h K := by
  refine acallF_of tb0 func5 rfl rfl mixed (by kernel_rfl) fun hwf => ?_
  have htail := fun (t : Tm) (h' : Hp) (e : HasErr h') (q : 100 < h'.next) (s : S.length ≤ 4000) (t1 : t 1 = .string (txt S)) (t7 : t 7 = .int .i64 (n0 % 18 : Nat)) (Q : APost) => back_tail (Q := Q) (t := t) (n := (n0 % 18 : Nat)) e q s t1 t7
  obtain ⟨R, hR⟩ : ∃ R, R = (sndC (sndC (sndC (sndC (sndC (bodyC f5)))))) := ⟨_, rfl⟩
  rw [← hR] at htail
  conv at hR => rhs; whnf
  rw [← hR]
  have hvb := sblk_lt (n := h.next) (v := v) (by have := hwf.args (imV x v) (by simp); simp [imV, vtop, vtopL] at this; omega)
  obtain ⟨va, vc, rfl⟩ := hv.slice
  have hRet : ∀ {t' h'}, t' 6 = .bool true → RetF prog f5.results.toList h K t' h' (.mk _) (.mk _) (.mk _) (.mk _) (.mk _) := fun e => RetF.all (by simp [e]) (hK _)
  obtain ⟨m, hm⟩ : ∃ m, m = n0 % 18 := ⟨_, rfl⟩
  have hm1 : (n0 : Int) % 18 = m := by omega
  rw [← hm] at htail
  have hmw : m < 18 := by omega
  have hsz : (txt S).size = S.length := rfl
  simp -dsimp (disch := omega) [imV, hm1]
  obtain ⟨H, hH⟩ : ∃ H, H = (h.alloc ⟨#[.int .u64 x, .slice va l.length vc], 1, true⟩).alloc ⟨#[.int .u16 n0, .int .u16 n1], 1, true⟩ := ⟨_, rfl⟩
  have xH : Ext h H := by rw [hH]; exact (Ext.alloc _ _).trans (Ext.alloc _ _)
  have nH : H.next = h.next + 2 := by rw [hH]; simp
  have bH : H.blks h.next = some ⟨#[.int .u64 x, .slice va l.length vc], 1, true⟩ := by rw [hH]; simp (disch := omega)
  have bN : H.blks (h.next + 1) = some ⟨#[.int .u16 n0, .int .u16 n1], 1, true⟩ := by rw [hH]; simp (disch := omega)
  rw [← hH]
  have aw : ∀ {h'}, Ext H h' → HasErr h' := fun e => (hE.ext xH hn).ext e (by omega)
  have sl : ∀ {h'}, Ext H h' → Sl h' 2 l.length (sgC l) (.slice va l.length vc) := fun e => Sl.ext hv (xH.trans e) hvb
  have hl64 : ∀ g ∈ l, g.a < 18446744073709551616 := fun g hg => (hl g hg).1
  refine few_call (x := x) (sl (Ext.refl _)) hl hL (fun f1 f2 => ?_) ?_
  rotate_left
  · simp -dsimp (disch := omega)
    refine awake_call (aw (Ext.refl _)) (by omega) ?_
    simp -dsimp (disch := omega)
    exact RetF.all (by simp) (hK _)
  by_cases c : 4000 < S.length
  · have c' : 4000 < (S.length : Int) := by omega
    simp -dsimp (disch := omega) [hsz, c, c']
    refine awake_call (aw (Ext.refl _)) (by omega) ?_
    simp -dsimp (disch := omega)
    exact RetF.all (by simp) (hK _)
  have c' : ¬ 4000 < (S.length : Int) := by omega
  simp -dsimp (disch := omega) [hsz, c, c', bH]
  refine build_call (x := x) hx (sl (Ext.refl _)) hl hL (fun hc => ?_) (fun hc => ?_)
  · obtain ⟨Z, hZ⟩ : ∃ Z, Z = chkI x l m := ⟨_, rfl⟩
    rw [← hZ] at hc ⊢
    simp -dsimp (disch := omega) [hc]
    refine htail _ _ (aw (Ext.refl _)) (by omega) (by omega) (by simp) (by simp) _ fun t' h' e6 => ?_
    simp -dsimp (disch := omega)
    exact hRet e6
  · have hbl := bld_len hc
    have hgo := parse_of (n := (m : Int)) hx hl64 hc
    have hcut := fun k => parse_cut (n := (m : Int)) (k := k) hx hl64 hc
    have hlong := parse_long (n := (m : Int)) hx hl64 hc
    obtain ⟨B, hB⟩ : ∃ B, B = bldS x l := ⟨_, rfl⟩
    rw [← hB] at hbl hgo hlong ⊢
    simp only [← hB] at hcut
    obtain ⟨g1, g2, g3⟩ := hgo
    simp -dsimp (disch := omega)
    refine parse_call (S := B) (by omega) fun h1 w er x1 ie ir => ?_
    rw [g1] at ie
    rw [g2]
    rw [g3] at ir
    obtain rfl := ie
    have n1' := x1.le
    have b1 : h1.blks h.next = some ⟨#[.int .u64 x, .slice va l.length vc], 1, true⟩ := (x1.same _ (by omega)).trans bH
    have bn1 : h1.blks (h.next + 1) = some ⟨#[.int .u16 n0, .int .u16 n1], 1, true⟩ := (x1.same _ (by omega)).trans bN
    obtain ⟨wa, wc, rfl⟩ := ir.slice
    simp -dsimp (disch := omega) [imV, b1]
    have xA := Ext.alloc h1 ⟨#[.int .u64 x, .slice wa l.length wc], 1, true⟩
    obtain ⟨h2, hh2⟩ : ∃ h2, h2 = h1.alloc ⟨#[.int .u64 x, .slice wa l.length wc], 1, true⟩ := ⟨_, rfl⟩
    rw [← hh2] at xA ⊢
    have x2 : Ext H h2 := x1.trans xA
    have n2 := x2.le
    have bn2 : h2.blks (h.next + 1) = some ⟨#[.int .u16 n0, .int .u16 n1], 1, true⟩ := (x2.same _ (by omega)).trans bN
    refine same_call (x := x) hx (sl x2) (Row.sl (Row.ext ir xA)) hl hL ?_
    obtain ⟨N, hN⟩ : ∃ N, N = B.length := ⟨_, rfl⟩
    have hbsz : (txt B).size = N := by rw [hN]; rfl
    rw [← hN] at hbl
    have hNi : ¬ (N : Int) < 17 := by omega
    have hNn : ¬ N < 17 := by omega
    obtain ⟨i, hi⟩ : ∃ i, i = n1 % N := ⟨_, rfl⟩
    have hi1 : i < N := by rw [hi]; exact Nat.mod_lt _ (by omega)
    have hi2 : (n1 : Int) % N = i := by rw [hi]; omega
    have y1 : (txt B).extract 0 i = txt (B.take i) := by rw [ext_txt]; rfl
    simp -dsimp (disch := omega) [hbsz, hNi, hNn, bn2, hi2, y1]
    obtain ⟨F1, p1, hc1⟩ := hcut i (by omega)
    obtain ⟨F2, p2, hc2⟩ := hlong
    refine parse_call (S := B.take i) (by rw [List.length_take]; omega) fun h3 w3 er3 x3 ie3 ir3 => ?_
    rw [(err_flt hc1).2] at ir3
    rw [(err_flt hc1).1]
    rw [hc1] at ie3
    obtain ⟨wa3, wc3, rfl⟩ := ir3.slice
    have n3 := x3.le
    have e3 := ie3
    obtain ⟨q3, rfl, _, hq3⟩ := e3
    simp -dsimp (disch := first | omega | (simp only [txt_size, List.length_cons, List.length_nil]; omega)) [imV]
    refine parse_call (S := B ++ [0]) (by rw [List.length_append]; simp; omega) fun h4 w4 er4 x4 ie4 ir4 => ?_
    rw [(err_flt hc2).2] at ir4
    rw [(err_flt hc2).1]
    rw [hc2] at ie4
    obtain ⟨wa4, wc4, rfl⟩ := ir4.slice
    have n4 := x4.le
    simp only [Hp.next_alloc] at n4
    have e4 := ie4
    obtain ⟨q4, rfl, _, hq4⟩ := e4
    have x34 : Ext h3 h4 := (Ext.alloc _ _).trans x4
    simp -dsimp (disch := omega) [imV]
    have x5 := Ext.alloc h4 ⟨#[.int .u64 0, .slice wa4 0 wc4], 1, true⟩
    obtain ⟨h5, hh5⟩ : ∃ h5, h5 = h4.alloc ⟨#[.int .u64 0, .slice wa4 0 wc4], 1, true⟩ := ⟨_, rfl⟩
    have hE5 : HasErr h5 := by rw [hh5]; exact aw (((x2.trans x3).trans x34).trans x5)
    have n5 : h4.next + 1 = h5.next := by rw [hh5]; simp
    have je3 : IsEr h5 (.flt F1 p1 4) (.iface 70 (.pointer (some ⟨q3, 0, none⟩))) := by rw [hh5]; exact (ie3.ext x34).ext x5
    have je4 : IsEr h5 (.flt F2 p2 5) (.iface 70 (.pointer (some ⟨q4, 0, none⟩))) := by rw [hh5]; exact ie4.ext x5
    rw [hh5] at hE5 je3 je4
    refine code_call je3 hE5 (by simp; omega) ?_
    simp -dsimp (disch := omega) [Er.code]
    refine code_call je4 hE5 (by simp; omega) ?_
    simp -dsimp (disch := omega) [Er.code]
    refine htail _ _ hE5 (by simp; omega) (by omega) (by simp) (by simp) _ fun t' h' e6 => ?_
    simp -dsimp (disch := omega)
    exact hRet e6
end Go.Proofs.YtcbagjhbmdmjfaaDoor
