/-
  The chapter's image; a fault's test; some of the answers. The law's helpers: few, theirs, alike, same.
-/
import Derived.Test.YtcbagjhbmdmjfaaDoorIC
set_option linter.unusedSimpArgs false
set_option linter.unusedVariables false
set_option linter.unusedSectionVars false

namespace Go.Proofs.YtcbagjhbmdmjfaaDoor
set_option maxRecDepth 100000
open Go Go.Mini Go.Proofs.Tryd

def gG : Sg := ⟨2147483650, [97, 98]⟩
theorem given_call {h : Hp} {K : Value → Hp → Prop} (hK : ∀ h' b, Ext h h' → h.next ≤ b → b < h'.next → h'.blks b = some ⟨#[.int .u64 2147483650, .string (txt [97, 98])], 2, true⟩ → K (.agg #[.int .u64 2147483648, .slice (some ⟨b, 0, none⟩) 1 2]) h') : ACall prog 29 [] h K := by
  refine acallF_of tb0 func29 rfl rfl mixed (by kernel_rfl) fun hwf => ?_
  simp -dsimp (disch := omega)
  exact RetF.all (by simp) (hK _ (h.next + 1) ⟨by simp; omega, fun i hi => by simp (disch := omega)⟩ (by omega) (by simp) (by simp (disch := omega)))
theorem err_flt {S : List UInt8} {n : Int} {F : ByteArray} {a e : Int} (h : prE S n = .flt F a e) : prX S n = 0 ∧ prL S n = [] := by
  unfold prE at h
  unfold prX prL
  split at h
  · cases h
  · rename_i c
    rw [if_neg c, if_neg c]
    cases hd : docP S 2147483648 (endP n.toNat) with
    | bad z => exact ⟨rfl, rfl⟩
    | good x l => rw [hd] at h; cases h
theorem HasErr.ext {h h' : Hp} (he : HasErr h) (x : Ext h h') (hn : 100 < h.next) : HasErr h' := by unfold HasErr; rw [x.same _ hn]; exact he
theorem faults_call {S : List UInt8} {F : ByteArray} {a e : Int} {h : Hp} {K : Value → Hp → Prop} (hS : S.length ≤ 4611686018427387904) (hE : HasErr h) (hn : 100 < h.next) (hF : prE S 1 = .flt F a e) (hK : K (.bool true) h) : ACall prog 30 [.string (txt S), .string F, .int .i64 a, .int .i64 e] h K := by
  refine acallF_of tb0 func30 rfl rfl mixed (by kernel_rfl) fun hwf => ?_
  simp -dsimp (disch := omega)
  refine parse_call (n := 1) hS fun h1 w er x1 ie ir => ?_
  rw [(err_flt hF).2] at ir
  rw [(err_flt hF).1]
  rw [hF] at ie
  have hE1 := hE.ext x1 hn
  have n1 := x1.le
  obtain ⟨va, vc, rfl⟩ := ir.slice
  obtain ⟨p, rfl, hp, hpn⟩ := ie
  simp -dsimp (disch := omega) [imV]
  have hp2 : ∀ b, (h1.alloc b).blks p = some (faultB F a e) := fun b => by rw [blks_alloc_ne _ _ _ (by omega)]; exact hp
  refine where_call (e := .flt F a e) ⟨p, rfl, hp2 _, by simp; omega⟩ (hE1.ext (Ext.alloc _ _) (by omega)) (by simp; omega) ?_
  simp -dsimp (disch := omega) [Er.field, Er.place]
  refine code_call (e := .flt F a e) ⟨p, rfl, hp2 _, by simp; omega⟩ (hE1.ext (Ext.alloc _ _) (by omega)) (by simp; omega) ?_
  simp -dsimp (disch := omega) [Er.code]
  refine is_fault_call (hp2 _) ?_
  simp -dsimp (disch := omega)
  exact RetF.same hwf (by simp) (Nat.zero_le _) (fun i hi => by rw [blks_alloc_ne _ _ _ (by omega)]; exact x1.same i hi) hK
theorem given_build : chkI 2147483648 [gG] 1 = 0 := by decide +kernel
theorem given_size : (bldS 2147483648 [gG]).length = 29 := by decide +kernel
theorem parse_of {x : Nat} {l : List Sg} {n : Int} (hx : x < 18446744073709551616) (hl : ∀ g ∈ l, g.a < 18446744073709551616) (h : chkI x l n = 0) : prE (bldS x l) n = .nil ∧ prX (bldS x l) n = x ∧ prL (bldS x l) n = l := by
  obtain ⟨h1, h2, h3, h4, h5⟩ := chkI_zero h
  have d := docP_app (f := 2147483648) (e := endP n.toNat) [] hx hl h3 h4 h5
  rw [List.append_nil, if_pos rfl] at d
  unfold prE prX prL
  rw [if_neg (by omega), if_neg (by omega), if_neg (by omega), d]
  exact ⟨rfl, rfl, rfl⟩
theorem alm2 : prE [65, 76, 77, 50] 1 = .flt sMagic 0 3 := by
  have e : docP [65, 76, 77, 50] 2147483648 (endP (Int.toNat 1)) = .bad (sMagic, 0, 3) := by unfold docP; rw [if_neg (by decide), if_pos (by decide)]
  unfold prE
  rw [if_neg (by decide), e]
  rfl
theorem awake_call {h : Hp} {K : Value → Hp → Prop} (hE : HasErr h) (hn : 100 < h.next) (hK : K (.bool true) h) : ACall prog 10 [] h K := by
  refine acallF_of tb0 func10 rfl rfl mixed (by kernel_rfl) fun hwf => ?_
  simp -dsimp (disch := omega)
  refine given_call fun h1 b x1 b1 b2 hb => ?_
  simp -dsimp (disch := omega)
  refine build_call (x := 2147483648) (l := [gG]) (by omega) ⟨rfl, .inr ⟨_, _, _, rfl, hb, by simp, fun j hj => by simp [sgC, gG]⟩⟩ (by intro g hg; simp at hg; subst hg; exact ⟨by decide, by decide⟩) (by simp) (fun h => absurd given_build h) (fun _ => ?_)
  obtain ⟨B, hB⟩ : ∃ B, B = bldS 2147483648 [gG] := ⟨_, rfl⟩
  have hBl : B.length = 29 := by rw [hB]; exact given_size
  obtain ⟨p1, p2, p3⟩ := parse_of (x := 2147483648) (l := [gG]) (by omega) (by intro g hg; simp at hg; subst hg; decide) given_build
  rw [← hB] at p1 p2 p3 ⊢
  simp -dsimp (disch := omega)
  refine parse_call (S := B) (n := 1) (by omega) fun h2 w er x2 ie ir => ?_
  rw [p1] at ie
  rw [p2]
  rw [p3] at ir
  obtain rfl := ie
  have n1 := x1.le
  have n2 := x2.le
  obtain ⟨_, ⟨_, c0⟩ | ⟨q, q1, q2, rfl, hq⟩⟩ := ir
  · simp at c0
  have hsz : (txt B).size = 29 := hBl
  have hq' : h2.blks q = some ⟨#[.int .u64 2147483650, .string (txt [97, 98])], 2, true⟩ := hq
  simp -dsimp (disch := omega) [imV, hsz, hq']
  refine faults_call (S := [65, 76, 77, 50]) (by simp) (HasErr.ext (HasErr.ext (hE.ext x1 hn) x2 (by omega)) (Ext.alloc _ _) (by omega)) (by simp; omega) alm2 ?_
  simp -dsimp (disch := omega)
  exact RetF.same hwf (by simp) (Nat.zero_le _) (fun i hi => by rw [blks_alloc_ne _ _ _ (by omega), x2.same i (by omega), x1.same i hi]) hK
end Go.Proofs.YtcbagjhbmdmjfaaDoor
namespace Go.Proofs.YtcbagjhbmdmjfaaDoor
set_option maxRecDepth 100000
open Go Go.Mini Go.Proofs.Tryd

theorem few_call {x : Nat} {l : List Sg} {v : Value} {h : Hp} {K : Value → Hp → Prop} (hv : Sl h 2 l.length (sgC l) v) (hl : ∀ g ∈ l, g.ok) (hL : l.length < 9223372036854775808)
    (hK1 : l.length ≤ 12 → (∀ g ∈ l, g.b.length ≤ 300) → K (.bool true) h) (hK2 : K (.bool false) h) : ACall prog 9 [imV x v] h K := by
  refine acallF_of tb0 func9 rfl rfl mixed (by kernel_rfl) fun hwf => ?_
  have hvb := sblk_lt (n := h.next) (v := v) (by have := hwf.args (imV x v) (by simp); simp [imV, vtop, vtopL] at this; omega)
  obtain ⟨va, vc, rfl⟩ := hv.slice
  simp -dsimp (disch := omega) [imV]
  refine awp_loop (fun t h' => h' = h.alloc ⟨#[.int .u64 x, .slice va l.length vc], 1, true⟩ ∧ ∃ k : Nat, t 1 = .pointer (some ⟨h.next, 0, none⟩) ∧ t 3 = .int .i64 k ∧ k ≤ l.length ∧ ∀ j g, j < k → l[j]? = some g → g.b.length ≤ 300) (fun t _ => l.length - ivN (t 3)) ?_ ?_
  · simp -dsimp
    exact ⟨0, rfl, Nat.zero_le _, fun j g hj => by omega⟩
  · rintro t _ ⟨rfl, k, h1, h3, hk, hs⟩
    refine vcF_sound mixed (tb := tb0) _ (by kernel_rfl) ?_
    by_cases hc : k < l.length
    · have hc' : (k : Int) < l.length := by omega
      by_cases hc2 : k < 20
      · have hc2' : (k : Int) < 20 := by omega
        obtain ⟨g, hg⟩ : ∃ g, l[k]? = some g := ⟨l[k], by simp [hc]⟩
        obtain ⟨g1, g2⟩ := hl g (List.mem_of_getElem? hg)
        obtain ⟨_, ⟨_, c, e, h0⟩ | ⟨a, c, b, e0, hb, hbs, hbc⟩⟩ := hv
        · omega
        cases e0
        have hab := hvb _ rfl
        obtain ⟨d1, d2⟩ := sgC_at l k g hg
        have e2 := hbc (2 * k + 1) (by omega)
        rw [d2] at e2
        rw [Nat.mul_comm 2 k] at e2
        have e2' : b.cells[a.off + k * 2 + 1]? = some (.string (txt g.b)) := e2
        obtain ⟨N, hN⟩ : ∃ N, N = g.b.length := ⟨_, rfl⟩
        have hlen : (txt g.b).size = N := by rw [hN]; rfl
        rw [← hN] at g2
        clear hbc hbs e2
        simp -dsimp (disch := omega) [h1, h3, hc, hc', hc2, hc2', hb, e2', hlen]
        by_cases c3 : 300 < N
        · have c3' : 300 < (N : Int) := by omega
          simp -dsimp (disch := omega) [c3, c3']
          exact RetF.same hwf (by simp) (Nat.zero_le _) (fun i hi => by simp [Hp.blks_alloc, Nat.ne_of_lt hi]) hK2
        · have c3' : ¬ 300 < (N : Int) := by omega
          simp -dsimp (disch := omega) [c3, c3', h1, h3]
          refine ⟨⟨k + 1, by simp, by omega, fun j g' hj hg' => ?_⟩, by simp [ivN]; omega⟩
          rcases Nat.lt_or_ge j k with hjk | hjk
          · exact hs j g' hjk hg'
          · have : j = k := by omega
            subst this
            rw [hg] at hg'
            cases hg'
            omega
      · have hc2' : ¬ (k : Int) < 20 := by omega
        simp -dsimp (disch := omega) [h1, h3, hc, hc', hc2, hc2']
        by_cases c : l.length ≤ 12
        · omega
        · have c' : ¬ (l.length : Int) ≤ 12 := by omega
          exact RetF.same hwf (by simp [c, c']) (Nat.zero_le _) (fun i hi => by simp [Hp.blks_alloc, Nat.ne_of_lt hi]) hK2
    · have hk' : k = l.length := by omega
      subst hk'
      simp -dsimp (disch := omega) [h1, h3]
      by_cases c : l.length ≤ 12
      · have hK := hK1 c fun g hg => by
          obtain ⟨j, hj⟩ := List.mem_iff_getElem?.1 hg
          have := (List.getElem?_eq_some_iff.1 hj).1
          exact hs j g (by omega) hj
        have c' : (l.length : Int) ≤ 12 := by omega
        exact RetF.same hwf (by simp [c, c']) (Nat.zero_le _) (fun i hi => by simp [Hp.blks_alloc, Nat.ne_of_lt hi]) hK
      · have c' : ¬ (l.length : Int) ≤ 12 := by omega
        exact RetF.same hwf (by simp [c, c']) (Nat.zero_le _) (fun i hi => by simp [Hp.blks_alloc, Nat.ne_of_lt hi]) hK2
theorem theirs_call {x : Nat} {l : List Sg} {v : Value} {h : Hp} {K : Value → Hp → Prop} (hv : Sl h 2 l.length (sgC l) v) (hl : ∀ g ∈ l, g.ok) (hL : l.length ≤ 1000)
    (hK : ∀ h' w, Ext h h' → Row h.next h' 2 l.length (sgC l) w → K (imV x w) h') : ACall prog 13 [imV x v] h K := by
  refine acallF_of tb0 func13 rfl rfl mixed (by kernel_rfl) fun hwf => ?_
  have hvb := sblk_lt (n := h.next) (v := v) (by have := hwf.args (imV x v) (by simp); simp [imV, vtop, vtopL] at this; omega)
  obtain ⟨va, vc, rfl⟩ := hv.slice
  simp -dsimp (disch := omega) [imV]
  refine awp_loop (fun t h' => ∃ k v', k ≤ l.length ∧ t 1 = .pointer (some ⟨h.next, 0, none⟩) ∧ t 2 = .pointer (some ⟨h.next + 1, 0, none⟩) ∧ t 3 = .pointer (some ⟨h.next + 2, 0, none⟩) ∧ t 4 = .int .i64 (k : Nat) ∧ (∀ i, i < h.next → h'.blks i = h.blks i) ∧ h.next + 3 ≤ h'.next ∧ h'.blks h.next = some ⟨#[.int .u64 x, .slice va l.length vc], 1, true⟩ ∧ h'.blks (h.next + 1) = some ⟨#[.int .u64 0, .slice none 0 0], 1, true⟩ ∧ h'.blks (h.next + 2) = some ⟨#[.int .u64 x, v'], 1, true⟩ ∧ Row (h.next + 3) h' 2 k (sgC (l.take k)) v') (fun t _ => l.length - ivN (t 4)) ?_ ?_
  · simp -dsimp
    exact ⟨0, Nat.zero_le _, rfl, fun i hi => by rw [if_neg (by omega), if_neg (by omega), if_neg (by omega)], fun e => by omega, Row.nil _ _ _⟩
  · rintro t h' ⟨k, v', hk, h1, h2, h3, h4, hs, hn, b0, b1, b2, hrow⟩
    refine vcF_sound mixed (tb := tb0) _ (by kernel_rfl) ?_
    obtain ⟨va', vc', rfl⟩ := hrow.slice
    simp -dsimp (disch := omega) [h1, h4, b0]
    by_cases hc : k < l.length
    · obtain ⟨g, hg⟩ : ∃ g, l[k]? = some g := ⟨l[k], by simp [hc]⟩
      obtain ⟨g1, g2⟩ := hl g (List.mem_of_getElem? hg)
      obtain ⟨_, ⟨_, c, e, h0⟩ | ⟨a, c, b, e0, hb, hbs, hbc⟩⟩ := hv
      · omega
      cases e0
      have hab := hvb _ rfl
      obtain ⟨d1, d2⟩ := sgC_at l k g hg
      have hx' : b.cells.extract (a.off + k * 2) (a.off + k * 2 + 2) = #[.int .u64 g.a, .string (txt g.b)] := by
        have e1 := hbc (k * 2) (by omega)
        have e2 := hbc (k * 2 + 1) (by omega)
        rw [Nat.mul_comm k 2] at e1 e2
        rw [Nat.mul_comm k 2]
        exact extract2 (e1.trans d1) (e2.trans d2)
      have hb' : h'.blks a.block = some b := by rw [hs _ hab]; exact hb
      have hsz : a.off + k * 2 + 2 ≤ b.cells.size := by omega
      simp -dsimp (disch := omega) [h1, h3, h4, hc, b0, b2, hb', hx', hsz]
      refine app_rowJ (hrow.alloc _) (by simp; omega) (src_slice _ _ _ _ _ #[.int .u64 g.a, .string (txt g.b)] (by simp (disch := omega))) (by omega) (by simp) (by unfold ROOM; omega) ?_
      intro v2 h2' r1 r2 r2j r3 r4
      obtain ⟨va2, vc2, rfl⟩ := r1.slice
      have r2' : h2'.next = h'.next + 2 := by rw [r2]; simp
      have hvb' : ∀ b, sblk (.slice va' k vc') = some b → h.next + 3 ≤ b ∧ b < h'.next := hrow.blk
      have hne : ∀ i, i < h.next + 3 → sblk (.slice va' k vc') ≠ some i := fun i hi e => by have := (hvb' i e).1; omega
      have c0 : h2'.blks h.next = some ⟨#[.int .u64 x, .slice (some a) l.length vc], 1, true⟩ := by rw [r4 _ (by simp; omega) (hne _ (by omega))]; simp (disch := omega) [b0]
      have c1 : h2'.blks (h.next + 1) = some ⟨#[.int .u64 0, .slice none 0 0], 1, true⟩ := by rw [r4 _ (by simp; omega) (hne _ (by omega))]; simp (disch := omega) [b1]
      have c2 : h2'.blks (h.next + 2) = some ⟨#[.int .u64 x, .slice va' k vc'], 1, true⟩ := by rw [r4 _ (by simp; omega) (hne _ (by omega))]; simp (disch := omega) [b2]
      simp -dsimp (disch := omega) [h1, h2, h3, h4, c0, c1, c2]
      refine ⟨⟨k + 1, by omega, by simp, fun i hi => ?_, by omega, ?_⟩, by simp [ivN]; omega⟩
      · rw [if_neg (by omega), r4 i (by simp; omega) (hne i (by omega))]
        simp (disch := omega) [hs i hi]
      · rw [take_snoc hg, sgC_append, sgC_one]
        exact r1.set _ _ (by rw [r3]; simp; omega)
    · have hk' : k = l.length := by omega
      subst hk'
      rw [List.take_length] at hrow
      simp -dsimp (disch := omega) [h1, h2, h3, h4, b0, b1, b2]
      exact RetF.all (by simp [h2, imV]) (hK _ _ ⟨by simp; omega, fun i hi => by rw [blks_set_ne _ _ _ _ (by omega)]; exact hs i hi⟩ ((Row.low hrow (by omega)).set _ _ fun e => by have := (hrow.blk _ e).1; omega))
theorem alike_call {x : Nat} {l : List Sg} {v w : Value} {h : Hp} {K : Value → Hp → Prop} (hx : x < 18446744073709551616) (hv : Sl h 2 l.length (sgC l) v) (hw : Sl h 2 l.length (sgC l) w) (hl : ∀ g ∈ l, g.ok) (hL : l.length < 9223372036854775808)
    (hK : K (.bool true) h) : ACall prog 20 [imV x v, imV x w] h K := by
  refine acallF_of tb0 func20 rfl rfl mixed (by kernel_rfl) fun hwf => ?_
  have hvb := sblk_lt (n := h.next) (v := v) (by have := hwf.args (imV x v) (by simp); simp [imV, vtop, vtopL] at this; omega)
  have hwb := sblk_lt (n := h.next) (v := w) (by have := hwf.args (imV x w) (by simp); simp [imV, vtop, vtopL] at this; omega)
  obtain ⟨va, vc, rfl⟩ := hv.slice
  obtain ⟨wa, wc, rfl⟩ := hw.slice
  simp -dsimp (disch := omega) [imV]
  refine awp_loop (fun t h' => h' = (h.alloc ⟨#[.int .u64 x, .slice va l.length vc], 1, true⟩).alloc ⟨#[.int .u64 x, .slice wa l.length wc], 1, true⟩ ∧ ∃ k : Nat, t 2 = .pointer (some ⟨h.next, 0, none⟩) ∧ t 3 = .pointer (some ⟨h.next + 1, 0, none⟩) ∧ t 5 = .int .i64 k ∧ k ≤ l.length) (fun t _ => l.length - ivN (t 5)) ?_ ?_
  · simp -dsimp
    exact ⟨0, rfl, Nat.zero_le _⟩
  · rintro t _ ⟨rfl, k, h2, h3, h5, hk⟩
    refine vcF_sound mixed (tb := tb0) _ (by kernel_rfl) ?_
    simp -dsimp (disch := omega) [h2, h3, h5]
    by_cases hc : k < l.length
    · obtain ⟨g, hg⟩ : ∃ g, l[k]? = some g := ⟨l[k], by simp [hc]⟩
      obtain ⟨g1, g2⟩ := hl g (List.mem_of_getElem? hg)
      obtain ⟨_, ⟨_, c, e, h0⟩ | ⟨a, c, b, e0, hb, hbs, hbc⟩⟩ := hv
      · omega
      obtain ⟨_, ⟨_, c', e', h0⟩ | ⟨a', c', b', e0', hb', hbs', hbc'⟩⟩ := hw
      · omega
      cases e0
      cases e0'
      have hab := hvb _ rfl
      have hab' := hwb _ rfl
      obtain ⟨d1, d2⟩ := sgC_at l k g hg
      have hx' : b.cells.extract (a.off + k * 2) (a.off + k * 2 + 2) = #[.int .u64 g.a, .string (txt g.b)] := by
        have e1 := hbc (k * 2) (by omega)
        have e2 := hbc (k * 2 + 1) (by omega)
        rw [Nat.mul_comm k 2] at e1 e2
        rw [Nat.mul_comm k 2]
        exact extract2 (e1.trans d1) (e2.trans d2)
      have hy' : b'.cells.extract (a'.off + k * 2) (a'.off + k * 2 + 2) = #[.int .u64 g.a, .string (txt g.b)] := by
        have e1 := hbc' (k * 2) (by omega)
        have e2 := hbc' (k * 2 + 1) (by omega)
        rw [Nat.mul_comm k 2] at e1 e2
        rw [Nat.mul_comm k 2]
        exact extract2 (e1.trans d1) (e2.trans d2)
      have hsz : a.off + k * 2 + 2 ≤ b.cells.size := by omega
      have hsz' : a'.off + k * 2 + 2 ≤ b'.cells.size := by omega
      simp -dsimp (disch := omega) [h2, h3, h5, hc, hb, hb', hx', hy', hsz, hsz']
      exact ⟨⟨k + 1, by simp, by omega⟩, by simp [ivN]; omega⟩
    · have hk' : k = l.length := by omega
      subst hk'
      simp -dsimp (disch := omega) [h2, h3, h5]
      exact RetF.same hwf (by simp) (Nat.zero_le _) (fun i hi => by simp [Hp.blks_alloc, Nat.ne_of_lt hi, Nat.ne_of_lt (Nat.lt_succ_of_lt hi)]) hK
theorem same_call {x : Nat} {l : List Sg} {v w : Value} {h : Hp} {K : Value → Hp → Prop} (hx : x < 18446744073709551616) (hv : Sl h 2 l.length (sgC l) v) (hw : Sl h 2 l.length (sgC l) w) (hl : ∀ g ∈ l, g.ok) (hL : l.length < 9223372036854775808)
    (hK : K (.bool true) h) : ACall prog 21 [imV x v, imV x w] h K := by
  refine acallF_of tb0 func21 rfl rfl mixed (by kernel_rfl) fun hwf => ?_
  have hvb := sblk_lt (n := h.next) (v := v) (by have := hwf.args (imV x v) (by simp); simp [imV, vtop, vtopL] at this; omega)
  have hwb := sblk_lt (n := h.next) (v := w) (by have := hwf.args (imV x w) (by simp); simp [imV, vtop, vtopL] at this; omega)
  obtain ⟨va, vc, rfl⟩ := hv.slice
  obtain ⟨wa, wc, rfl⟩ := hw.slice
  simp -dsimp (disch := omega) [imV]
  refine awp_loop (fun t h' => h' = (h.alloc ⟨#[.int .u64 x, .slice va l.length vc], 1, true⟩).alloc ⟨#[.int .u64 x, .slice wa l.length wc], 1, true⟩ ∧ ∃ k : Nat, t 2 = .pointer (some ⟨h.next, 0, none⟩) ∧ t 3 = .pointer (some ⟨h.next + 1, 0, none⟩) ∧ t 5 = .int .i64 k ∧ k ≤ l.length) (fun t _ => l.length - ivN (t 5)) ?_ ?_
  · simp -dsimp
    exact ⟨0, rfl, Nat.zero_le _⟩
  · rintro t _ ⟨rfl, k, h2, h3, h5, hk⟩
    refine vcF_sound mixed (tb := tb0) _ (by kernel_rfl) ?_
    simp -dsimp (disch := omega) [h2, h3, h5]
    by_cases hc : k < l.length
    · obtain ⟨g, hg⟩ : ∃ g, l[k]? = some g := ⟨l[k], by simp [hc]⟩
      obtain ⟨g1, g2⟩ := hl g (List.mem_of_getElem? hg)
      obtain ⟨_, ⟨_, c, e, h0⟩ | ⟨a, c, b, e0, hb, hbs, hbc⟩⟩ := hv
      · omega
      obtain ⟨_, ⟨_, c', e', h0⟩ | ⟨a', c', b', e0', hb', hbs', hbc'⟩⟩ := hw
      · omega
      cases e0
      cases e0'
      have hab := hvb _ rfl
      have hab' := hwb _ rfl
      obtain ⟨d1, d2⟩ := sgC_at l k g hg
      have hx' : b.cells.extract (a.off + k * 2) (a.off + k * 2 + 2) = #[.int .u64 g.a, .string (txt g.b)] := by
        have e1 := hbc (k * 2) (by omega)
        have e2 := hbc (k * 2 + 1) (by omega)
        rw [Nat.mul_comm k 2] at e1 e2
        rw [Nat.mul_comm k 2]
        exact extract2 (e1.trans d1) (e2.trans d2)
      have hy' : b'.cells.extract (a'.off + k * 2) (a'.off + k * 2 + 2) = #[.int .u64 g.a, .string (txt g.b)] := by
        have e1 := hbc' (k * 2) (by omega)
        have e2 := hbc' (k * 2 + 1) (by omega)
        rw [Nat.mul_comm k 2] at e1 e2
        rw [Nat.mul_comm k 2]
        exact extract2 (e1.trans d1) (e2.trans d2)
      have hsz : a.off + k * 2 + 2 ≤ b.cells.size := by omega
      have hsz' : a'.off + k * 2 + 2 ≤ b'.cells.size := by omega
      simp -dsimp (disch := omega) [h2, h3, h5, hc, hb, hb', hx', hy', hsz, hsz']
      exact ⟨⟨k + 1, by simp, by omega⟩, by simp [ivN]; omega⟩
    · have hk' : k = l.length := by omega
      subst hk'
      simp -dsimp (disch := omega) [h2, h3, h5]
      exact RetF.same hwf (by simp) (Nat.zero_le _) (fun i hi => by simp [Hp.blks_alloc, Nat.ne_of_lt hi, Nat.ne_of_lt (Nat.lt_succ_of_lt hi)]) hK
end Go.Proofs.YtcbagjhbmdmjfaaDoor
