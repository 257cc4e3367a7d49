/-
  The document: lies, entry, Check. The document: Build, bad. The document: Parse.
-/
import Derived.Test.YtcbagjhbmdmjfaaDoorIA
import Derived.Test.YtcbagjhbmdmjfaaDoorIC
set_option linter.unusedSimpArgs false
set_option linter.unusedVariables false
set_option linter.unusedSectionVars false

namespace Go.Proofs.YtcbagjhbmdmjfaaDoor
set_option maxRecDepth 100000
open Go Go.Mini Go.Proofs.Tryd

theorem lies_call {Z a n : Nat} {h : Hp} {K : Value → Hp → Prop} (hZ : Z ≤ 65536) (ha : a < 18446744073709551616) (hK : K (.bool (hasN 2147483648 (2147483648 + Z) a n)) h) : ACall prog 42 [.int .u64 a, .int .u64 n, .int .u64 Z] h K := by
  refine acallF_of tb0 func42 rfl rfl mixed (by kernel_rfl) fun hwf => ?_
  by_cases c1 : 2147483648 ≤ a
  · have c1' : (2147483648 : Int) ≤ a := by omega
    obtain ⟨d, hd⟩ : ∃ d, a = 2147483648 + d := ⟨a - 2147483648, by omega⟩
    have hd' : (a : Int) - 2147483648 = d := by omega
    by_cases c2 : d ≤ Z
    · have c2' : (d : Int) ≤ Z := by omega
      have c3 : (Z : Int) - d = ((Z - d : Nat) : Int) := by omega
      have c4 : decide ((n : Int) ≤ ((Z - d : Nat) : Int)) = hasN 2147483648 (2147483648 + Z) a n := by
        show _ = (decide (2147483648 ≤ a) && (decide (a ≤ 2147483648 + Z) && decide (n ≤ 2147483648 + Z - a)))
        rw [decide_eq_true c1, decide_eq_true (show a ≤ 2147483648 + Z by omega), Bool.true_and, Bool.true_and]
        exact decide_eq_decide.2 (by omega)
      rw [← c4] at hK
      simp -dsimp (disch := omega) [c1', hd', c2', c3]
      exact RetF.same hwf (by simp) (Nat.zero_le _) (fun _ _ => rfl) hK
    · have c2' : ¬ (d : Int) ≤ Z := by omega
      have c4 : hasN 2147483648 (2147483648 + Z) a n = false := by unfold hasN; simp [c1]; omega
      rw [c4] at hK
      simp -dsimp (disch := omega) [c1', hd', c2']
      exact RetF.same hwf (by simp) (Nat.zero_le _) (fun _ _ => rfl) hK
  · have c1' : ¬ (2147483648 : Int) ≤ a := by omega
    have c4 : hasN 2147483648 (2147483648 + Z) a n = false := by unfold hasN; simp [c1]
    rw [c4] at hK
    simp -dsimp (disch := omega) [c1']
    exact RetF.same hwf (by simp) (Nat.zero_le _) (fun _ _ => rfl) hK
theorem refEntry_call {Z a : Nat} {h : Hp} {K : Value → Hp → Prop} (hZ : Z ≤ 65536) (ha : a < 18446744073709551616) (hK : K (.int .i64 (entN 2147483648 (2147483648 + Z) a)) h) : ACall prog 41 [.int .u64 a, .int .u64 Z] h K := by
  refine acallF_of tb0 func41 rfl rfl mixed (by kernel_rfl) fun hwf => ?_
  have hm : ((a : Int) % 2) = ((a % 2 : Nat) : Int) := by omega
  obtain ⟨r, hr⟩ : ∃ r, r = a % 2 := ⟨_, rfl⟩
  unfold entN at hK
  rw [← hr] at hm hK
  by_cases c : r = 1
  · subst c
    rw [if_pos (by omega)] at hK
    simp -dsimp (disch := omega) [hm]
    exact RetF.same hwf (by simp) (Nat.zero_le _) (fun _ _ => rfl) hK
  · rw [if_neg (by omega)] at hK
    have c' : ¬ (r : Int) = 1 := by omega
    simp -dsimp (disch := omega) [hm, c, c']
    refine lies_call hZ ha ?_
    cases hb : hasN 2147483648 (2147483648 + Z) a 1 with
    | true =>
      rw [hb, if_neg (by simp)] at hK
      simp -dsimp (disch := omega)
      exact RetF.same hwf (by simp) (Nat.zero_le _) (fun _ _ => rfl) hK
    | false =>
      rw [hb, if_pos rfl] at hK
      simp -dsimp (disch := omega)
      exact RetF.same hwf (by simp) (Nat.zero_le _) (fun _ _ => rfl) hK
theorem refCheck_call {x : Nat} {l : List Sg} {v : Value} {n : Int} {h : Hp} {K : Value → Hp → Prop} (hx : x < 18446744073709551616) (hv : Sl h 2 l.length (sgC l) v) (hl : ∀ g ∈ l, g.ok) (hL : l.length < 9223372036854775808)
    (hK : K (.int .i64 (chkI x l n)) h) : ACall prog 15 [imV x v, .int .i64 n] h K := by
  refine acallF_of tb0 func15 rfl rfl mixed (by kernel_rfl) fun hwf => ?_
  have hvb := sblk_lt (n := h.next) (v := v) (by have := hwf.args (imV x v) (by simp); simp [imV, vtop, vtopL] at this; omega)
  obtain ⟨va, vc, rfl⟩ := hv.slice
  unfold chkI at hK
  by_cases c : n < 1 ∨ 16 < n
  · rw [if_pos c] at hK
    by_cases c0 : n < 1
    · simp -dsimp (disch := omega) [imV, c0]
      exact RetF.same hwf (by simp) (Nat.zero_le _) (fun i hi => by simp [Hp.blks_alloc, Nat.ne_of_lt hi]) hK
    · have c1 : 16 < n := by omega
      simp -dsimp (disch := omega) [imV, c0, c1]
      exact RetF.same hwf (by simp) (Nat.zero_le _) (fun i hi => by simp [Hp.blks_alloc, Nat.ne_of_lt hi]) hK
  · rw [if_neg c] at hK
    obtain ⟨m, rfl⟩ := Int.eq_ofNat_of_zero_le (show 0 ≤ n by omega)
    have cm : ¬ (m : Int) < 1 := by omega
    have cm2 : ¬ 16 < (m : Int) := by omega
    rw [Int.toNat_natCast] at hK
    obtain ⟨Z, hZ⟩ : ∃ Z, Z = m * 4096 := ⟨_, rfl⟩
    have hZ' : (m : Int) * 4096 = Z := by omega
    have hE : endP m = 2147483648 + Z := by unfold endP; rw [hZ]
    rw [hE] at hK
    have hZl : Z ≤ 65536 := by omega
    simp -dsimp (disch := omega) [imV, cm, cm2, hZ']
    refine refEntry_call hZl hx ?_
    obtain ⟨r, hr⟩ : ∃ r, r = entN 2147483648 (2147483648 + Z) x := ⟨_, rfl⟩
    rw [← hr] at hK ⊢
    by_cases c1 : r = 0
    · rw [if_neg (by simp [c1])] at hK
      simp -dsimp (disch := omega) [c1]
      by_cases c2 : 8 < l.length
      · rw [if_pos c2] at hK
        have c2' : 8 < (l.length : Int) := by omega
        simp -dsimp (disch := omega) [c2']
        exact RetF.same hwf (by simp) (Nat.zero_le _) (fun i hi => by simp [Hp.blks_alloc, Nat.ne_of_lt hi]) hK
      · rw [if_neg c2] at hK
        have c2' : ¬ 8 < (l.length : Int) := by omega
        simp -dsimp (disch := omega) [c2']
        refine awp_loop (fun t h' => h' = h.alloc ⟨#[.int .u64 x, .slice va l.length vc], 1, true⟩ ∧ ∃ k en : Nat, t 2 = .pointer (some ⟨h.next, 0, none⟩) ∧ t 5 = .int .u64 Z ∧ t 6 = .int .i64 k ∧ k ≤ l.length ∧ chkL 2147483648 (2147483648 + Z) l 0 = chkL 2147483648 (2147483648 + Z) (l.drop k) en ∧ (k = 0 → en = 0) ∧ (∀ g, 0 < k → l[k - 1]? = some g → en = g.a + g.b.length) ∧ en < 4294967296) (fun t _ => l.length - ivN (t 6)) ?_ ?_
        · simp -dsimp
          exact ⟨0, rfl, Nat.zero_le _, 0, rfl, fun _ => rfl, fun _ h0 => by omega, by omega⟩
        · rintro t _ ⟨rfl, k, en, h2, h5, h6, hk, hck, hz0, hz1, hen⟩
          refine vcF_sound mixed (tb := tb0) _ (by kernel_rfl) ?_
          simp -dsimp (disch := omega) [h2, h5, h6]
          refine CondF_dec (fun hc => ?_) (fun hc => ?_)
          · have hkl : k < l.length := by omega
            obtain ⟨g, hg⟩ : ∃ g, l[k]? = some g := ⟨l[k], by simp [hkl]⟩
            obtain ⟨g1, g2⟩ := hl g (List.mem_of_getElem? hg)
            have hdrop : l.drop k = g :: l.drop (k + 1) := drop_at hg
            rw [hdrop] at hck
            simp only [chkL] at hck
            obtain ⟨_, ⟨_, c, e, h0⟩ | ⟨a, c, b, e0, hb, hbs, hbc⟩⟩ := hv
            · omega
            cases e0
            have hab := hvb _ rfl
            obtain ⟨d1, d2⟩ := sgC_at l k g hg
            have e1 := hbc (2 * k) (by omega)
            have e2 := hbc (2 * k + 1) (by omega)
            rw [d1] at e1
            rw [d2] at e2
            rw [Nat.mul_comm 2 k] at e1 e2
            have hb' : (h.alloc ⟨#[.int .u64 x, .slice (some a) l.length vc], 1, true⟩).blks a.block = some b := by rw [blks_alloc_ne _ _ _ (by omega)]; exact hb
            obtain ⟨N, hN⟩ : ∃ N, N = g.b.length := ⟨_, rfl⟩
            have hlen : (txt g.b).size = N := by rw [hN]; rfl
            rw [← hN] at hck g2
            have e1' : b.cells[a.off + k * 2]? = some (.int .u64 g.a) := e1
            have e2' : b.cells[a.off + k * 2 + 1]? = some (.string (txt g.b)) := e2
            have hpv : ∀ g', 0 < k → l[k - 1]? = some g' → b.cells[a.off + (k - 1) * 2]? = some (.int .u64 g'.a) ∧ b.cells[a.off + (k - 1) * 2 + 1]? = some (.string (txt g'.b)) := by
              intro g' hk0 hg'
              obtain ⟨d3, d4⟩ := sgC_at l (k - 1) g' hg'
              have e3 := hbc (2 * (k - 1)) (by omega)
              have e4 := hbc (2 * (k - 1) + 1) (by omega)
              rw [d3] at e3
              rw [d4] at e4
              rw [Nat.mul_comm 2 (k - 1)] at e3 e4
              exact ⟨e3, e4⟩
            clear hbc hbs e1 e2
            simp -dsimp (disch := omega) [h2, h5, h6, hb, e1', e2', hlen]
            unfold segN at hck
            by_cases c3 : N = 0
            · simp only [c3, if_true, if_neg (show ¬ (3 : Int) = 0 by decide)] at hck
              rw [hck] at hK
              simp -dsimp (disch := omega) [c3]
              exact RetF.same hwf (by simp) (Nat.zero_le _) (fun i hi => by simp [Hp.blks_alloc, Nat.ne_of_lt hi]) hK
            have c3' : ¬ (N : Int) = 0 := by omega
            rw [if_neg c3] at hck
            by_cases c4 : 65535 < N
            · simp only [if_pos c4, if_neg (show ¬ (5 : Int) = 0 by decide)] at hck
              rw [hck] at hK
              have c4' : 65535 < (N : Int) := by omega
              simp -dsimp (disch := omega) [c3, c3', c4']
              exact RetF.same hwf (by simp) (Nat.zero_le _) (fun i hi => by simp [Hp.blks_alloc, Nat.ne_of_lt hi]) hK
            have c4' : ¬ 65535 < (N : Int) := by omega
            rw [if_neg c4] at hck
            simp -dsimp (disch := omega) [c3, c3', c4', h2, h5, h6, hb, e1']
            refine lies_call hZl g1 ?_
            cases hh : hasN 2147483648 (2147483648 + Z) g.a N with
            | false =>
              simp only [hh, if_true, if_neg (show ¬ (6 : Int) = 0 by decide)] at hck
              rw [hck] at hK
              simp -dsimp (disch := omega)
              exact RetF.same hwf (by simp) (Nat.zero_le _) (fun i hi => by simp [Hp.blks_alloc, Nat.ne_of_lt hi]) hK
            | true =>
              simp only [hh, reduceCtorEq, if_false] at hck
              have hle : g.a + N ≤ 2147483648 + Z := by
                have := hh
                unfold hasN at this
                simp only [Bool.and_eq_true, decide_eq_true_eq] at this
                omega
              by_cases ck : 0 < k
              · have ck' : 0 < (k : Int) := by omega
                obtain ⟨g', hg'⟩ : ∃ g', l[k - 1]? = some g' := ⟨l[k - 1], by simp [show k - 1 < l.length by omega]⟩
                have hen' := hz1 g' ck hg'
                obtain ⟨p1, p2⟩ := hpv g' ck hg'
                obtain ⟨N', hN'⟩ : ∃ N', N' = g'.b.length := ⟨_, rfl⟩
                have hlen' : (txt g'.b).size = N' := by rw [hN']; rfl
                rw [← hN'] at hen'
                have ek : ((k : Int) - 1) = ((k - 1 : Nat) : Int) := by omega
                clear hpv hz1
                simp -dsimp (disch := omega) [h2, h5, h6, ck', ck, hb, e1', e2', ek, p1, p2, hlen']
                by_cases c5 : g.a < en
                · have c5' : (g.a : Int) < (g'.a : Int) + N' := by omega
                  simp only [if_pos c5, if_neg (show ¬ (12 : Int) = 0 by decide)] at hck
                  rw [hck] at hK
                  simp -dsimp (disch := omega) [c5']
                  exact RetF.same hwf (by simp) (Nat.zero_le _) (fun i hi => by simp [Hp.blks_alloc, Nat.ne_of_lt hi]) hK
                · have c5' : ¬ (g.a : Int) < (g'.a : Int) + N' := by omega
                  simp only [if_neg c5, if_true] at hck
                  simp -dsimp (disch := omega) [c5', h2, h5, h6]
                  exact ⟨⟨k + 1, by simp, by omega, g.a + N, hck, fun h0 => by omega, fun g'' _ hg'' => by rw [Nat.add_sub_cancel, hg] at hg''; cases hg''; rw [hN], by omega⟩, by simp [ivN]; omega⟩
              · have k0 : k = 0 := by omega
                subst k0
                have hen' := hz0 rfl
                subst hen'
                clear hpv hz1
                simp only [if_neg (Nat.not_lt_zero _), if_true] at hck
                simp -dsimp (disch := omega) [h2, h5, h6]
                exact ⟨⟨1, by simp, by omega, g.a + N, hck, fun h0 => by omega, fun g'' _ hg'' => by rw [Nat.sub_self, hg] at hg''; cases hg''; rw [hN], by omega⟩, by simp [ivN]; omega⟩
          · have : k = l.length := by omega
            subst this
            simp -dsimp (disch := omega) [h2, h5, h6]
            rw [hck, List.drop_length, show chkL 2147483648 (2147483648 + Z) [] en = 0 from rfl] at hK
            exact RetF.same hwf (by simp) (Nat.zero_le _) (fun i hi => by simp [Hp.blks_alloc, Nat.ne_of_lt hi]) hK
    · rw [if_pos c1] at hK
      simp -dsimp (disch := omega) [c1]
      refine refEntry_call hZl hx ?_
      rw [← hr]
      simp -dsimp (disch := omega) [c1]
      exact RetF.same hwf (by simp) (Nat.zero_le _) (fun i hi => by simp [Hp.blks_alloc, Nat.ne_of_lt hi]) hK
end Go.Proofs.YtcbagjhbmdmjfaaDoor
namespace Go.Proofs.YtcbagjhbmdmjfaaDoor
set_option maxRecDepth 100000
open Go Go.Mini Go.Proofs.Tryd

def told (F : ByteArray) (a e : Int) (x : Nat) (v : Value) : Value := .agg #[.string F, .int .i64 a, .int .i64 e, .int .u64 x, v]
theorem bad_call {F : ByteArray} {a e : Int} {h : Hp} {K : Value → Hp → Prop} (hK : K (told F a e 0 (.slice none 0 0)) h) : ACall prog 45 [.string F, .int .i64 a, .int .i64 e] h K := by
  refine acallF_of tb0 func45 rfl rfl mixed (by kernel_rfl) fun hwf => ?_
  simp -dsimp (disch := omega)
  exact RetF.same hwf (by simp [told]) (by simp [told, vtop, vtopL]) (fun i hi => by simp [Hp.blks_alloc, Nat.ne_of_lt hi]) hK
def tb12 : Nat → Marks := fun k => if k = 3 then ⟨[2, 5], fun _ => True⟩ else if k = 7 then ⟨[7, 10, 14, 17, 20, 24], fun _ => True⟩ else ⟨[], fun _ => True⟩
theorem refBuild_call {x : Nat} {l : List Sg} {v : Value} {n : Int} {h : Hp} {K : Value → Hp → Prop} (hx : x < 18446744073709551616) (hv : Sl h 2 l.length (sgC l) v) (hl : ∀ g ∈ l, g.ok) (hL : l.length < 9223372036854775808)
    (hK1 : chkI x l n ≠ 0 → K (.tuple #[.string (txt []), .int .i64 (chkI x l n)]) h) (hK2 : chkI x l n = 0 → K (.tuple #[.string (txt (bldS x l)), .int .i64 0]) h) : ACall prog 12 [imV x v, .int .i64 n] h K := by
  refine acallF_of tb12 func12 rfl rfl mixed (by kernel_rfl) fun hwf => ?_
  have hvb := sblk_lt (n := h.next) (v := v) (by have := hwf.args (imV x v) (by simp); simp [imV, vtop, vtopL] at this; omega)
  obtain ⟨va, vc, rfl⟩ := hv.slice
  simp -dsimp (disch := omega) [imV]
  refine refCheck_call (x := x) (l := l) hx (hv.mono fun b hb => by rw [blks_alloc_ne _ _ _ (by have := hvb b hb; omega)]) hl hL ?_
  obtain ⟨r, hr⟩ : ∃ r, r = chkI x l n := ⟨_, rfl⟩
  rw [← hr] at hK1 hK2 ⊢
  by_cases c : r = 0
  · have hK := hK2 c
    have b1 := (chkI_small (hr.symm.trans c)).2
    have b3 := (chkI_small (hr.symm.trans c)).1
    simp -dsimp (disch := omega) [c, tb12]
    refine refBytes_call (by omega) ?_
    rw [wide8]
    simp -dsimp (disch := first | omega | (simp [digs_length]; done) | (simp [digs_length]; omega)) [tb12]
    refine refBytes_call (by omega) ?_
    rw [wide1]
    simp -dsimp (disch := first | omega | (simp [digs_length]; done) | (simp [digs_length]; omega)) [tb12]
    refine awp_loop (fun t h' => h' = h.alloc ⟨#[.int .u64 x, .slice va l.length vc], 1, true⟩ ∧ ∃ k : Nat, t 2 = .pointer (some ⟨h.next, 0, none⟩) ∧ t 7 = .int .i64 k ∧ k ≤ l.length ∧ t 6 = .string (txt (headS x l.length ++ (l.take k).flatMap recS))) (fun t _ => l.length - ivN (t 7)) ?_ ?_
    · simp -dsimp
      exact ⟨0, rfl, Nat.zero_le _, by simp [headS]⟩
    · rintro t _ ⟨rfl, k, h2, h7, hk, h6⟩
      refine vcF_sound mixed (tb := tb12) _ (by kernel_rfl) ?_
      simp -dsimp (disch := omega) [h2, h6, h7]
      refine CondF_dec (fun hc => ?_) (fun hc => ?_)
      · have hkl : k < l.length := by omega
        obtain ⟨g, hg⟩ : ∃ g, l[k]? = some g := ⟨l[k], by simp [hkl]⟩
        obtain ⟨g1, g2⟩ := hl g (List.mem_of_getElem? hg)
        obtain ⟨_, ⟨_, c, e, h0⟩ | ⟨a, c, b, e0, hb, hbs, hbc⟩⟩ := hv
        · omega
        cases e0
        have hab := hvb _ rfl
        obtain ⟨d1, d2⟩ := sgC_at l k g hg
        have e1 := hbc (2 * k) (by omega)
        have e2 := hbc (2 * k + 1) (by omega)
        rw [d1] at e1
        rw [d2] at e2
        rw [Nat.mul_comm 2 k] at e1 e2
        have e1' : b.cells[a.off + k * 2]? = some (.int .u64 g.a) := e1
        have e2' : b.cells[a.off + k * 2 + 1]? = some (.string (txt g.b)) := e2
        obtain ⟨N, hN⟩ : ∃ N, N = g.b.length := ⟨_, rfl⟩
        have hlen : (txt g.b).size = N := by rw [hN]; rfl
        have hr2 : recS g = digs g.a 8 ++ digs (N : Int) 2 ++ g.b := by unfold recS; rw [hN]
        have b4 := (b1 g (List.mem_of_getElem? hg)).2
        rw [← hN] at b4 g2
        have b2 : ((l.take k).flatMap recS).length ≤ 65545 * 8 := by
          have := flat_le (l := l.take k) fun g' hg' => (b1 g' (List.mem_of_mem_take hg')).2
          have := List.length_take_le k l
          omega
        have b5 := headS_length x l.length
        clear hbc hbs e1 e2
        simp -dsimp (disch := omega) [h2, h6, h7, hb, e1', tb12]
        refine refBytes_call (by omega) ?_
        rw [wide8]
        simp -dsimp (disch := first | omega | (simp only [txt_size, List.length_append, digs_length]; omega)) [h2, h6, h7, hb, e1', e2', hlen, tb12]
        refine refBytes_call (by omega) ?_
        rw [wide2]
        simp -dsimp (disch := first | omega | (simp only [txt_size, List.length_append, digs_length]; omega)) [h2, h6, h7, hb, e1', e2', hlen, tb12]
        refine ⟨⟨k + 1, by simp, by omega, ?_⟩, by simp [ivN]; omega⟩
        rw [take_snoc hg, List.flatMap_append]
        simp [hr2]
      · have : k = l.length := by omega
        subst this
        rw [List.take_length] at h6
        have b2 : (l.flatMap recS).length ≤ 65545 * 8 := by
          have := flat_le (l := l) fun g' hg' => (b1 g' hg').2
          omega
        have b5 := headS_length x l.length
        have b6 : ((txt (bodyS x l)).size : Int) ≤ 1000000 := by rw [bodyS, txt_size, List.length_append]; omega
        have b7 := sumTo_range (txt (bodyS x l)) (txt (bodyS x l)).size
        rw [show headS x l.length ++ List.flatMap recS l = bodyS x l from rfl] at h6
        simp -dsimp (disch := omega) [h2, h6, h7]
        refine refSum_call (by omega) ?_
        unfold bldS at hK
        obtain ⟨q, hq⟩ := Int.eq_ofNat_of_zero_le b7.1
        rw [hq] at hK b7 ⊢
        simp -dsimp (disch := omega) [h2, h6, h7]
        refine refBytes_call (by omega) ?_
        rw [wide4]
        simp -dsimp (disch := first | omega | (simp only [txt_size, List.length_append, digs_length] at *; omega)) [h2, h6, h7]
        exact RetF.same hwf (by simp) (by simp [vtop, vtopL]) (fun i hi => by simp [Hp.blks_alloc, Nat.ne_of_lt hi]) hK
  · have hK := hK1 c
    simp -dsimp (disch := omega) [c]
    refine refCheck_call (x := x) (l := l) hx (hv.mono fun b hb => by rw [blks_alloc_ne _ _ _ (by have := hvb b hb; omega)]) hl hL ?_
    rw [← hr]
    simp -dsimp (disch := omega) [c]
    exact RetF.same hwf (by simp) (Nat.zero_le _) (fun i hi => by simp [Hp.blks_alloc, Nat.ne_of_lt hi]) hK
end Go.Proofs.YtcbagjhbmdmjfaaDoor
namespace Go.Proofs.YtcbagjhbmdmjfaaDoor
set_option maxRecDepth 100000
open Go Go.Mini Go.Proofs.Tryd

theorem bAt_12 {S : List UInt8} (h : 13 ≤ S.length) : bAt (txt S) 12 = ((numN ((S.drop 12).take 1) : Nat) : Int) := by
  obtain ⟨b, hb⟩ : ∃ b, S[12]? = some b := ⟨S[12], by simp [show 12 < S.length by omega]⟩
  rw [bAt_list (txt S) 12 b (by rw [txt_data]; exact hb), drop_cons hb, ← numL_nat]
  simp [numL]
theorem ex {S : List UInt8} (i j : Nat) : (txt S).extract i j = txt ((S.drop i).take (j - i)) := ext_txt S i j
theorem num_call {l : List UInt8} {h : Hp} {K : Value → Hp → Prop} (hl : l.length ≤ 8) (hK : K (.int .u64 (numN l : Nat)) h) : ACall prog 46 [.string (txt l)] h K :=
  refNumber_call (T := txt l) hl (by rw [numTo_txt, numL_nat]; exact hK)
theorem numN_le8 (l : List UInt8) (h : l.length ≤ 8) : numN l < 18446744073709551616 := by
  have h1 := numL_range8 l h
  have := numL_nat l
  omega
def preL (L : List Sg) : Flt ⊕ (List Sg × Nat) → Flt ⊕ (List Sg × Nat)
  | .inl z => .inl z
  | .inr (l, a) => .inr (L ++ l, a)
theorem preL_nil (r : Flt ⊕ (List Sg × Nat)) : preL [] r = r := by cases r <;> rfl
theorem preL_pre (L M : List Sg) (r : Flt ⊕ (List Sg × Nat)) : preL L (preL M r) = preL (L ++ M) r := by cases r <;> simp [preL]
theorem docL_at_bad {S : List UInt8} {f e a en k : Nat} {z : Flt} (h : docS S f e a en = .inl z) : docL S f e (k + 1) a en = .inl z := by
  unfold docL; rw [h]
theorem docL_at_good {S : List UInt8} {f e a en k : Nat} {g : Sg} (h : docS S f e a en = .inr g) : docL S f e (k + 1) a en = preL [g] (docL S f e k (a + 10 + g.b.length) (g.a + g.b.length)) := by
  conv => lhs; unfold docL
  rw [h]
  dsimp only
  cases docL S f e k (a + 10 + g.b.length) (g.a + g.b.length) <;> rfl
/-- What stands behind the segments. -/
def tailP (S : List UInt8) (x : Nat) : Flt ⊕ (List Sg × Nat) → Tld
  | .inl z => .bad z
  | .inr (l, a) =>
      if S.length < a + 4 then .bad (sSum, a, 4)
      else if numL ((S.drop a).take 4) ≠ sumL (S.take a) then .bad (sSum, a, 7)
      else if a + 4 < S.length then .bad (sEnd, a + 4, 5)
      else .good x l
set_option maxHeartbeats 4000000 in
theorem refParse_call {S : List UInt8} {n : Int} {h : Hp} {K : Value → Hp → Prop} (hS : S.length ≤ 4611686018427387904)
    (hK : ∀ h' w, Ext h h' → Row h.next h' 2 (prL S n).length (sgC (prL S n)) w → K (told (prE S n).field (prE S n).place (prE S n).code (prX S n) w) h') : ACall prog 17 [.string (txt S), .int .i64 n] h K := by
  refine acallF_of tb0 func17 rfl rfl mixed (by kernel_rfl) fun hwf => ?_
  have hsz : (txt S).size = S.length := rfl
  by_cases c : n < 1 ∨ 16 < n
  · unfold prE prX prL at hK
    simp only [if_pos c] at hK
    have hK2 : ∀ h', Ext h h' → K (told (txt []) (-1) 2 0 (.slice none 0 0)) h' := fun h' x => hK h' _ x (Row.nil _ _ _)
    by_cases c0 : n < 1
    · simp -dsimp (disch := omega) [c0]
      refine bad_call ?_
      simp -dsimp (disch := omega) [told]
      exact RetF.all (by simp [told]) (hK2 _ ⟨by simp, fun i hi => by simp [Hp.blks_alloc, Nat.ne_of_lt hi]⟩)
    · have c1 : 16 < n := by omega
      simp -dsimp (disch := omega) [c0, c1]
      refine bad_call ?_
      simp -dsimp (disch := omega) [told]
      exact RetF.all (by simp [told]) (hK2 _ ⟨by simp, fun i hi => by simp [Hp.blks_alloc, Nat.ne_of_lt hi]⟩)
  · obtain ⟨m, rfl⟩ := Int.eq_ofNat_of_zero_le (show 0 ≤ n by omega)
    have hm : 1 ≤ m ∧ m ≤ 16 := by omega
    unfold prE prX prL at hK
    simp only [if_neg c, Int.toNat_natCast] at hK
    have cm : ¬ (m : Int) < 1 := by omega
    have cm2 : ¬ 16 < (m : Int) := by omega
    obtain ⟨Z, hZ⟩ : ∃ Z, Z = m * 4096 := ⟨_, rfl⟩
    have hZ' : (m : Int) * 4096 = Z := by omega
    have hE : endP m = 2147483648 + Z := by unfold endP; rw [hZ]
    rw [hE] at hK
    have hZl : Z ≤ 65536 := by omega
    clear hE hm
    have hKb : ∀ z, docP S 2147483648 (2147483648 + Z) = .bad z → ∀ h', Ext h h' → K (told z.1 z.2.1 z.2.2 0 (.slice none 0 0)) h' := fun z e h' x => by
      have := hK h' (.slice none 0 0) x (by rw [e]; exact Row.nil _ _ _)
      rw [e] at this
      exact this
    have hKg : ∀ x l, docP S 2147483648 (2147483648 + Z) = .good x l → ∀ h' w, Ext h h' → Row h.next h' 2 l.length (sgC l) w → K (told (txt []) (-1) 0 x w) h' := fun x l e h' w y r => by
      have := hK h' w y (by rw [e]; exact r)
      rw [e] at this
      exact this
    clear hK
    simp -dsimp (disch := omega) [cm, cm2, hZ', hsz]
    by_cases c1 : S.length < 4
    · have c1' : (S.length : Int) < 4 := by omega
      have e : docP S 2147483648 (2147483648 + Z) = .bad (sMagic, 0, 4) := by unfold docP; rw [if_pos c1]
      simp -dsimp (disch := omega) [c1, c1']
      refine bad_call ?_
      simp -dsimp (disch := omega) [told]
      exact RetF.all (by simp [told, sMagic, sEntry, sCount, sSum, sEnd, sAddr, sLength, sBytes]) (hKb _ e _ ⟨by simp; try omega, fun i hi => by simp [Hp.blks_alloc, Hp.blks_set, Nat.ne_of_lt hi, Nat.ne_of_lt (Nat.lt_succ_of_lt hi)]⟩)
    have c1' : ¬ (S.length : Int) < 4 := by omega
    have x4 : (txt S).extract 0 4 = txt (S.take 4) := by rw [ex]; rfl
    simp -dsimp (disch := omega) [c1, c1', hsz, x4]
    by_cases c2 : S.take 4 ≠ magicL
    · have c2' : ¬ S.take 4 = [65, 76, 77, 49] := c2
      have e : docP S 2147483648 (2147483648 + Z) = .bad (sMagic, 0, 3) := by unfold docP; rw [if_neg c1, if_pos c2]
      simp -dsimp (disch := omega) [c2']
      refine bad_call ?_
      simp -dsimp (disch := omega) [told]
      exact RetF.all (by simp [told, sMagic, sEntry, sCount, sSum, sEnd, sAddr, sLength, sBytes]) (hKb _ e _ ⟨by simp; try omega, fun i hi => by simp [Hp.blks_alloc, Hp.blks_set, Nat.ne_of_lt hi, Nat.ne_of_lt (Nat.lt_succ_of_lt hi)]⟩)
    have c2' : S.take 4 = [65, 76, 77, 49] := by simpa [magicL] using c2
    simp -dsimp (disch := omega) [c2', hsz]
    by_cases c3 : S.length < 12
    · have c3' : (S.length : Int) < 12 := by omega
      have e : docP S 2147483648 (2147483648 + Z) = .bad (sEntry, 4, 4) := by unfold docP; rw [if_neg c1, if_neg c2, if_pos c3]
      simp -dsimp (disch := omega) [c3, c3']
      refine bad_call ?_
      simp -dsimp (disch := omega) [told]
      exact RetF.all (by simp [told, sMagic, sEntry, sCount, sSum, sEnd, sAddr, sLength, sBytes]) (hKb _ e _ ⟨by simp; try omega, fun i hi => by simp [Hp.blks_alloc, Hp.blks_set, Nat.ne_of_lt hi, Nat.ne_of_lt (Nat.lt_succ_of_lt hi)]⟩)
    have c3' : ¬ (S.length : Int) < 12 := by omega
    have x12 : (txt S).extract 4 12 = txt ((S.drop 4).take 8) := by rw [ex]
    simp -dsimp (disch := omega) [c3, c3', hsz, x12]
    refine num_call (List.length_take_le _ _) ?_
    have hX := numN_le8 ((S.drop 4).take 8) (List.length_take_le _ _)
    obtain ⟨X, eX⟩ : ∃ X, X = numN ((S.drop 4).take 8) := ⟨_, rfl⟩
    rw [← eX] at hX ⊢
    simp -dsimp (disch := omega)
    refine refEntry_call hZl hX ?_
    obtain ⟨r, er⟩ : ∃ r, r = entN 2147483648 (2147483648 + Z) X := ⟨_, rfl⟩
    rw [← er]
    by_cases c4 : r ≠ 0
    · have e : docP S 2147483648 (2147483648 + Z) = .bad (sEntry, 4, r) := by unfold docP; rw [if_neg c1, if_neg c2, if_neg c3, ← eX, ← er, if_pos c4]
      simp -dsimp (disch := omega) [c4]
      refine refEntry_call hZl hX ?_
      rw [← er]
      simp -dsimp (disch := omega) [c4]
      refine bad_call ?_
      simp -dsimp (disch := omega) [told]
      exact RetF.all (by simp [told, sMagic, sEntry, sCount, sSum, sEnd, sAddr, sLength, sBytes]) (hKb _ e _ ⟨by simp; try omega, fun i hi => by simp [Hp.blks_alloc, Hp.blks_set, Nat.ne_of_lt hi, Nat.ne_of_lt (Nat.lt_succ_of_lt hi)]⟩)
    have c4' : r = 0 := by omega
    simp -dsimp (disch := omega) [c4', hsz]
    by_cases c5 : S.length < 13
    · have c5' : (S.length : Int) < 13 := by omega
      have e : docP S 2147483648 (2147483648 + Z) = .bad (sCount, 12, 4) := by unfold docP; rw [if_neg c1, if_neg c2, if_neg c3, ← eX, ← er, if_neg c4, if_pos c5]
      simp -dsimp (disch := omega) [c5, c5']
      refine bad_call ?_
      simp -dsimp (disch := omega) [told]
      exact RetF.all (by simp [told, sMagic, sEntry, sCount, sSum, sEnd, sAddr, sLength, sBytes]) (hKb _ e _ ⟨by simp; try omega, fun i hi => by simp [Hp.blks_alloc, Hp.blks_set, Nat.ne_of_lt hi, Nat.ne_of_lt (Nat.lt_succ_of_lt hi)]⟩)
    have c5' : ¬ (S.length : Int) < 13 := by omega
    have h12 := bAt_12 (S := S) (by omega)
    have hN1 := numN_lt1 ((S.drop 12).take 1) (List.length_take_le _ _)
    obtain ⟨N, eN⟩ : ∃ N, N = numN ((S.drop 12).take 1) := ⟨_, rfl⟩
    rw [← eN] at hN1 h12
    simp -dsimp (disch := omega) [c5, c5', hsz, h12]
    by_cases c6 : 8 < N
    · have c6' : 8 < (N : Int) := by omega
      have e : docP S 2147483648 (2147483648 + Z) = .bad (sCount, 12, 5) := by unfold docP; rw [if_neg c1, if_neg c2, if_neg c3, ← eX, ← er, if_neg c4, if_neg c5, ← eN, if_pos c6]
      simp -dsimp (disch := omega) [c6, c6']
      refine bad_call ?_
      simp -dsimp (disch := omega) [told]
      exact RetF.all (by simp [told, sMagic, sEntry, sCount, sSum, sEnd, sAddr, sLength, sBytes]) (hKb _ e _ ⟨by simp; try omega, fun i hi => by simp [Hp.blks_alloc, Hp.blks_set, Nat.ne_of_lt hi, Nat.ne_of_lt (Nat.lt_succ_of_lt hi)]⟩)
    have c6' : ¬ 8 < (N : Int) := by omega
    have eP : docP S 2147483648 (2147483648 + Z) = tailP S X (docL S 2147483648 (2147483648 + Z) N 13 0) := by
      unfold docP
      rw [if_neg c1, if_neg c2, if_neg c3, ← eX, ← er, if_neg c4, if_neg c5, ← eN, if_neg c6]
      rfl
    simp -dsimp (disch := omega) [c6, c6', hsz]
    refine awp_loop (fun t h' => ∃ k a en L v, k ≤ N ∧ t 0 = .string (txt S) ∧ t 4 = .pointer (some ⟨h.next, 0, none⟩) ∧ t 5 = .int .u64 Z ∧ t 6 = .pointer (some ⟨h.next + 1, 0, none⟩) ∧ t 7 = .int .i64 (a : Nat) ∧ t 8 = .int .u64 (en : Nat) ∧ t 9 = .int .i64 (k : Nat) ∧ a ≤ S.length ∧ en < 4294967296 ∧ L.length = k ∧ docL S 2147483648 (2147483648 + Z) N 13 0 = preL L (docL S 2147483648 (2147483648 + Z) (N - k) a en) ∧ (∀ i, i < h.next → h'.blks i = h.blks i) ∧ h.next + 2 ≤ h'.next ∧ Row (h.next + 2) h' 2 L.length (sgC L) v ∧ h'.blks h.next = some ⟨#[.string (txt []), .int .i64 0, .int .i64 0, .int .u64 0, .slice none 0 0], 1, true⟩ ∧ h'.blks (h.next + 1) = some ⟨#[.int .u64 X, v], 1, true⟩) (fun t _ => N - ivN (t 9)) ?_ ?_
    · simp -dsimp
      refine ⟨0, Nat.zero_le _, 13, rfl, 0, rfl, rfl, by omega, by omega, [], rfl, by simp [preL_nil], fun i hi => by simp (disch := omega), Row.nil _ _ _⟩
    · rintro t h' ⟨k, a, en, L, v, hk, h0, h4, h5, h6, h7, h8, h9, ha, hen, hLk, hdL, hs, hn, hrow, hb0, hb1⟩
      refine vcF_sound mixed (tb := tb0) _ (by kernel_rfl) ?_
      simp -dsimp (disch := omega) [h0, h9, h12, hsz]
      by_cases hc : k < N
      · have hc' : (k : Int) < N := by omega
        have eB : ∀ z, docS S 2147483648 (2147483648 + Z) a en = .inl z → docP S 2147483648 (2147483648 + Z) = .bad z := fun z hz => by
          rw [eP, hdL, show N - k = (N - (k + 1)) + 1 by omega, docL_at_bad hz]
          rfl
        simp -dsimp (disch := omega) [h0, h7, h9, hc, hc', hsz]
        by_cases d1 : S.length < a + 8
        · have d1' : (S.length : Int) < (a : Int) + 8 := by omega
          have e : docP S 2147483648 (2147483648 + Z) = .bad (sAddr, a, 4) := eB _ (by unfold docS; rw [if_pos d1])
          simp -dsimp (disch := omega) [d1, d1', h0, h4, h7]
          refine bad_call ?_
          simp -dsimp (disch := omega) [h0, h4, h7, hb0, told]
          exact RetF.all (by simp [told, sMagic, sEntry, sCount, sSum, sEnd, sAddr, sLength, sBytes, h4]) (hKb _ e _ ⟨by simp; try omega, fun i hi => by simp (disch := omega) [hs i hi]⟩)
        have d1' : ¬ (S.length : Int) < (a : Int) + 8 := by omega
        simp -dsimp (disch := omega) [d1, d1', h0, h7, hsz]
        by_cases d2 : S.length < a + 10
        · have d2' : (S.length : Int) < (a : Int) + 10 := by omega
          have e : docP S 2147483648 (2147483648 + Z) = .bad (sLength, a + 8, 4) := eB _ (by unfold docS; rw [if_neg d1, if_pos d2])
          simp -dsimp (disch := omega) [d2, d2', h0, h4, h7]
          refine bad_call ?_
          simp -dsimp (disch := omega) [h0, h4, h7, hb0, told]
          exact RetF.all (by simp [told, sMagic, sEntry, sCount, sSum, sEnd, sAddr, sLength, sBytes, h4]) (hKb _ e _ ⟨by simp; try omega, fun i hi => by simp (disch := omega) [hs i hi]⟩)
        have d2' : ¬ (S.length : Int) < (a : Int) + 10 := by omega
        have y1 : (txt S).extract a (a + 8) = txt ((S.drop a).take 8) := by rw [ex, show a + 8 - a = 8 by omega]
        have y2 : (txt S).extract (a + 8) (a + 10) = txt ((S.drop (a + 8)).take 2) := by rw [ex, show a + 10 - (a + 8) = 2 by omega]
        have w1 : ((a : Int) + 8).toNat = a + 8 := by omega
        have w2 : ((a : Int) + 10).toNat = a + 10 := by omega
        simp -dsimp (disch := omega) [d2, d2', h0, h7, hsz, w1, y1]
        refine num_call (List.length_take_le _ _) ?_
        simp -dsimp (disch := omega) [h0, h7, hsz, w1, w2, y2]
        refine num_call (Nat.le_trans (List.length_take_le _ _) (by omega)) ?_
        have hP := numN_le8 ((S.drop a).take 8) (List.length_take_le _ _)
        have hB := numN_lt2 ((S.drop (a + 8)).take 2) (List.length_take_le _ _)
        obtain ⟨P, eP1⟩ : ∃ P, P = numN ((S.drop a).take 8) := ⟨_, rfl⟩
        obtain ⟨B, eB1⟩ : ∃ B, B = numN ((S.drop (a + 8)).take 2) := ⟨_, rfl⟩
        rw [← eP1] at hP ⊢
        rw [← eB1] at hB ⊢
        simp -dsimp (disch := omega) [h0, h7]
        by_cases d3 : B = 0
        · have d3' : (B : Int) = 0 := by omega
          have e : docP S 2147483648 (2147483648 + Z) = .bad (sLength, a + 8, 3) := eB _ (by unfold docS; rw [if_neg d1, if_neg d2, ← eB1, if_pos d3])
          simp -dsimp (disch := omega) [d3, d3', h0, h4, h7]
          refine bad_call ?_
          simp -dsimp (disch := omega) [h0, h4, h7, hb0, told]
          exact RetF.all (by simp [told, sMagic, sEntry, sCount, sSum, sEnd, sAddr, sLength, sBytes, h4]) (hKb _ e _ ⟨by simp; try omega, fun i hi => by simp (disch := omega) [hs i hi]⟩)
        have d3' : ¬ (B : Int) = 0 := by omega
        simp -dsimp (disch := omega) [d3, d3', h0, h5, h7]
        refine lies_call hZl hP ?_
        obtain ⟨hh, ehh⟩ : ∃ hh, hh = hasN 2147483648 (2147483648 + Z) P B := ⟨_, rfl⟩
        rw [← ehh]
        by_cases d4 : hh = false
        · subst d4
          have e : docP S 2147483648 (2147483648 + Z) = .bad (sAddr, a, 6) := eB _ (by unfold docS; rw [if_neg d1, if_neg d2, ← eB1, if_neg d3, ← eP1, if_pos ehh.symm])
          simp -dsimp (disch := omega) [h0, h4, h7]
          refine bad_call ?_
          simp -dsimp (disch := omega) [h0, h4, h7, hb0, told]
          exact RetF.all (by simp [told, sMagic, sEntry, sCount, sSum, sEnd, sAddr, sLength, sBytes, h4]) (hKb _ e _ ⟨by simp; try omega, fun i hi => by simp (disch := omega) [hs i hi]⟩)
        have d4' : hh = true := by simpa using d4
        subst d4'
        have hle : P + B ≤ 2147483648 + Z := by
          have := ehh.symm
          unfold hasN at this
          simp only [Bool.and_eq_true, decide_eq_true_eq] at this
          omega
        simp -dsimp (disch := omega) [h0, h5, h7, h8]
        by_cases d5 : P < en
        · have d5' : (P : Int) < en := by omega
          have e : docP S 2147483648 (2147483648 + Z) = .bad (sAddr, a, 12) := eB _ (by unfold docS; rw [if_neg d1, if_neg d2, ← eB1, if_neg d3, ← eP1, if_neg (by rw [← ehh]; simp), if_pos d5])
          simp -dsimp (disch := omega) [d5, d5', h0, h4, h7]
          refine bad_call ?_
          simp -dsimp (disch := omega) [h0, h4, h7, hb0, told]
          exact RetF.all (by simp [told, sMagic, sEntry, sCount, sSum, sEnd, sAddr, sLength, sBytes, h4]) (hKb _ e _ ⟨by simp; try omega, fun i hi => by simp (disch := omega) [hs i hi]⟩)
        have d5' : ¬ (P : Int) < en := by omega
        simp -dsimp (disch := omega) [d5, d5', h0, h7, hsz]
        by_cases d6 : S.length < a + 10 + B
        · have d6' : (S.length : Int) < (a : Int) + 10 + B := by omega
          have e : docP S 2147483648 (2147483648 + Z) = .bad (sBytes, a + 10, 4) := eB _ (by unfold docS; rw [if_neg d1, if_neg d2, ← eB1, if_neg d3, ← eP1, if_neg (by rw [← ehh]; simp), if_neg d5, if_pos d6])
          simp -dsimp (disch := omega) [d6, d6', h0, h4, h7]
          refine bad_call ?_
          simp -dsimp (disch := omega) [h0, h4, h7, hb0, told]
          exact RetF.all (by simp [told, sMagic, sEntry, sCount, sSum, sEnd, sAddr, sLength, sBytes, h4]) (hKb _ e _ ⟨by simp; try omega, fun i hi => by simp (disch := omega) [hs i hi]⟩)
        have d6' : ¬ (S.length : Int) < (a : Int) + 10 + B := by omega
        have y3 : (txt S).extract (a + 10) (a + 10 + B) = txt ((S.drop (a + 10)).take B) := by rw [ex, show a + 10 + B - (a + 10) = B by omega]
        have w3 : ((a : Int) + 10 + B).toNat = a + 10 + B := by omega
        have hl : ((S.drop (a + 10)).take B).length = B := by rw [List.length_take, List.length_drop]; omega
        have eG : docS S 2147483648 (2147483648 + Z) a en = .inr ⟨P, (S.drop (a + 10)).take B⟩ := by unfold docS; rw [if_neg d1, if_neg d2, ← eB1, if_neg d3, ← eP1, if_neg (by rw [← ehh]; simp), if_neg d5, if_neg d6]
        obtain ⟨G, eG1⟩ : ∃ G, G = (S.drop (a + 10)).take B := ⟨_, rfl⟩
        rw [← eG1] at y3 hl eG
        obtain ⟨va, vc, rfl⟩ := hrow.slice
        simp -dsimp (disch := omega) [d6, d6', h0, h6, h7, hsz, hb1, w2, w3, y3]
        refine app_rowJ (hrow.alloc _) (by simp; omega) (src_slice _ _ _ _ _ #[.int .u64 P, .string (txt G)] (by simp (disch := omega))) (by omega) (by simp) (by unfold ROOM; omega) ?_
        intro v2 h2' r1 r2 r2j r3 r4
        obtain ⟨va2, vc2, rfl⟩ := r1.slice
        have r2' : h2'.next = h'.next + 2 := by rw [r2]; simp
        have hvb : ∀ b, sblk (.slice va L.length vc) = some b → h.next + 2 ≤ b ∧ b < h'.next := hrow.blk
        have hne : ∀ i, i < h.next + 2 → sblk (.slice va L.length vc) ≠ some i := fun i hi e => by have := (hvb i e).1; omega
        have hb0' : h2'.blks h.next = some ⟨#[.string (txt []), .int .i64 0, .int .i64 0, .int .u64 0, .slice none 0 0], 1, true⟩ := by rw [r4 _ (by simp; omega) (hne _ (by omega))]; simp (disch := omega) [hb0]
        have hb1' : h2'.blks (h.next + 1) = some ⟨#[.int .u64 X, .slice va L.length vc], 1, true⟩ := by rw [r4 _ (by simp; omega) (hne _ (by omega))]; simp (disch := omega) [hb1]
        simp -dsimp (disch := omega) [h0, h6, h7, h9, hb1']
        refine ⟨⟨k + 1, by omega, h4, h5, a + 10 + B, by omega, P + B, by omega, by simp, by omega, by omega, L ++ [⟨P, G⟩], by simp; omega, ?_, ?_, by omega, ?_, ?_⟩, by simp [ivN]; omega⟩
        · rw [hdL, show N - k = (N - (k + 1)) + 1 by omega, docL_at_good eG, preL_pre, hl]
        · intro i hi
          rw [if_neg (by omega), r4 i (by simp; omega) (hne i (by omega))]
          simp (disch := omega) [hs i hi]
        · rw [sgC_append, sgC_one, List.length_append]
          exact r1.set _ _ (by rw [r3]; simp; omega)
        · exact hb0'
      · have hk' : k = N := by omega
        subst hk'
        have eD : docP S 2147483648 (2147483648 + Z) = tailP S X (.inr (L, a)) := by
          rw [eP, hdL, Nat.sub_self, show docL S 2147483648 (2147483648 + Z) 0 a en = .inr ([], a) from rfl]
          simp [preL]
        unfold tailP at eD
        dsimp only at eD
        simp -dsimp (disch := omega) [h0, h7, h9, hsz]
        by_cases d1 : S.length < a + 4
        · have d1' : (S.length : Int) < (a : Int) + 4 := by omega
          have e := eD
          rw [if_pos d1] at e
          simp -dsimp (disch := omega) [d1, d1', h0, h4, h7]
          refine bad_call ?_
          simp -dsimp (disch := omega) [h0, h4, h7, hb0, told]
          exact RetF.all (by simp [told, sMagic, sEntry, sCount, sSum, sEnd, sAddr, sLength, sBytes, h4]) (hKb _ e _ ⟨by simp; try omega, fun i hi => by simp (disch := omega) [hs i hi]⟩)
        have d1' : ¬ (S.length : Int) < (a : Int) + 4 := by omega
        have w1 : ((a : Int) + 4).toNat = a + 4 := by omega
        have y1 : (txt S).extract a (a + 4) = txt ((S.drop a).take 4) := by rw [ex, show a + 4 - a = 4 by omega]
        have y2 : (txt S).extract 0 a = txt (S.take a) := by rw [ex]; rfl
        have hC := numN_le8 ((S.drop a).take 4) (Nat.le_trans (List.length_take_le _ _) (by omega))
        have hCi := numL_nat ((S.drop a).take 4)
        have b1 := sumL_lt (S.take a)
        obtain ⟨C, eC⟩ : ∃ C, C = numN ((S.drop a).take 4) := ⟨_, rfl⟩
        obtain ⟨U, hU⟩ := Int.eq_ofNat_of_zero_le b1.1
        rw [← eC] at hC hCi
        rw [if_neg d1, hCi, hU] at eD
        simp -dsimp (disch := omega) [d1, d1', h0, h7, hsz, w1, y1, y2]
        refine num_call (Nat.le_trans (List.length_take_le _ _) (by omega)) ?_
        rw [← eC]
        simp -dsimp (disch := omega) [h0, h7, hsz, y2]
        refine refSum_call (by rw [txt_size, List.length_take]; omega) ?_
        rw [sumTo_txt, hU]
        simp -dsimp (disch := omega) [h0, h7, hsz]
        by_cases d2 : (C : Int) ≠ U
        · have d2' : ¬ C = U := by omega
          have e := eD
          rw [if_pos d2] at e
          simp -dsimp (disch := omega) [d2, d2', h0, h4, h7]
          refine bad_call ?_
          simp -dsimp (disch := omega) [h0, h4, h7, hb0, told]
          exact RetF.all (by simp [told, sMagic, sEntry, sCount, sSum, sEnd, sAddr, sLength, sBytes, h4]) (hKb _ e _ ⟨by simp; try omega, fun i hi => by simp (disch := omega) [hs i hi]⟩)
        have d2' : C = U := by omega
        rw [if_neg d2] at eD
        simp -dsimp (disch := omega) [d2', h0, h7, hsz]
        by_cases d3 : a + 4 < S.length
        · have d3' : (a : Int) + 4 < S.length := by omega
          have e := eD
          rw [if_pos d3] at e
          simp -dsimp (disch := omega) [d3, d3', h0, h4, h7]
          refine bad_call ?_
          simp -dsimp (disch := omega) [h0, h4, h7, hb0, told]
          exact RetF.all (by simp [told, sMagic, sEntry, sCount, sSum, sEnd, sAddr, sLength, sBytes, h4]) (hKb _ e _ ⟨by simp; try omega, fun i hi => by simp (disch := omega) [hs i hi]⟩)
        have d3' : ¬ (a : Int) + 4 < S.length := by omega
        rw [if_neg d3] at eD
        obtain ⟨va, vc, rfl⟩ := hrow.slice
        simp -dsimp (disch := omega) [d3, d3', h4, h6, hb0, hb1]
        exact RetF.all (by simp [told, h4]) (hKg X L eD _ _ ⟨by simp; omega, fun i hi => by simp (disch := omega) [hs i hi]⟩ ((Row.low hrow (by omega)).set _ _ fun e => by have := (hrow.blk _ e).1; omega))
end Go.Proofs.YtcbagjhbmdmjfaaDoor
