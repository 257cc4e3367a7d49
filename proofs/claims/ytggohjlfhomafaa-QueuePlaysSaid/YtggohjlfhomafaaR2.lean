/-
  The document's Load.
-/
import Derived.Test.YtggohjlfhomafaaR1
set_option linter.unusedSimpArgs false
set_option linter.unusedVariables false
set_option linter.unusedSectionVars false
namespace Go.Proofs.Ytggohjlfhomafaa
open Go Go.Mini Go.Proofs.Try

theorem row_sl {m : Nat} {h : Hp} {esz n : Nat} {cs : List Value} {v : Value} (hr : Row m h esz n cs v) : Sl h esz n cs v := by
  obtain ⟨h0, ⟨rfl, rfl⟩ | ⟨b, h1, h2, rfl, h3⟩⟩ := hr
  · exact ⟨h0, .inl ⟨_, _, rfl, rfl⟩⟩
  · exact ⟨h0, .inr ⟨_, _, _, rfl, h3, by simp [h0], fun j _ => by simp⟩⟩
theorem row_cap {m : Nat} {h : Hp} {esz n : Nat} {cs : List Value} {v : Value} (hr : Row m h esz n cs v) : ∀ a k c, v = .slice (some a) k c → k ≤ c / 2 := by
  intro a k c e
  obtain ⟨h0, ⟨rfl, rfl⟩ | ⟨b, h1, h2, rfl, h3⟩⟩ := hr
  · cases e
  · cases e; omega
theorem str_cons (m : UInt8) (l : List UInt8) : (txt (m :: l)).size = l.length + 1 ∧ bAt (txt (m :: l)) 0 = m.toNat ∧ (txt (m :: l)).extract 1 (l.length + 1) = txt l := by
  refine ⟨by rw [txt_size]; rfl, rfl, ?_⟩
  rw [ext_txt]
  congr 1
  show l.take (l.length + 1 - 1) = l
  rw [Nat.add_sub_cancel, List.take_length]
section
variable {h : Hp} {K : Value → Hp → Prop}
set_option maxHeartbeats 1000000 in
theorem refLoad_call {a b : Nat} (ha : a < 256) (hb : b < 256) {L : List UInt8} {p : Nat} (hp0 : newOk a b = true → (∃ M, loadF a b L = .ok M) → p < h.next) (hl : L.length ≤ 2000) (k0 : newOk a b = false → K (.tuple #[.pointer none, .int .i64 2]) h) (k1 : newOk a b = true → ∀ e, loadF a b L = .error e → K (.tuple #[.pointer none, .int .i64 e]) h)
    (k2 : newOk a b = true → ∀ M, loadF a b L = .ok M → ∀ h' r, h.next ≤ r → Ext h h' → RefQ h' p r M a b → K (.tuple #[ptr r, .int .i64 0]) h') : ACall prog 24 [.int .u8 a, .int .u8 b, .string (txt L)] h K := by
  refine acallF_of tb0 func24 rfl rfl mixed (by kernel_rfl) fun hwf => ?_
  simp -dsimp (disch := omega)
  refine refNew_call ha hb (fun hn => ?_) (fun hn => ?_)
  · have k1 := k1 hn
    have k2 := k2 hn
    have hp0 := hp0 hn
    clear k0
    rw [loadF_fin] at k1 k2 hp0
    have hok' : 1 ≤ a ∧ a ≤ 16 ∧ 1 ≤ b ∧ b ≤ 64 := by simpa [newOk, and_assoc] using hn
    unfold refC
    cases L with
    | nil =>
      simp -dsimp (disch := omega)
      exact RetF.same hwf (by simp) (Nat.zero_le _) (fun i hi => by simp (disch := omega)) (k1 4 rfl)
    | cons m l =>
      have hm := UInt8.toNat_lt m
      have hinit : LInv b m.toNat (toF b (m :: l)) [] (some l) := LInv.init b (m :: l)
      rw [show hdR (some (m :: l)) = m.toNat from rfl] at k1 k2 hp0
      generalize toF b (m :: l) = T at *
      have hll : l.length ≤ 1999 := by simp at hl; omega
      obtain ⟨s1, s2, s3⟩ := str_cons m l
      obtain ⟨S, hS⟩ : ∃ S, S = txt (m :: l) := ⟨_, rfl⟩
      rw [← hS] at s1 s2 s3 ⊢
      obtain ⟨z, hz⟩ : ∃ z, z = S.size := ⟨_, rfl⟩
      have hz1 : z = l.length + 1 := by omega
      have z0 : ¬ z = 0 := by omega
      rw [← hz1] at s3
      obtain ⟨m, hm'⟩ : ∃ m', m' = m.toNat := ⟨_, rfl⟩
      rw [← hm'] at s2 k1 k2 hm hinit hp0
      by_cases c1 : a < m
      · rw [if_pos c1] at k1
        have c1' : (a : Int) < (m : Int) := by omega
        simp -dsimp (disch := omega) [← hz, z0, s2, s3, c1, c1']
        exact RetF.same hwf (by simp) (Nat.zero_le _) (fun i hi => by simp (disch := omega)) (k1 3 rfl)
      · rw [if_neg c1] at k1 k2 hp0
        have c1' : ¬ (a : Int) < (m : Int) := by omega
        simp -dsimp (disch := omega) [← hz, z0, s2, s3, c1, c1']
        refine awp_loop (fun t h' => h.next < h'.next ∧ (∀ i, i < h.next → h'.blks i = h.blks i) ∧ ∃ (k : Nat) (M : List ByteArray) (l : List UInt8) (vs : Value), k ≤ m ∧ t 8 = ptr h.next ∧ t 10 = .int .i64 m ∧ t 11 = .int .i64 k ∧ t 2 = .string (txt l) ∧ l.length ≤ 1999 ∧ M.length = k ∧ h'.blks h.next = some ⟨#[vs, .int .i64 a, .int .i64 b], 1, true⟩ ∧ Row (h.next + 1) h' 1 k (strsC M) vs ∧ (∀ s ∈ M, s.size ≤ 64) ∧ LInv b (m - k) T M (some l)) (fun t _ => m - ivN (t 11)) ?_ ?_
        · simp -dsimp (disch := omega)
          exact ⟨fun i hi he => absurd he (by omega), 0, by omega, rfl, hll, [], rfl, Row.nil _ _ _, by simp, hinit⟩
        · rintro t h' ⟨hn1, hs, k, M, l, vs, hk, g8, g10, g11, g2, hl2, hMk, hq, hrow, h64, hi⟩
          refine vcF_sound mixed (tb := tb0) _ (by kernel_rfl) ?_
          simp -dsimp (disch := omega) [g10, g11]
          refine CondF_dec (fun hc => ?_) (fun hc => ?_)
          · obtain ⟨j, hj⟩ : ∃ j, m - k = j + 1 := ⟨m - k - 1, by omega⟩
            rw [hj] at hi
            obtain ⟨st1, st2⟩ := hi.step
            cases l with
            | nil =>
              have hT : T = .error 4 := hi.symm
              rw [hT] at k1
              simp -dsimp (disch := omega) [g2, g8, g10, g11]
              exact RetF.same hwf (by simp) (Nat.zero_le _) hs (k1 4 rfl)
            | cons x l =>
              have hx := UInt8.toNat_lt x
              simp only [show hdR (some (x :: l)) = x.toNat from rfl, show tlR (some (x :: l)) = some l from rfl] at st1 st2
              obtain ⟨s1, s2, s3⟩ := str_cons x l
              obtain ⟨S, hS⟩ : ∃ S, S = txt (x :: l) := ⟨_, rfl⟩
              rw [← hS] at s1 s2 s3 g2
              obtain ⟨z, hz⟩ : ∃ z, z = S.size := ⟨_, rfl⟩
              have hz1 : z = l.length + 1 := by omega
              have z0 : ¬ z = 0 := by omega
              rw [← hz1] at s3
              obtain ⟨x, hx'⟩ : ∃ x', x' = x.toNat := ⟨_, rfl⟩
              rw [← hx'] at s2 st1 st2 hx
              have hl3 : l.length ≤ 1998 := by simp at hl2; omega
              by_cases c2 : b < x
              · have c2' : (b : Int) < x := by omega
                rw [st1 c2] at k1
                simp -dsimp (disch := omega) [g2, g8, g10, g11, ← hz, z0, s2, s3, hq, c2, c2']
                exact RetF.same hwf (by simp) (Nat.zero_le _) hs (k1 3 rfl)
              · have c2' : ¬ (b : Int) < x := by omega
                have st3 := st2 (by omega)
                simp only [txR, nxR] at st3
                obtain ⟨y, hy⟩ : ∃ y, y = (txt l).size := ⟨_, rfl⟩
                have hyl : y = l.length := by rw [hy, txt_size]
                by_cases c3 : l.length < x
                · simp only [if_pos c3] at st3
                  have hT : T = .error 4 := st3
                  rw [hT] at k1
                  have c3' : y < x := by omega
                  have c3i : (y : Int) < x := by omega
                  simp -dsimp (disch := omega) [g2, g8, g10, g11, ← hz, z0, s2, s3, hq, c2, c2', ← hy, c3', c3i]
                  exact RetF.same hwf (by simp) (Nat.zero_le _) hs (k1 4 rfl)
                · simp only [if_neg c3] at st3
                  have c3' : ¬ y < x := by omega
                  have c3i : ¬ (y : Int) < x := by omega
                  have e1 : (txt l).extract 0 x = txt (l.take x) := by rw [ext_txt]; rfl
                  have e2 : (txt l).extract x y = txt (l.drop x) := by
                    rw [ext_txt]
                    congr 1
                    rw [List.take_of_length_le]
                    simp; omega
                  obtain ⟨vsa, vsc, rfl⟩ := hrow.slice
                  simp -dsimp (disch := omega) [g2, g8, g10, g11, ← hz, z0, s2, s3, hq, c2, c2', ← hy, c3', c3i, e1, e2]
                  have vne : sblk (.slice vsa k vsc) ≠ some h.next := fun e => by have := (hrow.blk _ e).1; omega
                  have hk16 : k < 16 := by omega
                  refine app_row (hrow.alloc _) (by simp; omega) (src_slice _ _ _ _ _ #[.string (txt (l.take x))] (by simp (disch := omega))) (by omega) (by simp) (by unfold ROOM; omega) ?_
                  intro v2 h2 r1 r2 r3 r4
                  obtain ⟨va2, vc2, rfl⟩ := r1.slice
                  have r2' : h2.next = h'.next + 2 := by rw [r2]; simp
                  have hq2 : h2.blks h.next = some ⟨#[.slice vsa k vsc, .int .i64 a, .int .i64 b], 1, true⟩ := by rw [r4 _ (by simp; omega) vne]; simp (disch := omega) [hq]
                  have hsb2 : sblk (.slice va2 (k + 1) vc2) ≠ some h.next := by rw [r3]; simp; omega
                  simp -dsimp (disch := omega) [g2, g8, g10, g11, hq2, e2, ← hy]
                  have hmk : m - (k + 1) = j := by omega
                  refine ⟨⟨by omega, fun i hi => ?_, k + 1, by omega, by simp, by omega, M ++ [txt (l.take x)], by simp [hMk], ?_, ?_, by rw [hmk]; exact st3⟩, by simp [ivN]; omega⟩
                  · rw [if_neg (by omega), r4 i (by simp; omega) fun e => by have := (hrow.blk _ e).1; omega]
                    simp (disch := omega) [hs i hi]
                  · rw [strsC_append]
                    exact r1.set _ _ hsb2
                  · intro S' hS'
                    rcases List.mem_append.1 hS' with h' | h'
                    · exact h64 S' h'
                    · obtain rfl : S' = txt (l.take x) := by simpa using h'
                      rw [txt_size, List.length_take]; omega
          · have : k = m := by omega
            subst this
            rw [Nat.sub_self] at hi
            have hlast := hi.last
            rw [hlast] at k1 k2 hp0
            cases l with
            | nil =>
              simp -dsimp (disch := omega) [g2, g8, g10, g11]
              have hp0 := hp0 ⟨M, rfl⟩
              refine RetF.all (by simp [g8]) (k2 M rfl h' h.next (Nat.le_refl _) ⟨by omega, hs⟩ ⟨vs, by rw [hq]; rfl, by rw [hMk]; exact row_sl hrow, by omega, hn1, fun x hx => ?_, by omega, by omega, by omega, h64, row_cap hrow⟩)
              have := hrow.blk x hx
              omega
            | cons x l =>
              have hx : ((txt (x :: l)).size : Int) = l.length + 1 := by rw [txt_size]; simp
              have hx2 : (txt (x :: l)).size = l.length + 1 := by rw [txt_size]; rfl
              simp -dsimp (disch := omega) [g2, g8, g10, g11, hx, hx2, -txt_size]
              exact RetF.same hwf (by simp) (Nat.zero_le _) hs (k1 3 rfl)
  · simp -dsimp (disch := omega)
    exact RetF.all (by simp) (k0 hn)
end
end Go.Proofs.Ytggohjlfhomafaa
