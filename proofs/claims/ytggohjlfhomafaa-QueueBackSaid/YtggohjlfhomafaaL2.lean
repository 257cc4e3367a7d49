/-
  What a queue's bytes tell; Load.
-/
import Derived.Test.YtggohjlfhomafaaL1
import Derived.Test.YtggohjlfhomafaaQ6
set_option linter.unusedSimpArgs false
set_option linter.unusedVariables false
set_option linter.unusedSectionVars false
namespace Go.Proofs.Ytggohjlfhomafaa
open Go Go.Mini Go.Proofs.Try

def ldF (o : Nat) : Nat → List UInt8 → Except Nat (List ByteArray × List UInt8)
  | 0, r => .ok ([], r)
  | _ + 1, [] => .error 4
  | k + 1, n :: r => if o < n.toNat then .error 3 else if r.length < n.toNat then .error 4 else match ldF o k (r.drop n.toNat) with | .ok (L, r') => .ok (txt (r.take n.toNat) :: L, r') | .error e => .error e
def cont (M : List ByteArray) : Except Nat (List ByteArray × List UInt8) → Except Nat (List ByteArray × List UInt8)
  | .ok (L, r) => .ok (M ++ L, r)
  | .error e => .error e
theorem cont_cons (M : List ByteArray) (S : ByteArray) (x : Except Nat (List ByteArray × List UInt8)) : cont M (match x with | .ok (L, r') => .ok (S :: L, r') | .error e => .error e) = cont (M ++ [S]) x := by
  rcases x with e | ⟨L, r⟩ <;> simp [cont]
def hdR : Option (List UInt8) → Nat
  | some (x :: _) => x.toNat
  | _ => 0
def tlR : Option (List UInt8) → Option (List UInt8)
  | some (_ :: l) => some l
  | _ => none
def txR (n : Nat) : Option (List UInt8) → List UInt8
  | some l => if l.length < n then [] else l.take n
  | none => []
def nxR (n : Nat) : Option (List UInt8) → Option (List UInt8)
  | some l => if l.length < n then none else some (l.drop n)
  | none => none
theorem hdR_lt (r : Option (List UInt8)) : hdR r < 256 := by
  unfold hdR
  split
  · exact UInt8.toNat_lt _
  · omega
theorem txR_len (n : Nat) (r : Option (List UInt8)) : (txR n r).length ≤ n := by
  unfold txR
  split
  · split
    · simp
    · simp; omega
  · simp
/-- What the loop is to tell, by what is left of the source. -/
def LInv (o j : Nat) (T : Except Nat (List ByteArray × List UInt8)) (M : List ByteArray) : Option (List UInt8) → Prop
  | none => T = .error 4
  | some l => cont M (ldF o j l) = T
theorem LInv.step {o j : Nat} {T : Except Nat (List ByteArray × List UInt8)} {M : List ByteArray} {r : Option (List UInt8)} (hi : LInv o (j + 1) T M r) : (o < hdR r → T = .error 3) ∧ (hdR r ≤ o → LInv o j T (M ++ [txt (txR (hdR r) (tlR r))]) (nxR (hdR r) (tlR r))) := by
  rcases r with _ | _ | ⟨x, l⟩
  · exact ⟨fun h => by simp [hdR] at h, fun _ => hi⟩
  · exact ⟨fun h => by simp [hdR] at h, fun _ => hi.symm⟩
  · have hi' : cont M (ldF o (j + 1) (x :: l)) = T := hi
    simp only [ldF] at hi'
    refine ⟨fun h => ?_, fun h => ?_⟩
    · have h : o < x.toNat := h
      rw [if_pos h] at hi'
      exact hi'.symm
    · have h : x.toNat ≤ o := h
      rw [if_neg (by omega)] at hi'
      show LInv o j T (M ++ [txt (if l.length < x.toNat then [] else l.take x.toNat)]) (if l.length < x.toNat then none else some (l.drop x.toNat))
      by_cases hc : l.length < x.toNat
      · rw [if_pos hc] at hi'
        rw [if_pos hc, if_pos hc]
        exact hi'.symm
      · rw [if_neg hc, cont_cons] at hi'
        rw [if_neg hc, if_neg hc]
        exact hi'
def finF : Except Nat (List ByteArray × List UInt8) → Except Nat (List ByteArray)
  | .ok (L, []) => .ok L
  | .ok (_, _ :: _) => .error 3
  | .error e => .error e
def toF (o : Nat) : List UInt8 → Except Nat (List ByteArray × List UInt8)
  | [] => .error 4
  | m :: r => ldF o m.toNat r
/-- The queue that bytes tell, or the error. -/
def loadF (d o : Nat) (L : List UInt8) : Except Nat (List ByteArray) := if d < hdR (some L) then .error 3 else finF (toF o L)
theorem loadF_fin (d o : Nat) (L : List UInt8) : loadF d o L = if d < hdR (some L) then .error 3 else finF (toF o L) := rfl
theorem LInv.init (o : Nat) (L : List UInt8) : LInv o (hdR (some L)) (toF o L) [] (tlR (some L)) := by
  cases L with
  | nil => rfl
  | cons m r =>
    show cont [] (ldF o m.toNat r) = ldF o m.toNat r
    cases ldF o m.toNat r with
    | error e => rfl
    | ok x => rfl
def lastR (M : List ByteArray) : Option (List UInt8) → Except Nat (List ByteArray)
  | none => .error 4
  | some [] => .ok M
  | some (_ :: _) => .error 3
theorem LInv.last {o : Nat} {T : Except Nat (List ByteArray × List UInt8)} {M : List ByteArray} {r : Option (List UInt8)} (hi : LInv o 0 T M r) : finF T = lastR M r := by
  rcases r with _ | _ | ⟨x, l⟩
  · rw [show T = .error 4 from hi]; rfl
  · have : cont M (.ok ([], [])) = T := hi
    rw [← this]; simp [cont, finF, lastR]
  · have : cont M (.ok ([], x :: l)) = T := hi
    rw [← this]; simp [cont, finF, lastR]

section
variable {h : Hp} {K : Value → Hp → Prop}
theorem takeR {b s : Nat} {r : Option (List UInt8)} (hs : SrcL h b s r) (hK : ∀ h', SrcL h' b s (tlR r) → Mod s h h' → K (.int .u64 (hdR r)) h') : ACall prog 29 [.pointer (some ⟨s, 0, none⟩), .int .i64 1] h K := by
  rcases r with _ | _ | ⟨x, l⟩
  · exact takeN hs hK
  · exact take0 hs hK
  · exact take1 hs hK
theorem textR {b s n : Nat} {r : Option (List UInt8)} (hs : SrcL h b s r) (hK : ∀ h', SrcL h' b s (nxR n r) → Mod s h h' → K (.string (txt (txR n r))) h') : ACall prog 30 [.pointer (some ⟨s, 0, none⟩), .int .i64 n] h K := by
  rcases r with _ | l
  · exact textN hs hK
  · simp only [nxR, txR] at hK
    by_cases hc : l.length < n
    · simp only [if_pos hc] at hK
      exact text0 hs hc hK
    · simp only [if_neg hc] at hK
      exact text1 hs (by omega) hK

set_option maxHeartbeats 1000000 in
theorem load_call {a b : Nat} (ha : a < 256) (hb : b < 256) {L : List UInt8} (hl : L.length ≤ 2000) (k0 : newOk a b = false → K (.tuple #[.pointer none, .int .i64 2]) h) (k1 : newOk a b = true → ∀ e, loadF a b L = .error e → K (.tuple #[.pointer none, .int .i64 e]) h)
    (k2 : newOk a b = true → ∀ M, loadF a b L = .ok M → ∀ h' p, h.next ≤ p → p < h'.next → Ext h h' → Que h' p M a b → K (.tuple #[ptr p, .int .i64 0]) h') : ACall prog 21 [.int .u8 a, .int .u8 b, .string (txt L)] h K := by
  refine acallF_of tb0 func21 rfl rfl mixed (by kernel_rfl) fun hwf => ?_
  simp -dsimp (disch := omega)
  refine newQ ha hb (fun hn b1 q1 => ?_) (fun hn => ?_)
  · have k1 := k1 hn
    have k2 := k2 hn
    clear k0
    rw [loadF_fin] at k1 k2
    obtain ⟨d1, d2, d3⟩ := q1.dep
    have e1 := Ext.alloc h b1
    have n1 : (h.alloc b1).next = h.next + 1 := rfl
    generalize h.alloc b1 = g1 at *
    simp -dsimp (disch := omega)
    refine ofL hl fun g2 s s2 sl e2 => ?_
    rw [n1] at s2
    have n2 := e2.le
    have q2 := q1.mono (e2.same _ (by omega))
    have hsb : s ≠ h.next := by obtain ⟨_, _, _, _, _, _, _, h1, _⟩ := s2; omega
    have e12 := e1.trans e2
    simp -dsimp (disch := omega)
    refine takeR s2 fun g3 s3 m3 => ?_
    have n3 := m3.le
    have q3 := q2.mono (m3.same _ (by omega) (fun e => hsb e.symm))
    have e3 : Ext h g3 := ⟨by have := e12.le; omega, fun i hi => (m3.same i (by have := e12.le; omega) (by obtain ⟨_, _, _, _, _, _, _, h1, _⟩ := s2; omega)).trans (e12.same i hi)⟩
    have hm := hdR_lt (some L)
    have hinit := LInv.init b L
    generalize hdR (some L) = m at *
    generalize tlR (some L) = r at *
    generalize toF b L = T at *
    by_cases c1 : a < m
    · rw [if_pos c1] at k1
      have c1' : (a : Int) < m := by omega
      simp -dsimp (disch := omega) [c1, c1']
      exact RetF.same hwf (by simp) (Nat.zero_le _) e3.same (k1 3 rfl)
    · rw [if_neg c1] at k1 k2
      have c1' : ¬ (a : Int) < m := by omega
      simp -dsimp (disch := omega) [c1, c1']
      refine awp_loop (fun t h' => Ext h h' ∧ h.next < h'.next ∧ ∃ (k : Nat) (M : List ByteArray) (r : Option (List UInt8)), k ≤ m ∧ t 8 = ptr h.next ∧ t 10 = .pointer (some ⟨s, 0, none⟩) ∧ t 30 = .int .u64 m ∧ t 31 = .int .u64 k ∧ M.length = k ∧ Que h' h.next M a b ∧ SrcL h' (h.next + 1) s r ∧ LInv b (m - k) T M r) (fun t _ => m - ivN (t 31)) ?_ ?_
      · simp -dsimp (disch := omega)
        exact ⟨e3, by omega, 0, by omega, rfl, [], rfl, q3, r, s3, hinit⟩
      · rintro t h' ⟨he, hne, k, M, r, hk, g8, g10, g30, g31, hMk, hq, hs, hi⟩
        refine vcF_sound mixed (tb := tb0) _ (by kernel_rfl) ?_
        simp -dsimp (disch := omega) [g30, g31]
        refine CondF_dec (fun hc => ?_) (fun hc => ?_)
        · obtain ⟨j, hj⟩ : ∃ j, m - k = j + 1 := ⟨m - k - 1, by omega⟩
          rw [hj] at hi
          obtain ⟨st1, st2⟩ := hi.step
          simp -dsimp (disch := omega) [g8, g10, g30, g31]
          have hsb : h.next + 1 ≤ s := by obtain ⟨_, _, _, _, _, _, _, h1, _⟩ := hs; exact h1
          refine takeR hs fun h1 s1 m1 => ?_
          have n1 := m1.le
          have q1 := hq.mono (m1.same _ (by omega) (by omega))
          have hn := hdR_lt r
          generalize hdR r = n at *
          generalize tlR r = r1 at *
          by_cases c2 : b < n
          · have c2' : (b : Int) < n := by omega
            obtain ⟨rg, f, mm, hqb, _⟩ := q1
            unfold qB at hqb
            rw [st1 c2] at k1
            simp -dsimp (disch := omega) [g8, g10, g30, g31, c2, c2', hqb]
            exact RetF.same hwf (by simp) (Nat.zero_le _) (fun i hi => (m1.same i (by omega) (by omega)).trans (he.same i hi)) (k1 3 rfl)
          · have c2' : ¬ (b : Int) < n := by omega
            have q1' := q1
            obtain ⟨rg, f, mm, hqb, _⟩ := q1
            unfold qB at hqb
            simp -dsimp (disch := omega) [g8, g10, g30, g31, c2, c2', hqb]
            refine textR s1 fun h2 s2 m2 => ?_
            have n2 := m2.le
            have q2 := q1'.mono (m2.same _ (by omega) (by omega))
            have hln := txR_len n r1
            have st3 := st2 (by omega)
            generalize txR n r1 = S at *
            simp -dsimp (disch := omega) [g8, g10, g30, g31]
            refine sendQ q2 (by rw [txt_size]; omega) (fun e => absurd e (by rw [txt_size]; omega)) (fun _ e => absurd e (by omega)) (fun _ _ b2 q3 => ?_)
            simp -dsimp (disch := omega) [g8, g10, g30, g31]
            have hmk : m - (k + 1) = j := by omega
            refine ⟨⟨⟨by simp; have := he.le; omega, fun i hi => ?_⟩, by omega, k + 1, by omega, by simp, M ++ [txt S], by simp [hMk], q3, nxR n r1, s2.mono (by simp) (fun i hi _ => blks_set_ne _ _ _ _ (by omega)), by rw [hmk]; exact st3⟩, by simp [ivN]; omega⟩
            rw [blks_set_ne _ _ _ _ (by omega)]
            exact (m2.same i (by have := he.le; omega) (by omega)).trans ((m1.same i (by have := he.le; omega) (by omega)).trans (he.same i hi))
        · have : k = m := by omega
          subst this
          rw [Nat.sub_self] at hi
          have hlast := hi.last
          rw [hlast] at k1 k2
          simp -dsimp (disch := omega) [g8, g10, g30, g31]
          refine endL hs ?_
          rcases r with _ | _ | ⟨x, l⟩
          · simp -dsimp (disch := omega) [g8]
            exact RetF.same hwf (by simp) (Nat.zero_le _) he.same (k1 4 rfl)
          · simp -dsimp (disch := omega) [g8]
            exact RetF.all (by simp [g8]) (k2 M rfl _ _ (Nat.le_refl _) hne he hq)
          · simp -dsimp (disch := omega) [g8]
            exact RetF.same hwf (by simp) (Nat.zero_le _) he.same (k1 3 rfl)
  · simp -dsimp (disch := omega)
    exact RetF.all (by simp) (k0 hn)
end
end Go.Proofs.Ytggohjlfhomafaa
