/-
  A table's length; a function over its windows.
-/
import Derived.Test.YtndnpmfoegkkeaaDoorN3
set_option linter.unusedSimpArgs false
set_option linter.unusedVariables false
set_option linter.unusedSectionVars false
namespace Go.Proofs.YtndnpmfoegkkeaaDoor
open Go Go.Mini Go.Proofs.Tryd
set_option maxRecDepth 100000

@[simp] theorem apQ_round_normal (K : Value → Hp → Prop) (t : Tm) (h : Hp) (u : Tag (roundQ K, t, h)) : apQ (roundQ K) .normal t h u = K (.bool true) h := _root_.id rfl
@[simp] theorem apQ_round_ret (K : Value → Hp → Prop) (t : Tm) (h : Hp) (u : Tag (roundQ K, t, h)) : apQ (roundQ K) .ret t h u = K (.bool false) { h with jump := some .ret } := _root_.id rfl

section
variable {P : Program} {n : Nat}
/-- A loop over a function that may be left by a return. -/
theorem awp_rangeJ (R : List Value → Hp → (Value → Hp → Prop) → Prop) (I J : Hp → Prop) {g : Operand} {ps : Array Tmp} {assign body : Code} {Q : APost} {t : Tm} {h : Hp} {gf : FuncId} {caps : Array Value} (hg : ev t g = .func (.func gf) #[] caps) (okg : okOpnd n g = true) (hps : ∀ p ∈ ps.toList, p < n) (na : hasRange assign = false) (nb : hasRange body = false)
    (HR : ∀ args hh K, R args hh K → (hh.jump = none ∧ h.next < hh.next ∧ args.length = ps.size) ∧ @Awp noEnv P n assign (thenQ (fun t1 hA => @Awp noEnv P n body (roundQ K) t1 hA) (fun _ _ _ => False)) (setPs t ps.toList args) hh)
    (HE : ∀ h', I h' → h'.jump = none ∧ apQ Q .normal t { h' with jump := h.jump } (.mk _)) (HJ : ∀ h', J h' → h'.jump = some .ret ∧ apQ Q .ret t { h' with jump := h.jump } (.mk _))
    (HC : ∀ E1 : REnv, E1.can = true → (∀ args hh K, R args hh K → @YCall E1 P h.next args hh K) → @ACall E1 P gf (.func (.yield h.next) #[] #[] :: caps.toList) ⟨h.next + 1, h.blks, none⟩ (fun _ h' => I h' ∨ J h')) : Awp P n (.rangeFunc g ps assign body) Q t h :=
  awp_rangeR R hg okg hps na nb HR fun E1 hcan hY => (HC E1 hcan hY).mono fun r h' hi => by
    unfold rangeQ
    rcases hi with hi | hi
    · obtain ⟨h1, h2⟩ := HE h' hi
      rw [h1]
      exact h2
    · obtain ⟨h1, h2⟩ := HJ h' hi
      rw [h1]
      exact h2
end

section
variable {h : Hp} {K : Value → Hp → Prop} {p : Nat} {l : List Win}
theorem is_call (q : Tab h p l) (hl : 0 < l.length) (hK : K (.bool true) h) : ACall prog 23 [ptr p] h K := by
  refine acallF_of tb0 func23 rfl rfl mixed (by kernel_rfl) fun hwf => ?_
  obtain ⟨vl, vb, t1, t2, t3, t4, t5, t6⟩ := q
  obtain ⟨va, vc, rfl⟩ := t2.slice
  have hl' : (0 : Int) < l.length := by omega
  simp -dsimp (disch := omega) [t1, hl, hl']
  exact RetF.same hwf (by simp) (Nat.zero_le _) (fun _ _ => rfl) hK
theorem length_call (q : Tab h p l) (hl : 0 < l.length) (hK : K (.int .u64 (sumS l : Nat)) h) : ACall prog 9 [ptr p] h K := by
  refine acallF_of tb0 func9 rfl rfl mixed (by kernel_rfl) fun hwf => ?_
  simp -dsimp (disch := omega)
  refine is_call q hl ?_
  obtain ⟨vl, vb, t1, t2, t3, t4, t5, t6⟩ := q
  obtain ⟨va, vc, rfl⟩ := t2.slice
  obtain ⟨z1, ⟨_, _, _, z2⟩ | ⟨a, c, b', rfl, z3, z4, z5⟩⟩ := t3
  · omega
  have z6 := z5 l.length (by omega)
  rw [begK_at l (Nat.le_refl _), List.take_length] at z6
  have z7 : a.off + l.length < b'.cells.size := by omega
  clear z5
  simp -dsimp (disch := omega) [t1, z3, z6, z7, -getElem?_pos]
  exact RetF.same hwf (by simp) (Nat.zero_le _) (fun _ _ => rfl) hK
theorem windows_call (hK : K (.func (.func 29) #[] #[ptr h.next]) (h.alloc ⟨#[ptr p], 1, true⟩)) : ACall prog 19 [ptr p] h K := by
  refine acallF_of tb0 func19 rfl rfl mixed (by kernel_rfl) fun hwf => ?_
  simp -dsimp (disch := omega)
  exact RetF.all (by simp) hK
/-- The same, with its slices. -/
def TabV (h : Hp) (p : Nat) (l : List Win) (vl vb : Value) : Prop :=
  h.blks p = some ⟨#[vl, vb], 1, true⟩ ∧ Sl h 2 l.length (winsC l) vl ∧ Sl h 1 (l.length + 1) (begK l l.length) vb ∧ p < h.next ∧ (∀ b, sblk vl = some b → b < h.next) ∧ (∀ b, sblk vb = some b → b < h.next)
theorem TabV.mono {h h' : Hp} {p : Nat} {l : List Win} {vl vb : Value} (t : TabV h p l vl vb) (hn : h.next ≤ h'.next) (hs : ∀ i, i < h.next → h'.blks i = h.blks i) : TabV h' p l vl vb := by
  obtain ⟨t1, t2, t3, t4, t5, t6⟩ := t
  exact ⟨by rw [hs _ t4]; exact t1, t2.mono fun b hb => hs _ (t5 b hb), t3.mono fun b hb => hs _ (t6 b hb), by omega, fun b hb => by have := t5 b hb; omega, fun b hb => by have := t6 b hb; omega⟩
set_option maxHeartbeats 1000000 in
/-- The windows, one behind the other. -/
theorem each_call [E : REnv] {L c : Nat} {vl vb : Value} (hcan : E.can = true) (J : Nat → Hp → Prop) (Jx : Hp → Prop) (q : TabV h p l vl vb) (hl : 0 < l.length) (hl2 : l.length ≤ 32) (hp : h.blks c = some ⟨#[ptr p], 1, true⟩)
    (hJ : ∀ k hh, J k hh → TabV hh p l vl vb ∧ hh.blks c = some ⟨#[ptr p], 1, true⟩ ∧ c < hh.next) (h0 : J 0 h)
    (hJa : ∀ k hh b, J k hh → J k (hh.alloc b))
    (hY : ∀ k hh w, l[k]? = some w → J k hh → YCall prog L [.int .u64 (sumS (l.take k) : Nat), .agg #[.int .u8 w.g, .int .u16 w.s]] hh (fun r h' => (r = .bool true ∧ J (k + 1) h') ∨ (r = .bool false ∧ Jx h')))
    (hK : ∀ h', J l.length h' ∨ Jx h' → K (.tuple #[]) h') : ACall prog 29 [.func (.yield L) #[] #[], ptr c] h K := by
  refine acallF_of tb0 func29 rfl rfl mixed (by kernel_rfl) fun hwf => ?_
  simp -dsimp (disch := omega) [hp]
  refine ACall.any (is_call ⟨vl, vb, q⟩ hl ?_)
  have q0 := q
  obtain ⟨t1, t2, t3, t4, t5, t6⟩ := q
  obtain ⟨va, vc, rfl⟩ := t2.slice
  obtain ⟨n, hn⟩ : ∃ n, n = l.length := ⟨_, rfl⟩
  rw [← hn] at t1
  simp -dsimp (disch := omega) [hp, t1]
  refine awp_loop (fun t h' => ∃ k : Nat, k ≤ n ∧ t 0 = .func (.yield L) #[] #[] ∧ t 1 = ptr c ∧ t 11 = .slice va n vc ∧ t 12 = .int .i64 n ∧ t 13 = .int .i64 k ∧ J k h') (fun t _ => n - ivN (t 13)) ?_ ?_
  · simp -dsimp (disch := omega)
    exact ⟨0, by omega, rfl, h0⟩
  · rintro t h' ⟨k, hk, g0, g1, g11, g12, g13, hj⟩
    refine vcF_sound mixed (tb := tb0) _ (by kernel_rfl) ?_
    simp -dsimp (disch := omega) [g11, g12, g13]
    refine CondF_dec (fun hc => ?_) (fun hc => ?_)
    · have hkl : k < l.length := by omega
      obtain ⟨w, hx⟩ : ∃ w, l[k]? = some w := ⟨l[k], List.getElem?_eq_getElem hkl⟩
      obtain ⟨⟨u1, u2, u3, u4, u5, u6⟩, u7, u8⟩ := hJ k h' hj
      rw [← hn] at u1
      obtain ⟨a', c', b', q2, fa, s1, x1, y1⟩ := sl_el (f := winC) (n := 2) winC_len u2 hx
      cases q2
      have hab := u5 _ rfl
      have x1' : b'.cells.extract (a'.off + k * 2) (a'.off + k * 2 + 2) = #[.int .u8 w.g, .int .u16 w.s] := x1
      clear x1 y1
      have hyc := hY k _ w hx (hJa k h' ⟨#[.int .u8 w.g, .int .u16 w.s], 1, true⟩ hj)
      have hja := hJa k h' ⟨#[.int .u8 w.g, .int .u16 w.s], 1, true⟩ hj
      obtain ⟨g, s⟩ := w
      simp only at x1' hyc hja
      obtain ⟨z1, ⟨_, _, _, z2⟩ | ⟨a, cb, bb, rfl, z3, z4, z5⟩⟩ := u3
      · omega
      have z6 := z5 k (by omega)
      rw [begK_at l (by omega)] at z6
      have z7 : a.off + k < bb.cells.size := by omega
      have z8 := u6 _ rfl
      clear z5
      simp -dsimp (disch := omega) [g0, g1, g11, g13, fa, s1, x1', u1, u7, z3, z6, z7, -getElem?_pos]
      refine ⟨hcan, YCall.mono hyc ?_⟩
      rintro r h2 (⟨rfl, hj2⟩ | ⟨rfl, hj2⟩)
      · simp -dsimp (disch := omega) [g0, g1, g11, g12, g13]
        exact ⟨⟨k + 1, by omega, by simp, hj2⟩, by simp [ivN]; omega⟩
      · simp -dsimp (disch := omega) [g0, g1, g11, g12, g13]
        exact RetF.all (by simp) (hK h2 (.inr hj2))
    · have : k = n := by omega
      subst this
      simp -dsimp (disch := omega) [g11, g12, g13]
      exact RetF.all (by simp) (hK h' (.inl (hn ▸ hj)))
end
end Go.Proofs.YtndnpmfoegkkeaaDoor
