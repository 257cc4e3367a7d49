/-
  What any calls of a queue answer is the document's: the law's body.
-/
import Derived.Test.YtggohjlfhomafaaR5
set_option linter.unusedSimpArgs false
set_option linter.unusedVariables false
set_option linter.unusedSectionVars false
namespace Go.Proofs.Ytggohjlfhomafaa
open Go Go.Mini Go.Proofs.Try

theorem set_same {h : Hp} {p : Nat} {b : Blk} (hb : h.blks p = some b) : h.set p b = h := by
  have : (h.set p b).blks = h.blks := by
    funext i
    rw [Hp.blks_set]
    split
    · rename_i e; rw [e, hb]
    · rfl
  cases h
  simp only [Hp.set] at this ⊢
  simp [this]
theorem sendW {h : Hp} {K : Value → Hp → Prop} {p d o : Nat} {M : List ByteArray} {S : ByteArray} (q : Que h p M d o) (hS : (S.size : Int) ≤ 9223372036854775807) (hK : ∀ (x : Nat) b' M', Que (h.set p b') p M' d o → K (.int .u8 x) (h.set p b')) : ACall prog 11 [ptr p, .string S] h K := by
  have hq := q
  obtain ⟨rg, f, m, hb, _⟩ := hq
  have e := set_same hb
  have hK0 : ∀ x : Nat, K (.int .u8 x) h := fun x => by have := hK x (qB rg f m d o) M (by rw [e]; exact q); rwa [e] at this
  exact sendQ q hS (fun _ => hK0 3) (fun _ _ => hK0 1) (fun _ _ b' q' => hK 0 b' _ q')
theorem recvW {h : Hp} {K : Value → Hp → Prop} {p d o : Nat} {M : List ByteArray} (q : Que h p M d o) (hK : ∀ s (x : Nat) b' M', Que (h.set p b') p M' d o → K (.tuple #[.string s, .int .u8 x]) (h.set p b')) : ACall prog 12 [ptr p] h K := by
  cases M with
  | nil =>
    have hq := q
    obtain ⟨rg, f, m, hb, _⟩ := hq
    have e := set_same hb
    refine recv0Q q ?_
    have := hK (txt []) 4 (qB rg f m d o) [] (by rw [e]; exact q)
    rwa [e] at this
  | cons s M => exact recvQ q fun b' q' => hK s 0 b' _ q'
section
variable {h : Hp} {K : Value → Hp → Prop}
set_option maxHeartbeats 2000000 in
theorem queuePlays_call {a b : Nat} (ha : a < 256) (hb : b < 256) {l : List Act} {v : Value} (hok : ∀ e ∈ l, e.ok) (hl : l.length < 9223372036854775808) (hv : Sl h 2 l.length (actsC l) v) (hK : K (.bool true) h) : ACall prog 4 [.int .u8 a, .int .u8 b, v] h K := by
  refine acallF_of tb0 func4 rfl rfl mixed (by kernel_rfl) fun hwf => ?_
  have hvb := sblk_lt (hwf.args v (by simp))
  have hv' := hv
  obtain ⟨va, vc, rfl⟩ := hv.slice
  simp -dsimp (disch := omega)
  refine newQ (a := a) (b := b) ha hb (fun hn b1 q1 => ?_) (fun hn => ?_)
  · simp -dsimp (disch := omega)
    refine refNew_call ha hb (fun _ => ?_) (fun hn' => absurd hn' (by simp [hn]))
    simp -dsimp (disch := omega)
    refine few_call hok hl (hv'.mono fun x hx => by have := hvb x hx; simp (disch := omega)) ?_
    cases hfew : fewL l with
    | false =>
      simp -dsimp (disch := omega)
      refine awake_call ?_
      simp -dsimp (disch := omega)
      exact RetF.same hwf (by simp) (Nat.zero_le _) (fun i hi => by simp (disch := omega)) hK
    | true =>
      obtain ⟨f1, f2⟩ := few_of hfew
      simp -dsimp (disch := omega)
      obtain ⟨d1, d2, d3⟩ := q1.dep
      obtain ⟨n, hn⟩ : ∃ n, n = l.length := ⟨_, rfl⟩
      refine awp_loop (fun t h' => h.next ≤ h'.next ∧ (∀ i, i < h.next → h'.blks i = h.blks i) ∧ ∃ (k p r : Nat) (M : List ByteArray), k ≤ n ∧ t 2 = .slice va l.length vc ∧ t 7 = ptr p ∧ t 9 = ptr r ∧ t 11 = .int .i64 k ∧ h.next ≤ p ∧ h.next ≤ r ∧ p < h'.next ∧ r < h'.next ∧ Que h' p M a b ∧ RefQ h' p r M a b) (fun t _ => n - ivN (t 11)) ?_ ?_
      · simp -dsimp (disch := omega)
        exact ⟨by omega, fun i hi => by rw [if_neg (by omega), if_neg (by omega)], 0, by omega, rfl, by omega, [], q1.mono (by simp (disch := omega)), ⟨.slice none 0 0, by simp (disch := omega), ⟨rfl, .inl ⟨_, _, rfl, rfl⟩⟩, by omega, by simp, fun x hx => by simp [sblk] at hx, d2, d3, by simp, by simp, fun a k c e => by cases e⟩⟩
      · rintro t h' ⟨hn1, hs, k, p, r, M, hk, g2, g7, g9, g11, hp0, hr0, hp, hrl, hq, hr⟩
        refine vcF_sound mixed (tb := tb0) _ (by kernel_rfl) ?_
        simp -dsimp (disch := omega) [g2, g11, g7, g9]
        refine CondF_dec (fun hc => ?_) (fun hc => ?_)
        · have hkl : k < l.length := by omega
          obtain ⟨e, hx⟩ : ∃ e, l[k]? = some e := ⟨l[k], List.getElem?_eq_getElem hkl⟩
          obtain ⟨a', c, b', q2, fa, s1, x1, y1⟩ := sl_el (f := actC) (n := 2) actC_len hv hx
          cases q2
          have hab : a'.block < h.next := hvb _ rfl
          rw [← hs _ hab] at fa
          have eo := hok e (List.mem_of_getElem? hx)
          have es := f2 e (List.mem_of_getElem? hx)
          have x1' : b'.cells.extract (a'.off + k * 2) (a'.off + k * 2 + 2) = #[.int .u8 e.what, .string (txt e.s)] := x1
          clear x1 y1
          obtain ⟨w, s⟩ := e
          simp only at x1' es
          have wlt : w < 256 := eo.1
          obtain ⟨c0, hc0⟩ : ∃ r, r = w % 8 := ⟨_, rfl⟩
          have e1 : (w : Int) % 8 = c0 := by omega
          have e2 : Int.tmod (w : Int) 8 = c0 := by rw [Int.tmod_eq_emod_of_nonneg (by omega)]; exact e1
          obtain ⟨S, hS⟩ : ∃ S, S = txt s := ⟨_, rfl⟩
          have hSs : S.size ≤ 100 := by rw [hS]; exact es
          rw [← hS] at x1'
          clear hS
          have hc8 : c0 < 8 := by omega
          have hrp : r ≠ p := by obtain ⟨_, _, _, h3, _⟩ := hr; exact h3
          by_cases c4 : c0 = 4
          · rw [c4] at e1 e2
            simp -dsimp (disch := omega) [g2, g11, fa, x1', s1, e1, e2, g7, g9]
            cases M with
            | nil =>
              refine ACallF.gen fun G hG => ?_
              have gn : h'.next ≤ G.next := by rw [hG]; simp
              have gs : ∀ i, i < h.next → G.blks i = h.blks i := fun i hi => by rw [hG]; simp (disch := omega) [hs i hi]
              have gq : Que G p [] a b := hq.mono (by rw [hG]; simp (disch := omega))
              have gr : RefQ G p r [] a b := hr.mono (by rw [hG]; simp) (fun i hi hn => by rw [hG]; simp (disch := omega))
              clear hG
              refine recv0Q gq ?_
              simp -dsimp (disch := omega) [g7, g9, e1, e2]
              refine refRecv0 gr ?_
              simp -dsimp (disch := omega) [g7, g9, e1, e2]
              refine alike_call gq (by omega) gr ?_
              simp -dsimp (disch := omega) [g2, g11, g7, g9]
              exact ⟨⟨by omega, gs, k + 1, by omega, by simp, by omega, by omega, by omega, by omega, _, gq, gr⟩, by simp [ivN]; omega⟩
            | cons s0 M =>
              refine ACallF.gen fun G hG => ?_
              have gn : h'.next ≤ G.next := by rw [hG]; simp
              have gs : ∀ i, i < h.next → G.blks i = h.blks i := fun i hi => by rw [hG]; simp (disch := omega) [hs i hi]
              have gq : Que G p (s0 :: M) a b := hq.mono (by rw [hG]; simp (disch := omega))
              have gr : RefQ G p r (s0 :: M) a b := hr.mono (by rw [hG]; simp) (fun i hi hn => by rw [hG]; simp (disch := omega))
              clear hG
              refine recvQ gq fun b2 q2 => ?_
              simp -dsimp (disch := omega) [g7, g9, e1, e2]
              refine refRecv (p := p) (M := M) (by simp; omega) (gr.mono (by simp) (fun i hi hn => blks_set_ne _ _ _ _ hn)) fun h3 gr m3 => ?_
              have n3 := m3.le
              have n3' : G.next ≤ h3.next := n3
              have gq := q2.mono (m3.same p (by simp; omega) (fun e => hrp e.symm))
              have gs : ∀ i, i < h.next → h3.blks i = h.blks i := fun i hi => by
                rw [m3.same i (by simp; omega) (by omega), blks_set_ne _ _ _ _ (by omega)]
                exact gs i hi
              simp -dsimp (disch := omega) [g7, g9, e1, e2]
              refine alike_call gq (by omega) gr ?_
              simp -dsimp (disch := omega) [g2, g11, g7, g9]
              exact ⟨⟨by omega, gs, k + 1, by omega, by simp, by omega, by omega, by omega, by omega, _, gq, gr⟩, by simp [ivN]; omega⟩
          have m4 := c4
          have i4 : ¬ (c0 : Int) = 4 := by omega
          clear c4
          by_cases c4 : c0 = 5
          · rw [c4] at e1 e2
            simp -dsimp (disch := omega) [g2, g11, fa, x1', s1, e1, e2, g7, g9]
            cases M with
            | nil =>
              refine ACallF.gen fun G hG => ?_
              have gn : h'.next ≤ G.next := by rw [hG]; simp
              have gs : ∀ i, i < h.next → G.blks i = h.blks i := fun i hi => by rw [hG]; simp (disch := omega) [hs i hi]
              have gq : Que G p [] a b := hq.mono (by rw [hG]; simp (disch := omega))
              have gr : RefQ G p r [] a b := hr.mono (by rw [hG]; simp) (fun i hi hn => by rw [hG]; simp (disch := omega))
              clear hG
              refine recv0Q gq ?_
              simp -dsimp (disch := omega) [g7, g9, e1, e2]
              refine refRecv0 gr ?_
              simp -dsimp (disch := omega) [g7, g9, e1, e2]
              refine alike_call gq (by omega) gr ?_
              simp -dsimp (disch := omega) [g2, g11, g7, g9]
              exact ⟨⟨by omega, gs, k + 1, by omega, by simp, by omega, by omega, by omega, by omega, _, gq, gr⟩, by simp [ivN]; omega⟩
            | cons s0 M =>
              refine ACallF.gen fun G hG => ?_
              have gn : h'.next ≤ G.next := by rw [hG]; simp
              have gs : ∀ i, i < h.next → G.blks i = h.blks i := fun i hi => by rw [hG]; simp (disch := omega) [hs i hi]
              have gq : Que G p (s0 :: M) a b := hq.mono (by rw [hG]; simp (disch := omega))
              have gr : RefQ G p r (s0 :: M) a b := hr.mono (by rw [hG]; simp) (fun i hi hn => by rw [hG]; simp (disch := omega))
              clear hG
              refine recvQ gq fun b2 q2 => ?_
              simp -dsimp (disch := omega) [g7, g9, e1, e2]
              refine refRecv (p := p) (M := M) (by simp; omega) (gr.mono (by simp) (fun i hi hn => blks_set_ne _ _ _ _ hn)) fun h3 gr m3 => ?_
              have n3 := m3.le
              have n3' : G.next ≤ h3.next := n3
              have gq := q2.mono (m3.same p (by simp; omega) (fun e => hrp e.symm))
              have gs : ∀ i, i < h.next → h3.blks i = h.blks i := fun i hi => by
                rw [m3.same i (by simp; omega) (by omega), blks_set_ne _ _ _ _ (by omega)]
                exact gs i hi
              simp -dsimp (disch := omega) [g7, g9, e1, e2]
              refine alike_call gq (by omega) gr ?_
              simp -dsimp (disch := omega) [g2, g11, g7, g9]
              exact ⟨⟨by omega, gs, k + 1, by omega, by simp, by omega, by omega, by omega, by omega, _, gq, gr⟩, by simp [ivN]; omega⟩
          have m5 := c4
          have i5 : ¬ (c0 : Int) = 5 := by omega
          clear c4
          by_cases c4 : c0 = 6
          · rw [c4] at e1 e2
            simp -dsimp (disch := omega) [g2, g11, fa, x1', s1, e1, e2, g7, g9]
            cases M with
            | nil =>
              refine ACallF.gen fun G hG => ?_
              have gn : h'.next ≤ G.next := by rw [hG]; simp
              have gs : ∀ i, i < h.next → G.blks i = h.blks i := fun i hi => by rw [hG]; simp (disch := omega) [hs i hi]
              have gq : Que G p [] a b := hq.mono (by rw [hG]; simp (disch := omega))
              have gr : RefQ G p r [] a b := hr.mono (by rw [hG]; simp) (fun i hi hn => by rw [hG]; simp (disch := omega))
              clear hG
              refine recv0Q gq ?_
              simp -dsimp (disch := omega) [g7, g9, e1, e2]
              refine refRecv0 gr ?_
              simp -dsimp (disch := omega) [g7, g9, e1, e2]
              refine alike_call gq (by omega) gr ?_
              simp -dsimp (disch := omega) [g2, g11, g7, g9]
              exact ⟨⟨by omega, gs, k + 1, by omega, by simp, by omega, by omega, by omega, by omega, _, gq, gr⟩, by simp [ivN]; omega⟩
            | cons s0 M =>
              refine ACallF.gen fun G hG => ?_
              have gn : h'.next ≤ G.next := by rw [hG]; simp
              have gs : ∀ i, i < h.next → G.blks i = h.blks i := fun i hi => by rw [hG]; simp (disch := omega) [hs i hi]
              have gq : Que G p (s0 :: M) a b := hq.mono (by rw [hG]; simp (disch := omega))
              have gr : RefQ G p r (s0 :: M) a b := hr.mono (by rw [hG]; simp) (fun i hi hn => by rw [hG]; simp (disch := omega))
              clear hG
              refine recvQ gq fun b2 q2 => ?_
              simp -dsimp (disch := omega) [g7, g9, e1, e2]
              refine refRecv (p := p) (M := M) (by simp; omega) (gr.mono (by simp) (fun i hi hn => blks_set_ne _ _ _ _ hn)) fun h3 gr m3 => ?_
              have n3 := m3.le
              have n3' : G.next ≤ h3.next := n3
              have gq := q2.mono (m3.same p (by simp; omega) (fun e => hrp e.symm))
              have gs : ∀ i, i < h.next → h3.blks i = h.blks i := fun i hi => by
                rw [m3.same i (by simp; omega) (by omega), blks_set_ne _ _ _ _ (by omega)]
                exact gs i hi
              simp -dsimp (disch := omega) [g7, g9, e1, e2]
              refine alike_call gq (by omega) gr ?_
              simp -dsimp (disch := omega) [g2, g11, g7, g9]
              exact ⟨⟨by omega, gs, k + 1, by omega, by simp, by omega, by omega, by omega, by omega, _, gq, gr⟩, by simp [ivN]; omega⟩
          have m6 := c4
          have i6 : ¬ (c0 : Int) = 6 := by omega
          clear c4
          by_cases c4 : c0 = 7
          · rw [c4] at e1 e2
            simp -dsimp (disch := omega) [g2, g11, fa, x1', s1, e1, e2, g7, g9]
            refine ACallF.gen fun G hG => ?_
            have gn : h'.next ≤ G.next := by rw [hG]; simp
            have gs : ∀ i, i < h.next → G.blks i = h.blks i := fun i hi => by rw [hG]; simp (disch := omega) [hs i hi]
            have ga : G.blks h'.next = some ⟨#[.int .u8 w, .string S], 1, true⟩ := by rw [hG]; simp (disch := omega)
            have gn1 : G.next = h'.next + 1 := by rw [hG]; rfl
            have gq : Que G p M a b := hq.mono (by rw [hG]; simp (disch := omega))
            have gr : RefQ G p r M a b := hr.mono (by rw [hG]; simp) (fun i hi hn => by rw [hG]; simp (disch := omega))
            clear hG
            refine copyQ gq (by omega) fun b2 q2 => ?_
            have gq1 : Que (G.alloc b2) p M a b := gq.mono (blks_alloc_ne _ _ _ (by omega))
            have gr1 : RefQ (G.alloc b2) G.next r M a b := gr.fresh (Nat.le_refl _) (by simp) (fun i hi _ => blks_alloc_ne _ _ _ (by omega))
            simp -dsimp (disch := omega) [g7, g9, e1, e2, ga]
            refine refCopy gr1 fun h3 r3 e3 => ?_
            have n3 : G.next + 1 ≤ h3.next := e3.le
            have r31 := r3 p (by simp; omega)
            have r32 := r3 G.next (by simp)
            have hr3 : G.next + 1 < h3.next := by obtain ⟨_, _, _, _, h4, _⟩ := r31; exact h4
            have gq3 := gq1.mono (e3.same p (by simp; omega))
            have q23 := q2.mono (e3.same G.next (by simp))
            have ga3 : h3.blks h'.next = some ⟨#[.int .u8 w, .string S], 1, true⟩ := by rw [e3.same _ (by simp; omega), blks_alloc_ne _ _ _ (by omega)]; exact ga
            have gs3 : ∀ i, i < h.next → h3.blks i = h.blks i := fun i hi => by
              rw [e3.same i (by simp; omega), blks_alloc_ne _ _ _ (by omega)]
              exact gs i hi
            simp -dsimp (disch := omega) [g7, g9, e1, e2, ga, ga3]
            refine sendW (S := S) gq3 (by omega) fun x b3 M3 q4 => ?_
            simp -dsimp (disch := omega) [g7, g9, e1, e2, ga, ga3]
            refine recvW q4 fun s5 x5 b5 M5 q5 => ?_
            simp -dsimp (disch := omega) [g7, g9, e1, e2, ga, ga3]
            refine ACallF.gen fun G5 hG5 => ?_
            have gn5 : G5.next = h3.next := by rw [hG5]; rfl
            have gs : ∀ i, i < h.next → G5.blks i = h.blks i := fun i hi => by rw [hG5]; simp (disch := omega) [gs3 i hi]
            have gq : Que G5 G.next M a b := q23.mono (by rw [hG5]; simp (disch := omega))
            have gr : RefQ G5 G.next (G.next + 1) M a b := RefQ.old r31 r32 (by omega) (fun i hi hn => by rw [hG5]; simp (disch := omega))
            clear hG5
            refine alike_call gq (by omega) gr ?_
            simp -dsimp (disch := omega) [g2, g11, g7, g9]
            exact ⟨⟨by omega, gs, k + 1, by omega, by simp, by omega, by omega, by omega, by omega, _, gq, gr⟩, by simp [ivN]; omega⟩
          have m7 := c4
          have i7 : ¬ (c0 : Int) = 7 := by omega
          simp -dsimp (disch := omega) [g2, g11, fa, x1', s1, e1, e2, g7, g9, m4, m5, m6, m7, i4, i5, i6, i7]
          refine ACallF.gen fun G hG => ?_
          have gn : h'.next ≤ G.next := by rw [hG]; simp
          have gs : ∀ i, i < h.next → G.blks i = h.blks i := fun i hi => by rw [hG]; simp (disch := omega) [hs i hi]
          have ga : G.blks h'.next = some ⟨#[.int .u8 w, .string S], 1, true⟩ := by rw [hG]; simp (disch := omega)
          have gn1 : G.next = h'.next + 1 := by rw [hG]; rfl
          have gq : Que G p M a b := hq.mono (by rw [hG]; simp (disch := omega))
          have gr : RefQ G p r M a b := hr.mono (by rw [hG]; simp) (fun i hi hn => by rw [hG]; simp (disch := omega))
          clear hG
          refine sendQ (S := S) gq (by omega) (fun u1 => ?_) (fun u1 u2 => ?_) (fun u1 u2 b2 q2 => ?_)
          · simp -dsimp (disch := omega) [g7, g9, e1, e2, ga]
            refine refSend_call (S := S) (by omega) gr (by omega) (fun _ => ?_) (fun u3 => absurd u3 (by omega)) (fun u3 => absurd u3 (by omega))
            simp -dsimp (disch := omega) [g7, g9, e1, e2, ga]
            refine alike_call gq (by omega) gr ?_
            simp -dsimp (disch := omega) [g2, g11, g7, g9]
            exact ⟨⟨by omega, gs, k + 1, by omega, by simp, by omega, by omega, by omega, by omega, _, gq, gr⟩, by simp [ivN]; omega⟩
          · simp -dsimp (disch := omega) [g7, g9, e1, e2, ga]
            refine refSend_call (S := S) (by omega) gr (by omega) (fun u3 => absurd u3 (by omega)) (fun _ _ => ?_) (fun _ u3 => absurd u3 (by omega))
            simp -dsimp (disch := omega) [g7, g9, e1, e2, ga]
            refine alike_call gq (by omega) gr ?_
            simp -dsimp (disch := omega) [g2, g11, g7, g9]
            exact ⟨⟨by omega, gs, k + 1, by omega, by simp, by omega, by omega, by omega, by omega, _, gq, gr⟩, by simp [ivN]; omega⟩
          · simp -dsimp (disch := omega) [g7, g9, e1, e2, ga]
            refine refSend_call (S := S) (p := p) (M := M) (by simp; omega) (gr.mono (by simp) (fun i hi hn => blks_set_ne _ _ _ _ hn)) (by omega) (fun u3 => absurd u3 (by omega)) (fun _ u3 => absurd u3 (by omega)) (fun _ _ h3 gr m3 => ?_)
            have n3 := m3.le
            have n3' : G.next ≤ h3.next := n3
            have gq := q2.mono (m3.same p (by simp; omega) (fun e => hrp e.symm))
            have gs : ∀ i, i < h.next → h3.blks i = h.blks i := fun i hi => by
              rw [m3.same i (by simp; omega) (by omega), blks_set_ne _ _ _ _ (by omega)]
              exact gs i hi
            simp -dsimp (disch := omega) [g7, g9, e1, e2, ga]
            refine alike_call gq (by omega) gr ?_
            simp -dsimp (disch := omega) [g2, g11, g7, g9]
            exact ⟨⟨by omega, gs, k + 1, by omega, by simp, by omega, by omega, by omega, by omega, _, gq, gr⟩, by simp [ivN]; omega⟩
        · have hkn : k = l.length := by omega
          subst hkn
          simp -dsimp (disch := omega) [g2, g11, g7, g9]
          refine awake_call ?_
          simp -dsimp (disch := omega)
          exact RetF.same hwf (by simp) (Nat.zero_le _) hs hK
  · simp -dsimp (disch := omega)
    refine refNew_call ha hb (fun hn' => absurd hn' (by simp [hn])) (fun _ => ?_)
    simp -dsimp (disch := omega)
    refine few_call hok hl hv ?_
    cases hfew : fewL l <;> simp -dsimp (disch := omega)
    · refine awake_call ?_
      simp -dsimp (disch := omega)
      exact RetF.same hwf (by simp) (Nat.zero_le _) (fun _ _ => rfl) hK
    · refine awake_call ?_
      simp -dsimp (disch := omega)
      exact RetF.same hwf (by simp) (Nat.zero_le _) (fun _ _ => rfl) hK
end
end Go.Proofs.Ytggohjlfhomafaa
