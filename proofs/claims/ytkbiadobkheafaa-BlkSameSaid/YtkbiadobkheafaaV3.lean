/-
  BlkEnds.
-/
import Derived.Test.YtkbiadobkheafaaV2
set_option linter.unusedSimpArgs false
set_option linter.unusedVariables false
set_option linter.unusedSectionVars false
namespace Go.Proofs.Ytkbiadobkheafaa
open Go Go.Mini Go.Proofs.Try
set_option maxRecDepth 100000

def Bz (d : Dev) : Bool := decide (d.st = 1)
def Hg (d : Dev) : Bool := decide (1 < d.st)
theorem reads20 (d : Dev) : (mayD 20 4 && decide (readD d 20 4 = 1)) = Bz d := rfl
theorem Bz_iff {d d' : Dev} (h : d'.st = 1 ↔ d.st = 1) : Bz d' = Bz d := by unfold Bz; rw [decide_eq_decide]; exact h
theorem Bz_t {d : Dev} (h : d.st = 1) : Bz d = true := decide_eq_true h
theorem Bz_f {d : Dev} (h : ¬ d.st = 1) : Bz d = false := decide_eq_false h
theorem Hg_iff {d d' : Dev} (h : 1 < d'.st ↔ 1 < d.st) : Hg d' = Hg d := by unfold Hg; rw [decide_eq_decide]; exact h
theorem Hg_t {d : Dev} (h : 1 < d.st) : Hg d = true := decide_eq_true h
theorem Hg_f {d : Dev} (h : ¬ 1 < d.st) : Hg d = false := decide_eq_false h
theorem Ow.alloc {h0 h : Hp} {p : Nat} {d : Dev} {pm b N C : Nat} {M : Nat → Nat} {a : Nat} {w : Int} (o : Ow h0 h p d pm b N C M a w) (c : Blk) : Ow h0 (h.alloc c) p d pm b N C M a w :=
  o.fr (o.dm.fr (Fr.alloc h c fun _ => False) id id id) (Fr.alloc h c fun _ => False) fun _ q => q.elim
theorem Ow.then {h0 h h' : Hp} {p : Nat} {d d' : Dev} {pm b N C : Nat} {M : Nat → Nat} {a : Nat} {w : Int} (o : Ow h0 h p d pm b N C M a w) (m : Dm h' p d' pm b N C M a w) (f : Fr h h' fun i => i = p) : Ow h0 h' p d' pm b N C M a w := o.fr m f o.np'
theorem setDelay_ow {h0 h : Hp} {K : Value → Hp → Prop} {p : Nat} {d : Dev} {pm b N C : Nat} {M : Nat → Nat} {a : Nat} {w : Int} {n : Nat} (o : Ow h0 h p d pm b N C M a w) (hn : n < 4294967296) (hK : ∀ h', Ow h0 h' p { d with dl := n } pm b N C M a w → Fr h h' (fun i => i = p) → K (.tuple #[]) h') : ACall prog 15 [ptr p, .int .u32 n] h K :=
  setDelay_call o.dm.dev (hK _ (o.then (o.dm.setd (dl_ok o.dm.ok hn)) (Fr.set h _ rfl)) (Fr.set h _ rfl))
theorem reset_ow {h0 h : Hp} {K : Value → Hp → Prop} {p : Nat} {d : Dev} {pm b N C : Nat} {M : Nat → Nat} {a : Nat} {w : Int} (o : Ow h0 h p d pm b N C M a w) (hK : ∀ h', Ow h0 h' p (resetD d) pm b N C M a w → Fr h h' (fun i => i = p) → K (.tuple #[]) h') : ACall prog 18 [ptr p] h K :=
  reset_call o.dm.dev (hK _ (o.then (o.dm.setd (resetD_ok o.dm.ok)) (Fr.set h _ rfl)) (Fr.set h _ rfl))
theorem write_ow {h0 h : Hp} {K : Value → Hp → Prop} {p : Nat} {d : Dev} {pm b N C : Nat} {M : Nat → Nat} {a : Nat} {w : Int} {off v : Nat} {n : Int} (o : Ow h0 h p d pm b N C M a w) (ho : off < 18446744073709551616) (hv : v < 18446744073709551616) (hK : ∀ h', Ow h0 h' p (if mayD off n = true then writeD d off v else d) pm b N C M a w → Fr h h' (fun i => i = p) → K (.bool (mayD off n)) h') : ACall prog 16 [ptr p, .int .u64 off, .int .u64 v, .int .i64 n] h K :=
  wr_call o.dm ho hv (fun c => by have := hK h (by rw [c]; exact o) (Fr.refl _ _); rwa [c] at this) (fun c h' m f => by have := hK h' (by rw [if_pos c]; exact o.then m f) f; rwa [c] at this)
theorem tick_ow {h0 h : Hp} {K : Value → Hp → Prop} {p : Nat} {d : Dev} {pm b N C : Nat} {M : Nat → Nat} {a : Nat} {w : Int} (o : Ow h0 h p d pm b N C M a w) (hK : ∀ h' a' w', Ow h0 h' p (tickD d M N) pm b N C (tickM d M N) a' w' → Fr h h' (three p pm b) → K (.bool (decide (endsB d))) h') : ACall prog 12 [ptr p, memV pm] h K :=
  tick_call o.dm fun h' a' w' m f => hK h' a' w' (o.fr m f o.n3) f
theorem new_ow {h0 h : Hp} {K : Value → Hp → Prop} : True := trivial
/-- What an act makes of the state. -/
theorem beg_st {d : Dev} {c : Nat} (h : d.st ≠ 1) : (beginD d c).st = 1 ∧ (beginD d c).lf = max d.dl 1 ∧ (beginD d c).dl = d.dl := by unfold beginD; rw [if_neg h]; exact ⟨rfl, rfl, rfl⟩
theorem beg_busy {d : Dev} {c : Nat} (h : d.st = 1) : beginD d c = d := by unfold beginD; rw [if_pos h]
theorem wr_other {d : Dev} {x v : Nat} (h1 : x ≠ 16) (h2 : x ≠ 24) : (writeD d x v).st = d.st ∧ (writeD d x v).lf = d.lf ∧ (writeD d x v).dl = d.dl := by
  unfold writeD
  split
  · exact ⟨rfl, rfl, rfl⟩
  · split
    · exact ⟨rfl, rfl, rfl⟩
    · (repeat' split) <;> first | exact ⟨rfl, rfl, rfl⟩ | (exfalso; omega)
theorem ack_st (d : Dev) : ((ackD d).st = 1 ↔ d.st = 1) ∧ ¬ 1 < (ackD d).st ∧ (ackD d).dl = d.dl ∧ (ackD d).lf = d.lf := by
  unfold ackD
  split
  · rename_i h; exact ⟨Iff.rfl, by omega, rfl, rfl⟩
  · rename_i h; exact ⟨⟨fun q => by have : (0 : Nat) = 1 := q; omega, fun q => absurd q h⟩, by show ¬ 1 < 0; omega, rfl, rfl⟩
theorem end_st (d : Dev) (M : Nat → Nat) (N : Nat) : 1 < (endD d M N).st ∧ (endD d M N).dl = d.dl := by
  unfold endD
  split
  · exact ⟨by show 1 < 2; omega, rfl⟩
  · split
    · exact ⟨by show 1 < 2; omega, rfl⟩
    · exact ⟨by show 1 < 3; omega, rfl⟩
theorem tick_idle {d : Dev} {M : Nat → Nat} {N : Nat} (h : d.st ≠ 1) : tickD d M N = d := by unfold tickD; rw [if_pos h]
theorem tick_go {d : Dev} {M : Nat → Nat} {N : Nat} (h : d.st = 1) (h2 : 1 < d.lf) : tickD d M N = { d with lf := d.lf - 1 } := by unfold tickD; rw [if_neg (by omega), if_pos h2]
theorem tick_end {d : Dev} {M : Nat → Nat} {N : Nat} (h : d.st = 1) (h2 : ¬ 1 < d.lf) : tickD d M N = endD d M N := by unfold tickD; rw [if_neg (by omega), if_neg h2]

set_option maxHeartbeats 4000000 in
theorem blkEnds_call {h : Hp} {K : Value → Hp → Prop} {l : List Act} {v : Value} (hok : ∀ e ∈ l, e.ok) (hl : l.length < 9223372036854775808) (hv : Sl h 4 l.length (actsC l) v) (hK : ∀ h', (∀ i, i < h.next → h'.blks i = h.blks i) → K (.bool true) h') : ACall prog 4 [v] h K := by
  refine acallF_of tb0 func4 rfl rfl mixed (by kernel_rfl) fun hwf => ?_
  have hvb := sblk_lt (hwf.args v (by simp))
  obtain ⟨va, vc, rfl⟩ := hv.slice
  obtain ⟨n, hn⟩ : ∃ n, n = l.length := ⟨_, rfl⟩
  rw [← hn] at hvb hwf ⊢
  simp -dsimp (disch := omega)
  refine new_call ?_
  simp -dsimp (disch := omega)
  have q0 := Ext.alloc h ⟨devC dev0, 1, true⟩
  have b0 := blks_alloc_eq h ⟨devC dev0, 1, true⟩
  obtain ⟨H0, hH0⟩ : ∃ H, H = h.alloc ⟨devC dev0, 1, true⟩ := ⟨_, rfl⟩
  have n0 : H0.next = h.next + 1 := by rw [hH0]; rfl
  rw [← hH0] at q0 b0 ⊢
  refine ramNew_one fun h1 pm b e1 k1 k2 r1 => ?_
  have le1 := e1.le
  have m1 : Dm h1 h.next dev0 pm b 4096 4096 (fun _ => 0) 0 0 := ⟨by rw [e1.same _ (by omega)]; exact b0, dev0_ok, by omega, r1, by omega, by omega⟩
  have o1 : Ow h h1 h.next dev0 pm b 4096 4096 (fun _ => 0) 0 0 := ⟨m1, q0.trans e1, by omega, by omega, by omega⟩
  obtain ⟨p, hp⟩ : ∃ p, p = h.next := ⟨_, rfl⟩
  rw [← hp] at o1 ⊢
  clear m1 r1
  by_cases big : 80 < n
  · have big' : (80 : Int) < n := by omega
    simp -dsimp (disch := omega) [big, big']
    refine works_call fun h2 e2 => ?_
    simp -dsimp (disch := omega)
    exact RetF.all (r := .bool true) (by simp) (hK _ (o1.ext.trans e2).same)
  have big' : ¬ (80 : Int) < n := by omega
  simp -dsimp (disch := omega) [big, big']
  refine awp_loop (fun t h' => ∃ (k : Nat) (d : Dev) (M : Nat → Nat) (a : Nat) (w : Int), k ≤ n ∧ Ow h h' p d pm b 4096 4096 M a w ∧ t 0 = .slice va n vc ∧ t 3 = ptr p ∧ t 4 = ptr pm ∧ t 9 = .int .i64 k ∧ t 6 = .int .u32 d.dl ∧ t 7 = .bool (Bz d) ∧ t 8 = .bool (Hg d) ∧ ∃ left : Nat, t 5 = .int .u32 left ∧ left < 4294967296 ∧ (d.st = 1 → left = d.lf)) (fun t _ => n - ivN (t 9)) ?_ ?_
  · simp -dsimp (disch := omega)
    exact ⟨0, by omega, dev0, ⟨_, _, _, o1⟩, rfl, rfl, rfl, rfl, 0, rfl, by omega, fun q => by have : (0 : Nat) = 1 := q; omega⟩
  · rintro t h' ⟨k, d, M, a, w, hk, o, g0, g3, g4, g9, g6, g7, g8, left, g5, hleft, hlf⟩
    refine vcF_sound mixed (tb := tb0) _ (by kernel_rfl) ?_
    rcases Nat.lt_or_ge k n with hc1 | hc1
    · have hkl : k < l.length := hn ▸ hc1
      obtain ⟨e, hx⟩ : ∃ e, l[k]? = some e := ⟨l[k], List.getElem?_eq_getElem hkl⟩
      obtain ⟨a', c', b', q1, f1, s1, x1, y1⟩ := sl_el (f := actC) (n := 4) actC_len (hv.mono fun b hb => o.ext.same b (hvb b (by rw [hn]; exact hb))) hx
      cases q1
      obtain ⟨p1, p2, p3⟩ := hok e (List.mem_of_getElem? hx)
      obtain ⟨ew, ex, ev, en⟩ := e
      simp only at p1 p2 p3
      have x1' : b'.cells.extract (a'.off + k * 4) (a'.off + k * 4 + 4) = #[.int .u8 ew, .int .u64 ex, .int .u64 ev, .int .i64 en] := x1
      clear x1 y1
      obtain ⟨H, hH⟩ : ∃ H, H = h'.alloc ⟨#[.int .u8 ew, .int .u64 ex, .int .u64 ev, .int .i64 en], 1, true⟩ := ⟨_, rfl⟩
      have o2 : Ow h H p d pm b 4096 4096 M a w := by rw [hH]; exact o.alloc _
      have hB : H.blks h'.next = some ⟨#[.int .u8 ew, .int .u64 ex, .int .u64 ev, .int .i64 en], 1, true⟩ := by rw [hH]; exact blks_alloc_eq _ _
      have hHn : h'.next < H.next := by rw [hH]; simp
      have hpn : ¬ h'.next = p := by have := o.dm.plt; omega
      have hmn : ¬ h'.next = pm := by have := o.dm.ram.plt; omega
      have hbn : ¬ h'.next = b := by have := o.dm.ram.blt; omega
      obtain ⟨c, hcd⟩ : ∃ c, c = ew % 15 := ⟨_, rfl⟩
      have hci : (ew : Int) % 15 = c := by omega
      have hc15 : c < 15 := by omega
      by_cases z26 : 2 ≤ c ∧ c ≤ 6
      · obtain ⟨d', hd'⟩ : ∃ d' : Dev, d' = if mayD ex en = true then writeD d ex ev else d := ⟨_, rfl⟩
        by_cases cA : ex = 16 ∧ en = 4
        · have hmay : mayD ex en = true := by rw [cA.1, cA.2]; rfl
          have hx16 : (ex : Int) = 16 := by omega
          have hx24 : ¬ (ex : Int) = 24 := by omega
          have en4 := cA.2
          have ex4 := cA.1
          have hw : writeD d ex ev = beginD d (ev % 4294967296) := by rw [cA.1]; rfl
          rw [hmay, if_pos rfl, hw] at hd'
          by_cases hb : d.st = 1
          · rw [beg_busy hb] at hd'
            have hbz := Bz_t hb
            have hhg : Hg d = false := Hg_f (by omega)
            have s1 : Hg d' = false := by rw [hd', hhg]
            have s2 : Bz d' = true := by rw [hd', hbz]
            rcases (by omega : c = 2 ∨ c = 3 ∨ c = 4 ∨ c = 5 ∨ c = 6) with h | h | h | h | h
            all_goals
              rw [h] at hci
              simp -dsimp (disch := omega) [g0, g3, g4, g5, g6, g7, g8, g9, hc1, f1, s1, x1', ← hH, hB, hci]
              refine write_ow o2 p2 p3 fun h2 o3 f3 => ?_
              have hB2 : h2.blks h'.next = _ := (f3.same _ hHn hpn).trans hB
              rw [hmay, if_pos rfl, hw, beg_busy hb, ← hd'] at o3
              simp -dsimp (disch := omega) [g0, g3, g4, g5, g6, g7, g8, g9, hB2, hx16, hx24, en4, hbz, ex4, hmay]
              refine level_call o3.dm.dev o3.dm.ok ?_
              rw [show decide (1 < d'.st) = Hg d' from rfl, s1]
              simp -dsimp (disch := omega) [g0, g3, g4, g5, g6, g7, g8, g9, hbz, hhg]
              refine reads_call (off := 20) (w := 4) (want := 1) o3.dm.dev o3.dm.ok (by omega) ?_
              rw [reads20, s2]
              simp -dsimp (disch := omega) [g0, g3, g4, g5, g6, g7, g8, g9, hbz, hhg]
              exact ⟨⟨k + 1, by omega, d', ⟨_, _, _, o3⟩, by simp, by rw [hd'], s2, s1, left, rfl, hleft, fun q => by rw [hd']; exact hlf hb⟩, by simp [ivN]; omega⟩
          · have hbz := Bz_f hb
            have hbg := beg_st (c := ev % 4294967296) hb
            rw [← hd'] at hbg
            have s1 : Hg d' = false := Hg_f (by omega)
            have s2 : Bz d' = true := Bz_t hbg.1
            have hmx : (if (d.dl : Int) < 1 then (1 : Int) else d.dl) = ((max d.dl 1 : Nat) : Int) := by split <;> omega
            have hdl := o.dm.ok.dl
            rcases (by omega : c = 2 ∨ c = 3 ∨ c = 4 ∨ c = 5 ∨ c = 6) with h | h | h | h | h
            all_goals
              rw [h] at hci
              simp -dsimp (disch := omega) [g0, g3, g4, g5, g6, g7, g8, g9, hc1, f1, s1, x1', ← hH, hB, hci]
              refine write_ow o2 p2 p3 fun h2 o3 f3 => ?_
              have hB2 : h2.blks h'.next = _ := (f3.same _ hHn hpn).trans hB
              rw [hmay, if_pos rfl, hw, ← hd'] at o3
              simp -dsimp (disch := omega) [g0, g3, g4, g5, g6, g7, g8, g9, hB2, hx16, hx24, en4, hbz, ex4, hmay]
              refine level_call o3.dm.dev o3.dm.ok ?_
              rw [show decide (1 < d'.st) = Hg d' from rfl, s1]
              simp -dsimp (disch := omega) [g0, g3, g4, g5, g6, g7, g8, g9]
              refine reads_call (off := 20) (w := 4) (want := 1) o3.dm.dev o3.dm.ok (by omega) ?_
              rw [reads20, s2]
              simp -dsimp (disch := omega) [g0, g3, g4, g5, g6, g7, g8, g9]
              exact ⟨⟨k + 1, by omega, d', ⟨_, _, _, o3⟩, by simp, by rw [hbg.2.2], s2, s1, max d.dl 1, hmx, by omega, fun _ => hbg.2.1.symm⟩, by simp [ivN]; omega⟩
        · by_cases cB : ex = 24 ∧ en = 4
          · have hmay : mayD ex en = true := by rw [cB.1, cB.2]; rfl
            have hx16 : ¬ (ex : Int) = 16 := by omega
            have hx24 : (ex : Int) = 24 := by omega
            have en4 := cB.2
            have ex4 := cB.1
            have hw : writeD d ex ev = ackD d := by rw [cB.1]; rfl
            rw [hmay, if_pos rfl, hw] at hd'
            have ha := ack_st d
            rw [← hd'] at ha
            have s1 : Hg d' = false := Hg_f ha.2.1
            have s2 : Bz d' = Bz d := Bz_iff ha.1
            rcases (by omega : c = 2 ∨ c = 3 ∨ c = 4 ∨ c = 5 ∨ c = 6) with h | h | h | h | h
            all_goals
              rw [h] at hci
              simp -dsimp (disch := omega) [g0, g3, g4, g5, g6, g7, g8, g9, hc1, f1, s1, x1', ← hH, hB, hci]
              refine write_ow o2 p2 p3 fun h2 o3 f3 => ?_
              have hB2 : h2.blks h'.next = _ := (f3.same _ hHn hpn).trans hB
              rw [hmay, if_pos rfl, hw, ← hd'] at o3
              simp -dsimp (disch := omega) [g0, g3, g4, g5, g6, g7, g8, g9, hB2, hx16, hx24, en4, ex4, hmay]
              refine level_call o3.dm.dev o3.dm.ok ?_
              rw [show decide (1 < d'.st) = Hg d' from rfl, s1]
              simp -dsimp (disch := omega) [g0, g3, g4, g5, g6, g7, g8, g9]
              refine reads_call (off := 20) (w := 4) (want := 1) o3.dm.dev o3.dm.ok (by omega) ?_
              rw [reads20, s2]
              simp -dsimp (disch := omega) [g0, g3, g4, g5, g6, g7, g8, g9]
              exact ⟨⟨k + 1, by omega, d', ⟨_, _, _, o3⟩, by simp, by rw [ha.2.2.1], s2.symm, s1, left, rfl, hleft, fun q => by rw [ha.2.2.2]; exact hlf (ha.1.1 q)⟩, by simp [ivN]; omega⟩
          · have hs : d'.st = d.st ∧ d'.lf = d.lf ∧ d'.dl = d.dl := by
              rw [hd']
              by_cases hm : mayD ex en = true
              · rw [if_pos hm]
                unfold mayD at hm
                have := of_decide_eq_true hm
                exact wr_other (by omega) (by omega)
              · rw [if_neg hm]; exact ⟨rfl, rfl, rfl⟩
            have s1 : Hg d' = Hg d := Hg_iff (by rw [hs.1])
            have s2 : Bz d' = Bz d := Bz_iff (by rw [hs.1])
            have cut : ∀ {A : Prop}, (¬ (ex : Int) = 16 → ¬ (ex : Int) = 24 → A) → (¬ en = 4 → (ex : Int) = 16 → ¬ (ex : Int) = 24 → A) → (¬ en = 4 → ¬ (ex : Int) = 16 → (ex : Int) = 24 → A) → A := fun q1 q2 q3 => by
              by_cases z1 : (ex : Int) = 16
              · exact q2 (by omega) z1 (by omega)
              · by_cases z2 : (ex : Int) = 24
                · exact q3 (by omega) z1 z2
                · exact q1 z1 z2
            rcases (by omega : c = 2 ∨ c = 3 ∨ c = 4 ∨ c = 5 ∨ c = 6) with h | h | h | h | h
            all_goals
              rw [h] at hci
              simp -dsimp (disch := omega) [g0, g3, g4, g5, g6, g7, g8, g9, hc1, f1, s1, x1', ← hH, hB, hci]
              refine write_ow o2 p2 p3 fun h2 o3 f3 => ?_
              have hB2 : h2.blks h'.next = _ := (f3.same _ hHn hpn).trans hB
              rw [← hd'] at o3
              refine cut (fun z1 z2 => ?_) (fun z0 z1 z2 => ?_) (fun z0 z1 z2 => ?_)
              · have y1 : ¬ ex = 16 := by omega
                have y2 : ¬ ex = 24 := by omega
                simp -dsimp (disch := omega) [g0, g3, g4, g5, g6, g7, g8, g9, hB2, z1, z2, y1, y2]
                refine level_call o3.dm.dev o3.dm.ok ?_
                rw [show decide (1 < d'.st) = Hg d' from rfl, s1]
                simp -dsimp (disch := omega) [g0, g3, g4, g5, g6, g7, g8, g9]
                refine reads_call (off := 20) (w := 4) (want := 1) o3.dm.dev o3.dm.ok (by omega) ?_
                rw [reads20, s2]
                simp -dsimp (disch := omega) [g0, g3, g4, g5, g6, g7, g8, g9]
                exact ⟨⟨k + 1, by omega, d', ⟨_, _, _, o3⟩, by simp, by rw [hs.2.2], s2.symm, s1.symm, left, rfl, hleft, fun q => by rw [hs.2.1]; exact hlf (hs.1 ▸ q)⟩, by simp [ivN]; omega⟩
              · have y1 : ex = 16 := by omega
                simp -dsimp (disch := omega) [g0, g3, g4, g5, g6, g7, g8, g9, hB2, z0, z1, z2, y1]
                refine level_call o3.dm.dev o3.dm.ok ?_
                rw [show decide (1 < d'.st) = Hg d' from rfl, s1]
                simp -dsimp (disch := omega) [g0, g3, g4, g5, g6, g7, g8, g9]
                refine reads_call (off := 20) (w := 4) (want := 1) o3.dm.dev o3.dm.ok (by omega) ?_
                rw [reads20, s2]
                simp -dsimp (disch := omega) [g0, g3, g4, g5, g6, g7, g8, g9]
                exact ⟨⟨k + 1, by omega, d', ⟨_, _, _, o3⟩, by simp, by rw [hs.2.2], s2.symm, s1.symm, left, rfl, hleft, fun q => by rw [hs.2.1]; exact hlf (hs.1 ▸ q)⟩, by simp [ivN]; omega⟩
              · have y2 : ex = 24 := by omega
                simp -dsimp (disch := omega) [g0, g3, g4, g5, g6, g7, g8, g9, hB2, z0, z1, z2, y2]
                refine level_call o3.dm.dev o3.dm.ok ?_
                rw [show decide (1 < d'.st) = Hg d' from rfl, s1]
                simp -dsimp (disch := omega) [g0, g3, g4, g5, g6, g7, g8, g9]
                refine reads_call (off := 20) (w := 4) (want := 1) o3.dm.dev o3.dm.ok (by omega) ?_
                rw [reads20, s2]
                simp -dsimp (disch := omega) [g0, g3, g4, g5, g6, g7, g8, g9]
                exact ⟨⟨k + 1, by omega, d', ⟨_, _, _, o3⟩, by simp, by rw [hs.2.2], s2.symm, s1.symm, left, rfl, hleft, fun q => by rw [hs.2.1]; exact hlf (hs.1 ▸ q)⟩, by simp [ivN]; omega⟩
      by_cases z7a : 7 ≤ c ∧ c ≤ 10
      · obtain ⟨d', hd'⟩ : ∃ d' : Dev, d' = tickD d M 4096 := ⟨_, rfl⟩
        have hrun := o.dm.ok.run
        by_cases hb : d.st = 1
        · have hbz := Bz_t hb
          have hhg : Hg d = false := Hg_f (by omega)
          have hlf := hlf hb
          have hrun := hrun hb
          by_cases hl1 : 1 < d.lf
          · have hE : ¬ endsB d := fun q => by have := q.2; omega
            rw [tick_go hb hl1] at hd'
            have s1 : Hg d' = false := by rw [hd']; exact hhg
            have s2 : Bz d' = true := by rw [hd']; exact hbz
            obtain ⟨m, hm⟩ : ∃ m : Nat, m = left - 1 := ⟨_, rfl⟩
            have hmi : (left : Int) - 1 = m := by omega
            have hm0 : ¬ (m : Int) = 0 := by omega
            have hm1 : ¬ m = 0 := by omega
            have hwm : IntKind.u32.wrap (m : Int) = m := IntWalk.u32_in _ (by omega)
            rcases (by omega : c = 7 ∨ c = 8 ∨ c = 9 ∨ c = 10) with h | h | h | h
            all_goals
              rw [h] at hci
              simp -dsimp (disch := omega) [g0, g3, g4, g5, g6, g7, g8, g9, hc1, f1, s1, x1', ← hH, hB, hci]
              refine tick_ow o2 fun h2 a2 w2 o3 f3 => ?_
              rw [tick_go hb hl1, ← hd'] at o3
              rw [decide_eq_false hE]
              simp -dsimp (disch := omega) [g0, g3, g4, g5, g6, g7, g8, g9, hbz, hmi, hm0, hm1]
              refine level_call o3.dm.dev o3.dm.ok ?_
              rw [show decide (1 < d'.st) = Hg d' from rfl, s1]
              simp -dsimp (disch := omega) [g0, g3, g4, g5, g6, g7, g8, g9, hbz, hhg]
              refine reads_call (off := 20) (w := 4) (want := 1) o3.dm.dev o3.dm.ok (by omega) ?_
              rw [reads20, s2]
              simp -dsimp (disch := omega) [g0, g3, g4, g5, g6, g7, g8, g9, hbz, hhg]
              exact ⟨⟨k + 1, by omega, d', ⟨_, _, _, o3⟩, by simp, by rw [hd'], s2, s1, m, rfl, by omega, fun _ => by rw [hd']; show m = d.lf - 1; omega⟩, by simp [ivN]; omega⟩
          · have hE : endsB d := ⟨hb, by omega⟩
            rw [tick_end hb hl1] at hd'
            have he := end_st d M 4096
            rw [← hd'] at he
            have s1 : Hg d' = true := Hg_t he.1
            have s2 : Bz d' = false := Bz_f (by omega)
            have hl1' : left = 1 := by omega
            subst hl1'
            rcases (by omega : c = 7 ∨ c = 8 ∨ c = 9 ∨ c = 10) with h | h | h | h
            all_goals
              rw [h] at hci
              simp -dsimp (disch := omega) [g0, g3, g4, g5, g6, g7, g8, g9, hc1, f1, s1, x1', ← hH, hB, hci]
              refine tick_ow o2 fun h2 a2 w2 o3 f3 => ?_
              rw [tick_end hb hl1, ← hd'] at o3
              rw [decide_eq_true hE]
              simp -dsimp (disch := omega) [g0, g3, g4, g5, g6, g7, g8, g9, hbz]
              refine level_call o3.dm.dev o3.dm.ok ?_
              rw [show decide (1 < d'.st) = Hg d' from rfl, s1]
              simp -dsimp (disch := omega) [g0, g3, g4, g5, g6, g7, g8, g9, hbz, hhg]
              refine reads_call (off := 20) (w := 4) (want := 1) o3.dm.dev o3.dm.ok (by omega) ?_
              rw [reads20, s2]
              simp -dsimp (disch := omega) [g0, g3, g4, g5, g6, g7, g8, g9, hbz, hhg]
              exact ⟨⟨k + 1, by omega, d', ⟨_, _, _, o3⟩, by simp, by rw [he.2], s2, s1, 0, rfl, by omega, fun q => by omega⟩, by simp [ivN]; omega⟩
        · have hbz := Bz_f hb
          have hE : ¬ endsB d := fun q => hb q.1
          rw [tick_idle hb] at hd'
          have s1 : Hg d' = Hg d := by rw [hd']
          have s2 : Bz d' = false := by rw [hd', hbz]
          rcases (by omega : c = 7 ∨ c = 8 ∨ c = 9 ∨ c = 10) with h | h | h | h
          all_goals
            rw [h] at hci
            simp -dsimp (disch := omega) [g0, g3, g4, g5, g6, g7, g8, g9, hc1, f1, s1, x1', ← hH, hB, hci]
            refine tick_ow o2 fun h2 a2 w2 o3 f3 => ?_
            rw [tick_idle hb, ← hd'] at o3
            rw [decide_eq_false hE]
            simp -dsimp (disch := omega) [g0, g3, g4, g5, g6, g7, g8, g9, hbz]
            refine level_call o3.dm.dev o3.dm.ok ?_
            rw [show decide (1 < d'.st) = Hg d' from rfl, s1]
            simp -dsimp (disch := omega) [g0, g3, g4, g5, g6, g7, g8, g9, hbz]
            refine reads_call (off := 20) (w := 4) (want := 1) o3.dm.dev o3.dm.ok (by omega) ?_
            rw [reads20, s2]
            simp -dsimp (disch := omega) [g0, g3, g4, g5, g6, g7, g8, g9, hbz]
            exact ⟨⟨k + 1, by omega, d', ⟨_, _, _, o3⟩, by simp, by rw [hd'], s2, s1.symm, left, rfl, hleft, fun q => absurd (hd' ▸ q) hb⟩, by simp [ivN]; omega⟩
      by_cases z11 : c = 11
      · have hci : (ew : Int) % 15 = 11 := by omega
        have e32 := wrap32 ev
        have hm : ev % 4294967296 < 4294967296 := Nat.mod_lt _ (by omega)
        obtain ⟨m, hm'⟩ : ∃ m, m = ev % 4294967296 := ⟨_, rfl⟩
        rw [← hm'] at e32 hm
        simp -dsimp (disch := omega) [g0, g3, g4, g5, g6, g7, g8, g9, hc1, f1, s1, x1', ← hH, hB, hci, e32]
        refine setDelay_ow o2 hm fun h2 o3 f3 => ?_
        have hB2 : h2.blks h'.next = _ := (f3.same _ hHn hpn).trans hB
        simp -dsimp (disch := omega) [g0, g3, g4, g5, g6, g7, g8, g9, hB2, e32]
        refine level_call o3.dm.dev o3.dm.ok ?_
        rw [show decide (1 < ({ d with dl := m } : Dev).st) = Hg d from rfl]
        simp -dsimp (disch := omega) [g0, g3, g4, g5, g6, g7, g8, g9]
        refine reads_call (off := 20) (w := 4) (want := 1) o3.dm.dev o3.dm.ok (by omega) ?_
        rw [reads20, show Bz { d with dl := m } = Bz d from rfl]
        simp -dsimp (disch := omega) [g0, g3, g4, g5, g6, g7, g8, g9]
        exact ⟨⟨k + 1, by omega, _, ⟨_, _, _, o3⟩, by simp, rfl, rfl, rfl, left, rfl, hleft, hlf⟩, by simp [ivN]; omega⟩
      by_cases z12 : c = 12
      · have hci : (ew : Int) % 15 = 12 := by omega
        simp -dsimp (disch := omega) [g0, g3, g4, g5, g6, g7, g8, g9, hc1, f1, s1, x1', ← hH, hB, hci]
        refine reset_ow o2 fun h2 o3 f3 => ?_
        simp -dsimp (disch := omega) [g0, g3, g4, g5, g6, g7, g8, g9]
        refine level_call o3.dm.dev o3.dm.ok ?_
        rw [show decide (1 < (resetD d).st) = false from rfl]
        simp -dsimp (disch := omega) [g0, g3, g4, g5, g6, g7, g8, g9]
        refine reads_call (off := 20) (w := 4) (want := 1) o3.dm.dev o3.dm.ok (by omega) ?_
        rw [reads20, show Bz (resetD d) = false from rfl]
        simp -dsimp (disch := omega) [g0, g3, g4, g5, g6, g7, g8, g9]
        exact ⟨⟨k + 1, by omega, _, ⟨_, _, _, o3⟩, by simp, rfl, rfl, rfl, left, rfl, hleft, fun q => by have : (0 : Nat) = 1 := q; omega⟩, by simp [ivN]; omega⟩
      · rcases (by omega : c = 0 ∨ c = 1 ∨ c = 13 ∨ c = 14) with h | h | h | h
        all_goals
          rw [h] at hci
          simp -dsimp (disch := omega) [g0, g3, g4, g5, g6, g7, g8, g9, hc1, f1, s1, x1', ← hH, hB, hci]
          refine level_call o2.dm.dev o2.dm.ok ?_
          rw [show decide (1 < d.st) = Hg d from rfl]
          simp -dsimp (disch := omega) [g0, g3, g4, g5, g6, g7, g8, g9]
          refine reads_call (off := 20) (w := 4) (want := 1) o2.dm.dev o2.dm.ok (by omega) ?_
          rw [reads20]
          simp -dsimp (disch := omega) [g0, g3, g4, g5, g6, g7, g8, g9]
          exact ⟨⟨k + 1, by omega, d, ⟨_, _, _, o2⟩, by simp, rfl, rfl, rfl, left, rfl, hleft, hlf⟩, by simp [ivN]; omega⟩
    · have hkn : k = n := by omega
      have hc1' : ¬ (k : Int) < n := by omega
      simp -dsimp (disch := omega) [g0, g3, g4, g5, g6, g7, g8, g9, hc1, hc1']
      refine works_call fun h2 e2 => ?_
      simp -dsimp (disch := omega)
      exact RetF.all (r := .bool true) (by simp) (hK _ (o.ext.trans e2).same)
end Go.Proofs.Ytkbiadobkheafaa
