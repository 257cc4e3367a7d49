/-
  BlkMoves.
-/
import Derived.Test.YtkbiadobkheafaaV4
set_option linter.unusedSimpArgs false
set_option linter.unusedVariables false
set_option linter.unusedSectionVars false
namespace Go.Proofs.Ytkbiadobkheafaa
open Go Go.Mini Go.Proofs.Try
set_option maxRecDepth 100000

theorem readsS (d : Dev) (k : Nat) : (mayD 20 4 && decide (readD d 20 4 = k)) = decide (d.st = k) := rfl
/-- A command on its way. -/
structure Mid (d : Dev) (u c x : Nat) (S : Nat → Nat) (lf : Nat) : Prop where
  st : d.st = 1
  lf : d.lf = lf
  us : d.us = u
  uc : d.uc = c
  ua : d.ua = x
  S : d.S = S
theorem Mid.wr {d : Dev} {u c x lf : Nat} {S : Nat → Nat} (m : Mid d u c x S lf) (off v : Nat) : Mid (writeD d off v) u c x S lf := by
  unfold writeD
  split
  · exact ⟨m.st, m.lf, m.us, m.uc, m.ua, m.S⟩
  · split
    · exact ⟨m.st, m.lf, m.us, m.uc, m.ua, m.S⟩
    · split
      · rw [beg_busy m.st]; exact m
      · split
        · unfold ackD; rw [if_pos m.st]; exact m
        · exact m
theorem Mid.wr' {d : Dev} {u c x lf : Nat} {S : Nat → Nat} (m : Mid d u c x S lf) (off v : Nat) (n : Int) : Mid (if mayD off n = true then writeD d off v else d) u c x S lf := by
  split
  · exact m.wr off v
  · exact m
theorem Mid.dly {d : Dev} {u c x lf : Nat} {S : Nat → Nat} (m : Mid d u c x S lf) (n : Nat) : Mid { d with dl := n } u c x S lf := ⟨m.st, m.lf, m.us, m.uc, m.ua, m.S⟩
theorem Mid.go {d : Dev} {u c x lf : Nat} {S : Nat → Nat} (m : Mid d u c x S lf) (h : 1 < lf) (M : Nat → Nat) (N : Nat) : Mid (tickD d M N) u c x S (lf - 1) ∧ tickM d M N = M ∧ ¬ endsB d := by
  have hE : ¬ endsB d := fun q => by have := q.2; have := m.lf; omega
  rw [tick_go m.st (by rw [m.lf]; exact h)]
  exact ⟨⟨m.st, by show d.lf - 1 = lf - 1; rw [m.lf], m.us, m.uc, m.ua, m.S⟩, by unfold tickM; rw [if_neg hE], hE⟩
theorem Mid.fin {d : Dev} {u x : Nat} {S : Nat → Nat} (m : Mid d u 1 x S 1) (hu : u < 32) (M : Nat → Nat) (N : Nat) : endsB d ∧ (tickD d M N).S = S ∧ (x + 64 ≤ N → (tickD d M N).st = 2 ∧ tickM d M N = lay M x (bytesM S (u * 64) 64)) ∧ (¬ x + 64 ≤ N → (tickD d M N).st = 3 ∧ tickM d M N = M) := by
  have hE : endsB d := ⟨m.st, by rw [m.lf]; omega⟩
  have h2 : ¬ (d.uc = 2 ∧ fits d N) := fun q => by have := q.1; have := m.uc; omega
  rw [tick_end m.st (by rw [m.lf]; omega)]
  unfold tickM
  rw [if_pos hE]
  unfold endD endM
  rw [if_neg h2]
  by_cases hx : x + 64 ≤ N
  · have hf : d.uc = 1 ∧ fits d N := ⟨m.uc, by rw [m.us]; exact hu, by rw [m.ua]; exact hx⟩
    rw [if_pos hf, if_pos hf]
    exact ⟨hE, m.S, fun _ => ⟨rfl, by rw [m.ua, m.us, m.S]⟩, fun q => absurd hx q⟩
  · have hf : ¬ (d.uc = 1 ∧ fits d N) := fun q => hx (by have := q.2.2; rw [m.ua] at this; exact this)
    rw [if_neg hf, if_neg hf]
    exact ⟨hE, m.S, fun q => absurd q hx, fun _ => ⟨rfl, rfl⟩⟩
/-- How far it is. -/
def Ph (T i : Nat) (d : Dev) (M : Nat → Nat) (u x : Nat) (S : Nat → Nat) (M2 : Nat → Nat) : Prop :=
  (i < T ∧ Mid d u 1 x S (T - i) ∧ M = M2) ∨ (i = T ∧ d.S = S ∧ ((x + 64 ≤ 4096 ∧ d.st = 2 ∧ M = lay M2 x (bytesM S (u * 64) 64)) ∨ (¬ x + 64 ≤ 4096 ∧ d.st = 3 ∧ M = M2)))
theorem ord_tick {u f : Nat} (hu : u < 32) (hf : f + 64 ≤ 4096) (M : Nat → Nat) : tickD (ordD dev0 u f 2) M 4096 = { ordD dev0 u f 2 with S := takeS (fun _ => 0) u M f, st := 2, lf := 0 } ∧ tickM (ordD dev0 u f 2) M 4096 = M ∧ endsB (ordD dev0 u f 2) := by
  have h1 : (ordD dev0 u f 2).st = 1 := rfl
  have h2 : (ordD dev0 u f 2).lf = 1 := rfl
  have hE : endsB (ordD dev0 u f 2) := ⟨h1, by rw [h2]; omega⟩
  refine ⟨?_, ?_, hE⟩
  · rw [tick_end h1 (by rw [h2]; omega)]
    unfold endD
    rw [if_pos ⟨rfl, hu, hf⟩]
    rfl
  · unfold tickM
    rw [if_pos hE]
    unfold endM
    rw [if_neg (fun q => by have : (2 : Nat) = 1 := q.1; omega)]

set_option maxHeartbeats 4000000 in
theorem blkMoves_call {h : Hp} {K : Value → Hp → Prop} {l : List UInt8} {sec fr too dly oth : Nat} (hl : l.length < 9223372036854775808) (hsec : sec < 4294967296) (hfr : fr < 18446744073709551616) (hto : too < 18446744073709551616) (hdly : dly < 4294967296) (hoth : oth < 4294967296) (hK : ∀ h', (∀ i, i < h.next → h'.blks i = h.blks i) → K (.bool true) h') : ACall prog 3 [.string (txt l), .agg #[.int .u32 sec, .int .u64 fr, .int .u64 too, .int .u32 dly, .int .u32 oth]] h K := by
  refine acallF_of tb0 func3 rfl rfl mixed (by kernel_rfl) fun hwf => ?_
  obtain ⟨len, hlen⟩ : ∃ len, len = l.length := ⟨_, rfl⟩
  have hsz : (txt l).size = len := hlen.symm
  rw [← hlen] at hl
  obtain ⟨B0, hB0⟩ : ∃ B, B = h.alloc ⟨#[.int .u32 sec, .int .u64 fr, .int .u64 too, .int .u32 dly, .int .u32 oth], 1, true⟩ := ⟨_, rfl⟩
  have eB : Ext h B0 := by rw [hB0]; exact Ext.alloc _ _
  have hBx : B0.blks h.next = some ⟨#[.int .u32 sec, .int .u64 fr, .int .u64 too, .int .u32 dly, .int .u32 oth], 1, true⟩ := by rw [hB0]; exact blks_alloc_eq _ _
  have hBn : h.next < B0.next := by rw [hB0]; simp
  simp -dsimp (disch := omega) [← hB0]
  clear hB0
  refine new_call ?_
  simp -dsimp (disch := omega)
  have q0 := Ext.alloc B0 ⟨devC dev0, 1, true⟩
  have b0 := blks_alloc_eq B0 ⟨devC dev0, 1, true⟩
  obtain ⟨H0, hH0⟩ : ∃ H, H = B0.alloc ⟨devC dev0, 1, true⟩ := ⟨_, rfl⟩
  have n0 : H0.next = B0.next + 1 := by rw [hH0]; rfl
  rw [← hH0] at q0 b0 ⊢
  refine ramNew_one fun h1 pm b e1 k1 k2 r1 => ?_
  have le1 := e1.le
  have m1 : Dm h1 B0.next dev0 pm b 4096 4096 (fun _ => 0) 0 0 := ⟨by rw [e1.same _ (by omega)]; exact b0, dev0_ok, by omega, r1, by omega, by omega⟩
  have o1 : Ow B0 h1 B0.next dev0 pm b 4096 4096 (fun _ => 0) 0 0 := ⟨m1, q0.trans e1, by omega, by omega, by omega⟩
  obtain ⟨p, hp⟩ : ∃ p, p = B0.next := ⟨_, rfl⟩
  rw [← hp] at o1 ⊢
  clear m1 r1 e1 le1 q0 b0 hH0 n0 k1 k2
  have Bx : ∀ {G d M a w}, Ow B0 G p d pm b 4096 4096 M a w → G.blks h.next = some ⟨#[.int .u32 sec, .int .u64 fr, .int .u64 too, .int .u32 dly, .int .u32 oth], 1, true⟩ := fun o => (o.ext.same _ hBn).trans hBx
  have fin : ∀ {G G2 d M a w}, Ow B0 G p d pm b 4096 4096 M a w → Ext G G2 → K (.bool true) G2 := fun o e => hK _ ((eB.trans o.ext).trans e).same
  clear hBx
  by_cases big : 200 < len
  · have big' : (200 : Int) < len := by omega
    simp -dsimp (disch := omega) [hsz, big, big']
    refine works_call fun h2 e2 => ?_
    simp -dsimp (disch := omega)
    exact RetF.all (r := .bool true) (by simp) (fin o1 e2)
  have big' : ¬ (200 : Int) < len := by omega
  simp -dsimp (disch := omega) [hsz, big, big']
  refine letters_call (n := 64) (by omega) ?_
  obtain ⟨s, hs⟩ : ∃ s, s = (l ++ lett 64).take 64 := ⟨_, rfl⟩
  have sl : s.length = 64 := by rw [hs, List.length_take, List.length_append, lett_length]; omega
  have hsx : (txt (l ++ lett 64)).extract 0 64 = txt s := by rw [txt_extract, List.drop_zero, hs]
  have l64 : (txt (lett 64)).size = 64 := by rw [txt_size, lett_length]
  have ls64 : (l ++ lett 64).length = len + 64 := by rw [List.length_append, lett_length, hlen]
  simp -dsimp (disch := omega) [hsz, l64, ls64, hsx]
  refine letters_call (n := 4096) (by omega) ?_
  simp -dsimp (disch := omega)
  refine mput_ow (x := 0) (n := 4096) o1 (lett_length 4096) (by omega) (by omega) fun h2 a2 w2 o2 f2 => ?_
  obtain ⟨M1, hM1⟩ : ∃ M1, M1 = lay (fun _ => 0) 0 (lett 4096) := ⟨_, rfl⟩
  rw [← hM1] at o2
  obtain ⟨f, hf⟩ : ∃ f, f = fr % 4033 := ⟨_, rfl⟩
  have hfi : (fr : Int) % 4033 = f := by omega
  have hf2 : f + 64 ≤ 4096 := by omega
  obtain ⟨u, hu⟩ : ∃ u, u = sec % 32 := ⟨_, rfl⟩
  have hui : (sec : Int) % 32 = u := by omega
  have hu2 : u < 32 := by omega
  obtain ⟨dq, hdq⟩ : ∃ dq, dq = dly % 20 := ⟨_, rfl⟩
  have hdi : (dly : Int) % 20 = dq := by omega
  have hd20 : dq < 20 := by omega
  have x2 := Bx o2
  simp -dsimp (disch := omega) [x2, hfi]
  refine mput_ow (x := f) (n := 64) o2 sl (by omega) (by omega) fun h3 a3 w3 o3 f3 => ?_
  obtain ⟨M2, hM2⟩ : ∃ M2, M2 = lay M1 f s := ⟨_, rfl⟩
  rw [← hM2] at o3
  have x3 := Bx o3
  simp -dsimp (disch := omega) [x3, hui]
  refine order_ow (c := 2) o3 (by omega) (by omega) (by omega) (by show (0 : Nat) ≠ 1; omega) fun h4 o4 f4 => ?_
  simp -dsimp (disch := omega)
  refine tick_ow o4 fun h5 a5 w5 o5 f5 => ?_
  obtain ⟨ot1, ot2, ot3⟩ := ord_tick hu2 hf2 M2
  rw [ot1, ot2] at o5
  rw [decide_eq_true ot3]
  obtain ⟨d3, hd3⟩ : ∃ d3 : Dev, d3 = { ordD dev0 u f 2 with S := takeS (fun _ => 0) u M2 f, st := 2, lf := 0 } := ⟨_, rfl⟩
  rw [← hd3] at o5
  have d3s : d3.st = 2 := by rw [hd3]
  simp -dsimp (disch := omega)
  refine reads_call (off := 20) (w := 4) (want := 2) o5.dm.dev o5.dm.ok (by omega) ?_
  rw [readsS, decide_eq_true d3s]
  simp -dsimp (disch := omega)
  refine mbytes_ow (x := 0) (n := 4096) o5 (by omega) ?_
  have hAl := bytesM_length M2 0 4096
  have hput := bytes_put M2 too 64 4096 s sl
  obtain ⟨A, hA⟩ : ∃ A, A = bytesM M2 0 4096 := ⟨_, rfl⟩
  rw [← hA] at hAl hput ⊢
  have hAs : (txt A).size = 4096 := hAl
  have hS : bytesM d3.S (u * 64) 64 = s := by
    rw [hd3]
    show bytesM (takeS (fun _ => 0) u M2 f) (u * 64) 64 = s
    rw [bytes_take, hM2, bytes_lay _ _ _ _ sl]
  clear hd3 ot1 ot2 ot3 hM2 hM1 hs hsx
  have x5 := Bx o5
  simp -dsimp (disch := omega) [x5, hdi]
  refine setDelay_ow o5 (by omega) fun h6 o6 f6 => ?_
  have x6 := Bx o6
  simp -dsimp (disch := omega) [hAs, x6, hui]
  refine order_ow (c := 1) o6 (by omega) hto (by omega) (by show d3.st ≠ 1; omega) fun h7 o7 f7 => ?_
  obtain ⟨S, hSd⟩ : ∃ S, S = d3.S := ⟨_, rfl⟩
  rw [← hSd] at hS
  obtain ⟨T, hT⟩ : ∃ T, T = max dq 1 := ⟨_, rfl⟩
  have hT0 : 0 < T := by omega
  have hT20 : T < 20 := by omega
  have hTi : (if (dq : Int) < 1 then (1 : Int) else dq) = T := by split <;> omega
  have m7 : Mid (ordD { d3 with dl := dq } u too 1) u 1 too S T := ⟨rfl, by rw [hT]; rfl, rfl, rfl, rfl, hSd.symm⟩
  obtain ⟨d7, hd7⟩ : ∃ d7, d7 = ordD { d3 with dl := dq } u too 1 := ⟨_, rfl⟩
  rw [← hd7] at o7 m7
  clear hd7
  simp -dsimp (disch := omega)
  refine awp_loop (fun t h' => ∃ (i : Nat) (d : Dev) (M : Nat → Nat) (a : Nat) (w : Int), i ≤ T ∧ Ow B0 h' p d pm b 4096 4096 M a w ∧ t 0 = .string (txt s) ∧ t 3 = ptr h.next ∧ t 5 = ptr p ∧ t 6 = ptr pm ∧ t 9 = .string (txt A) ∧ t 11 = .int .u32 i ∧ Ph T i d M u too S M2) (fun t _ => T - ivN (t 11)) ?_ ?_
  · simp -dsimp (disch := omega)
    exact ⟨0, by omega, d7, M2, ⟨_, _, o7⟩, rfl, .inl ⟨hT0, m7, rfl⟩⟩
  · clear o7 m7 o6 o5 o4 o3 o2 o1
    rintro t h' ⟨i, d, M, a, w, hi, o, g0, g3, g5, g6, g9, g11, hph⟩
    refine vcF_sound mixed (tb := tb0) _ (by kernel_rfl) ?_
    have x := Bx o
    rcases hph with ⟨hiT, hm, rfl⟩ | ⟨hiT, hdS, hend⟩
    · have hiT' : (i : Int) < T := by omega
      simp -dsimp (disch := omega) [g0, g3, g5, g6, g9, g11, x, hdi, hTi, hiT, hiT']
      refine mbytes_ow (x := 0) (n := 4096) o (by omega) ?_
      rw [← hA]
      simp -dsimp (disch := omega) [g0, g3, g5, g6, g9, g11]
      refine reads_call (off := 20) (w := 4) (want := 1) o.dm.dev o.dm.ok (by omega) ?_
      rw [readsS, decide_eq_true hm.st]
      simp -dsimp (disch := omega) [g0, g3, g5, g6, g9, g11, x]
      refine write_ow (off := 0) (n := 4) o (by omega) (by omega) fun j1 p1 e1 => ?_
      have m1 := hm.wr' 0 oth 4
      have y1 := Bx p1
      generalize (if mayD 0 4 = true then writeD d 0 oth else d) = d1 at p1 m1
      simp -dsimp (disch := omega) [g0, g3, g5, g6, g9, g11, y1]
      refine write_ow (off := 8) (n := 8) p1 (by omega) (by omega) fun j2 p2 e2 => ?_
      have m2 := m1.wr' 8 fr 8
      have y2 := Bx p2
      generalize (if mayD 8 8 = true then writeD d1 8 fr else d1) = d2 at p2 m2
      simp -dsimp (disch := omega) [g0, g3, g5, g6, g9, g11, y2]
      refine write_ow (off := 16) (v := 2) (n := 4) p2 (by omega) (by omega) fun j3 p3 e3 => ?_
      have m3 := m2.wr' 16 2 4
      have y3 := Bx p3
      generalize (if mayD 16 4 = true then writeD d2 16 2 else d2) = d3 at p3 m3
      simp -dsimp (disch := omega) [g0, g3, g5, g6, g9, g11, y3]
      refine write_ow (off := 24) (v := 1) (n := 4) p3 (by omega) (by omega) fun j4 p4 e4 => ?_
      have m4 := m3.wr' 24 1 4
      have y4 := Bx p4
      generalize (if mayD 24 4 = true then writeD d3 24 1 else d3) = d4 at p4 m4
      simp -dsimp (disch := omega) [g0, g3, g5, g6, g9, g11, y4]
      refine setDelay_ow p4 hdly fun j5 p5 e5 => ?_
      have m5 := m4.dly dly
      have y5 := Bx p5
      generalize ({ d4 with dl := dly } : Dev) = d5 at p5 m5
      simp -dsimp (disch := omega) [g0, g3, g5, g6, g9, g11, y5]
      refine tick_ow p5 fun j6 a6 w6 p6 e6 => ?_
      by_cases last : i + 1 = T
      · have lf1 : T - i = 1 := by omega
        rw [lf1] at m5
        obtain ⟨k1, k2, k3, k4⟩ := m5.fin hu2 M 4096
        rw [decide_eq_true k1]
        have y6 := Bx p6
        have hiE : (i : Int) + 1 = T := by omega
        simp -dsimp (disch := omega) [g0, g3, g5, g6, g9, g11, y6, hdi, hTi, hiE]
        refine ⟨⟨T, by omega, _, _, ⟨_, _, p6⟩, rfl, .inr ⟨rfl, k2, ?_⟩⟩, by simp [ivN]; omega⟩
        rcases Nat.lt_or_ge 4096 (too + 64) with q | q
        · exact .inr ⟨by omega, (k4 (by omega)).1, (k4 (by omega)).2⟩
        · exact .inl ⟨q, (k3 q).1, (k3 q).2⟩
      · have lf1 : 1 < T - i := by omega
        obtain ⟨k1, k2, k3⟩ := m5.go lf1 M 4096
        rw [k2] at p6
        rw [decide_eq_false k3]
        have y6 := Bx p6
        have hiE : ¬ (i : Int) + 1 = T := by omega
        have hiD : ¬ (i : Int) + 1 = dq := by omega
        have hiN : ¬ i + 1 = dq := by omega
        simp -dsimp (disch := omega) [g0, g3, g5, g6, g9, g11, y6, hdi, hTi, hiE, last, hiD, hiN]
        exact ⟨⟨i + 1, by omega, _, _, ⟨_, _, p6⟩, by simp, .inl ⟨by omega, by rw [show T - (i + 1) = T - i - 1 by omega]; exact k1, rfl⟩⟩, by simp [ivN]; omega⟩
    · subst hiT
      have hii : ¬ (i : Int) < i := by omega
      simp -dsimp (disch := omega) [g0, g3, g5, g6, g9, g11, x, hdi, hTi]
      refine mbytes_ow (x := 0) (n := 4096) o (by omega) ?_
      simp -dsimp (disch := omega) [g0, g3, g5, g6, g9, g11, x, hui]
      refine sector_call (n := u) o.dm.dev o.dm.ok hu2 ?_
      rw [show ((List.range 64).map fun i => UInt8.ofNat (secM d u i)) = s from by rw [← hS, ← hdS]; rfl]
      rcases hend with ⟨ht, hst, hMe⟩ | ⟨ht, hst, hMe⟩
      · have ht1 : ¬ (4032 : Int) < too := by omega
        have ht2 : ¬ 4032 < too := by omega
        rw [hMe, hS, hput ht]
        have z1 : (txt A).extract 0 too = txt (A.take too) := by rw [txt_extract, List.drop_zero]
        have z2 : (txt A).extract (too + 64) 4096 = txt (A.drop (too + 64)) := by rw [txt_extract, List.take_of_length_le (by omega)]
        have v1 : (txt (A.take too)).size = too := by rw [txt_size, List.length_take]; omega
        have v2 : (txt s).size = 64 := sl
        have v3 : (txt (A.take too ++ s)).size = too + 64 := by rw [txt_size, List.length_append, List.length_take]; omega
        have v4 : (txt (A.drop (too + 64))).size = 4096 - (too + 64) := by rw [txt_size, List.length_drop]; omega
        have z3 : ((too : Int) + 64).toNat = too + 64 := by omega
        simp -dsimp (disch := omega) [g0, g3, g5, g6, g9, g11, x, ht1, ht2, hAs, z1, z2, z3]
        refine reads_call (off := 20) (w := 4) (want := 2) o.dm.dev o.dm.ok (by omega) ?_
        rw [readsS, decide_eq_true hst]
        simp -dsimp (disch := omega) [g0, g3, g5, g6, g9, g11, x]
        refine works_call fun h2 e2 => ?_
        simp -dsimp (disch := omega)
        exact RetF.all (r := .bool true) (by simp) (fin o e2)
      · have ht1 : (4032 : Int) < too := by omega
        have ht2 : 4032 < too := by omega
        rw [hMe, ← hA]
        simp -dsimp (disch := omega) [g0, g3, g5, g6, g9, g11, x, ht1, ht2]
        refine reads_call (off := 20) (w := 4) (want := 3) o.dm.dev o.dm.ok (by omega) ?_
        rw [readsS, decide_eq_true hst]
        simp -dsimp (disch := omega) [g0, g3, g5, g6, g9, g11, x]
        refine works_call fun h2 e2 => ?_
        simp -dsimp (disch := omega)
        exact RetF.all (r := .bool true) (by simp) (fin o e2)
end Go.Proofs.Ytkbiadobkheafaa
