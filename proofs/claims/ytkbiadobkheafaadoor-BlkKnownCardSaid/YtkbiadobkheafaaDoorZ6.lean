/-
  BlkKnown.
-/
import Derived.Test.YtkbiadobkheafaaDoorZ5
set_option linter.unusedSimpArgs false
set_option linter.unusedVariables false
set_option linter.unusedSectionVars false
namespace Go.Proofs.YtkbiadobkheafaaDoor
open Go Go.Mini Go.Proofs.Tryd
set_option maxRecDepth 100000

section
variable {h0 h : Hp} {K : Value → Hp → Prop} {p : Nat} {d d' : Dev} {pm b N C : Nat} {M : Nat → Nat} {a : Nat} {w : Int}
theorem write_as {off v : Nat} {n : Int} (hW : writeD d off v = d') (hm : mayD off n = true) (ho : off < 18446744073709551616) (hv : v < 18446744073709551616) (o : Ow h0 h p d pm b N C M a w) (hK : ∀ h', Ow h0 h' p d' pm b N C M a w → K (.bool true) h') : ACall prog 7 [ptr p, .int .u64 off, .int .u64 v, .int .i64 n] h K :=
  write_ow o ho hv fun h' o' _ => by rw [hm]; exact hK h' (by rw [hm, if_pos rfl, hW] at o'; exact o')
theorem write_asF {off v : Nat} {n : Int} (hW : writeD d off v = d') (hm : mayD off n = true) (ho : off < 18446744073709551616) (hv : v < 18446744073709551616) (o : Ow h0 h p d pm b N C M a w) (hK : ∀ h', Ow h0 h' p d' pm b N C M a w → Fr h h' (fun i => i = p) → K (.bool true) h') : ACall prog 7 [ptr p, .int .u64 off, .int .u64 v, .int .i64 n] h K :=
  write_ow o ho hv fun h' o' f => by rw [hm]; exact hK h' (by rw [hm, if_pos rfl, hW] at o'; exact o') f
theorem write_none {off v : Nat} {n : Int} (hm : mayD off n = false) (ho : off < 18446744073709551616) (hv : v < 18446744073709551616) (o : Ow h0 h p d pm b N C M a w) (hK : K (.bool false) h) : ACall prog 7 [ptr p, .int .u64 off, .int .u64 v, .int .i64 n] h K :=
  wr_call o.dm ho hv (fun _ => hK) fun c => by rw [hm] at c; cases c
theorem reads_as {off want : Nat} {n : Int} {r : Bool} (hr : (mayD off n && decide (readD d off n = want)) = r) (ho : off < 18446744073709551616) (o : Ow h0 h p d pm b N C M a w) (hK : K (.bool r) h) : ACall prog 8 [ptr p, .int .u64 off, .int .i64 n, .int .u64 want] h K :=
  reads_call o.dm.dev o.dm.ok ho (by rw [hr]; exact hK)
theorem level_as {r : Bool} (hr : decide (1 < d.st) = r) (o : Ow h0 h p d pm b N C M a w) (hK : K (.bool r) h) : ACall prog 9 [ptr p] h K :=
  level_call o.dm.dev o.dm.ok (by rw [hr]; exact hK)
theorem tick_as {r : Bool} (hT : tickD d M N = d' ∧ tickM d M N = M) (hE : decide (endsB d) = r) (o : Ow h0 h p d pm b N C M a w) (hK : ∀ h' a' w', Ow h0 h' p d' pm b N C M a' w' → K (.bool r) h') : ACall prog 12 [ptr p, memV pm] h K :=
  tick_ow o fun h' a' w' o' _ => by rw [hE]; exact hK h' a' w' (by rw [hT.1, hT.2] at o'; exact o')
theorem read_nay {off : Nat} {n : Int} (hm : mayD off n = false) (ho : off < 18446744073709551616) (o : Ow h0 h p d pm b N C M a w) (hK : K (.tuple #[.int .u64 0, .bool false]) h) : ACall prog 15 [ptr p, .int .u64 off, .int .i64 n] h K :=
  read_call o.dm.dev o.dm.ok ho (by
    have : readD d off n = 0 := by unfold readD; rw [if_pos hm]
    rw [this, hm]; exact hK)
theorem Ow.ext' {h' : Hp} (o : Ow h0 h p d pm b N C M a w) (e : Ext h h') : Ow h0 h' p d pm b N C M a w := o.fr (o.dm.fr (Fr.of_ext e fun _ => False) id id id) (Fr.of_ext e fun _ => False) fun _ q => q.elim
end

set_option maxHeartbeats 4000000 in
theorem blkKnown_call {h : Hp} {K : Value → Hp → Prop} (ht : PowAt h) (hlt : 100 < h.next) (hK : ∀ h', (∀ i, i < h.next → h'.blks i = h.blks i) → K (.bool true) h') : ACall prog 3 [] h K := by
  refine acallF_of tb0 func3 rfl rfl mixed (by kernel_rfl) fun hwf => ?_
  have pow : ∀ {G' : Hp}, Ext h G' → PowAt G' ∧ 100 < G'.next := fun e => ⟨by unfold PowAt; rw [e.same _ hlt]; exact ht, Nat.lt_of_lt_of_le hlt e.le⟩
  simp -dsimp (disch := omega)
  refine given_call fun h1 p pm b a w o => ?_
  simp -dsimp (disch := omega)
  refine works_call fun h2 e2 => ?_
  have o := o.ext' e2
  simp -dsimp (disch := omega)
  refine write_as (off := 24) (v := 0) (n := 4) kW1 rfl (by omega) (by omega) o fun h3 o => ?_
  simp -dsimp (disch := omega)
  refine reads_as (off := 20) (n := 4) (want := 0) (r := true) rfl (by omega) o ?_
  simp -dsimp (disch := omega)
  refine level_as (r := false) rfl o ?_
  simp -dsimp (disch := omega)
  refine setDelay_ow (n := 2) o (by omega) fun h4 o _ => ?_
  simp -dsimp (disch := omega)
  refine write_as (off := 16) (v := 1) (n := 4) kW2 rfl (by omega) (by omega) o fun h5 o => ?_
  simp -dsimp (disch := omega)
  refine write_as (off := 8) (v := 60) (n := 8) kW3 rfl (by omega) (by omega) o fun h6 o => ?_
  simp -dsimp (disch := omega)
  obtain ⟨q1, q2⟩ := pow o.ext
  refine textW_call kText1 o.dm.dev o.dm.ok o.dm.plt q1 q2 fun h7 e7 => ?_
  have o := o.ext' e7
  simp -dsimp (disch := omega)
  refine tick_as (r := false) ⟨kTick1.1, kTick1.2.1⟩ (decide_eq_false kTick1.2.2) o fun h8 a8 w8 o => ?_
  simp -dsimp (disch := omega)
  refine tick_as (r := true) ⟨kTick2.1, kTick2.2.1⟩ (decide_eq_true kTick2.2.2) o fun h9 a9 w9 o => ?_
  simp -dsimp (disch := omega)
  refine tick_as (r := false) ⟨kTick3.1, kTick3.2.1⟩ (decide_eq_false kTick3.2.2) o fun h10 a10 w10 o => ?_
  simp -dsimp (disch := omega)
  refine mbytes_ow (x := 0) (n := 128) o (by omega) ?_
  rw [kBytes]
  simp -dsimp (disch := omega)
  refine letters_call (n := 128) (by omega) ?_
  simp -dsimp (disch := omega)
  refine write_as (off := 0) (v := 32) (n := 4) kW4 rfl (by omega) (by omega) o fun h11 o => ?_
  simp -dsimp (disch := omega)
  refine write_as (off := 16) (v := 1) (n := 4) kW5 rfl (by omega) (by omega) o fun h12 o => ?_
  simp -dsimp (disch := omega)
  refine tick_as (r := false) ⟨kTick4.1, kTick4.2.1⟩ (decide_eq_false kTick4.2.2) o fun h13 a13 w13 o => ?_
  simp -dsimp (disch := omega)
  refine tick_as (r := true) ⟨kTick5.1, kTick5.2.1⟩ (decide_eq_true kTick5.2.2) o fun h14 a14 w14 o => ?_
  simp -dsimp (disch := omega)
  refine reads_as (off := 20) (n := 4) (want := 3) (r := true) rfl (by omega) o ?_
  simp -dsimp (disch := omega)
  refine level_as (r := true) rfl o ?_
  simp -dsimp (disch := omega)
  refine write_as (off := 16) (v := 2) (n := 4) kW6 rfl (by omega) (by omega) o fun h15 o => ?_
  simp -dsimp (disch := omega)
  refine write_as (off := 16) (v := 7) (n := 4) kW7 rfl (by omega) (by omega) o fun h16 o => ?_
  simp -dsimp (disch := omega)
  refine reads_as (off := 16) (n := 4) (want := 2) (r := true) rfl (by omega) o ?_
  simp -dsimp (disch := omega)
  refine read_nay (off := 4) (n := 4) rfl (by omega) o ?_
  simp -dsimp (disch := omega)
  refine read_nay (off := 8) (n := 4) rfl (by omega) o ?_
  simp -dsimp (disch := omega)
  refine read_nay (off := 0) (n := 8) rfl (by omega) o ?_
  simp -dsimp (disch := omega)
  refine read_nay (off := 32) (n := 4) rfl (by omega) o ?_
  simp -dsimp (disch := omega)
  refine sector_no (n := 32) o.dm.dev (.inr (by omega)) ?_
  simp -dsimp (disch := omega)
  refine sector_no (n := -1) o.dm.dev (.inl (by omega)) ?_
  simp -dsimp (disch := omega)
  refine copy_call o.dm.dev ?_
  have hd1 := o.dm.dev
  have b17 := blks_alloc_eq h16 ⟨devC (kD 32 2 60 32 2 60 1 2 2), 1, true⟩
  have o17 := o.alloc ⟨devC (kD 32 2 60 32 2 60 1 2 2), 1, true⟩
  have n17 : (h16.alloc ⟨devC (kD 32 2 60 32 2 60 1 2 2), 1, true⟩).next = h16.next + 1 := rfl
  have lp := o.dm.plt
  obtain ⟨h17, hh17⟩ : ∃ H, H = h16.alloc ⟨devC (kD 32 2 60 32 2 60 1 2 2), 1, true⟩ := ⟨_, rfl⟩
  obtain ⟨kk, hkk⟩ : ∃ kk, kk = h16.next := ⟨_, rfl⟩
  rw [← hh17] at b17 o17 n17 ⊢
  rw [← hkk] at b17 n17 lp ⊢
  clear hh17 o
  simp -dsimp (disch := omega)
  refine same_call o17.dm.dev o17.dm.ok o17.dm.plt b17 o17.dm.ok (by omega) fun h18 s1 e18 q18 => ?_
  have hs1 : s1 = true := q18.2 fun _ _ _ => rfl
  subst hs1
  have o := o17.ext' e18
  have bk := (e18.same kk (by omega)).trans b17
  have lk : kk < h18.next := by have := e18.le; omega
  simp -dsimp (disch := omega)
  refine reset_ow o fun h19 o f19 => ?_
  rw [kR] at o
  have bk := (f19.same kk lk (by omega)).trans bk
  have lk : kk < h19.next := Nat.lt_of_lt_of_le lk f19.le
  simp -dsimp (disch := omega)
  refine sector_call (n := 3) o.dm.dev o.dm.ok (by omega) ?_
  rw [kS3]
  simp -dsimp (disch := omega) [zeroOf_z, zC_one, -zeroOf_52]
  refine ACallF.gen fun h20 hh20 => ?_
  have e20 : Ext h19 h20 := by rw [hh20]; exact Ext.alloc _ _
  have z20 : NoD h20 (ptr h19.next) := .inr ⟨_, rfl, by rw [hh20]; simp, by rw [hh20]; exact blks_alloc_eq _ _⟩
  have z0 : NoD h20 (.pointer none) := .inl rfl
  have o := o.ext' e20
  have bk := (e20.same kk lk).trans bk
  have lk : kk < h20.next := Nat.lt_of_lt_of_le lk e20.le
  obtain ⟨zz, hzz⟩ : ∃ zz, zz = h19.next := ⟨_, rfl⟩
  rw [← hzz] at z20 ⊢
  have pzz : p < zz := by have := o17.dm.plt; have := e18.le; have := f19.le; omega
  clear hh20 hzz
  refine reset_no z0 ?_
  simp -dsimp (disch := omega)
  refine setDelay_no (n := 1) z20 ?_
  dsimp only [List.append]
  simp -dsimp (disch := omega)
  refine same_call o.dm.dev o.dm.ok o.dm.plt bk (kD_ok (by omega)) lk fun h21 s2 e21 q21 => ?_
  have hs2 : s2 = false := by
    cases s2 with
    | false => rfl
    | true =>
      have := q21.1 rfl 1 (by omega) (by omega)
      have h1 : cell (shownD (kD 0 0 0 0 0 0 0 0 2)) 1 = .int .u32 0 := rfl
      have h2 : cell (shownD (kD 32 2 60 32 2 60 1 2 2)) 1 = .int .u32 32 := rfl
      rw [h1, h2] at this
      have := (Value.int.inj this).2
      omega
  subst hs2
  have o := o.ext' e21
  have z20 := z20.mono e21
  simp -dsimp (disch := omega)
  obtain ⟨q1, q2⟩ := pow o.ext
  refine textW_call kText2 o.dm.dev o.dm.ok o.dm.plt q1 q2 fun h22 e22 => ?_
  have o := o.ext' e22
  have z20 := z20.mono e22
  simp -dsimp (disch := omega)
  refine letters_call (n := 65) (by omega) ?_
  have l65 : (txt (lett 65)).size = 65 := by rw [txt_size, lett_length]
  have hx : (txt (lett 65)).extract 1 65 = txt ((lett 65).drop 1) := by rw [txt_extract, List.take_of_length_le (by rw [lett_length]; omega)]
  simp -dsimp (disch := omega) [l65, hx]
  refine write_none (off := 20) (v := 1) (n := 8) rfl (by omega) (by omega) o ?_
  simp -dsimp (disch := omega)
  refine write_asF (off := 20) (v := 9) (n := 4) kW8 rfl (by omega) (by omega) o fun h23 o f23 => ?_
  have z23 : NoD h23 (ptr zz) := by
    rcases z20 with q | ⟨z, q, l, bz⟩
    · cases q
    · cases q
      exact .inr ⟨_, rfl, Nat.lt_of_lt_of_le l f23.le, (f23.same _ l (by omega)).trans bz⟩
  have z0 : NoD h23 (.pointer none) := .inl rfl
  simp -dsimp (disch := omega)
  refine reads_as (off := 20) (n := 4) (want := 0) (r := true) rfl (by omega) o ?_
  simp -dsimp (disch := omega)
  refine tick_no z0 ?_
  simp -dsimp (disch := omega)
  refine write_no (off := 0) (u := 1) (w := 4) z23 ?_
  simp -dsimp (disch := omega)
  refine level_no z0 ?_
  simp -dsimp (disch := omega)
  refine copy_no z0 ?_
  simp -dsimp (disch := omega)
  refine text_no z23 ?_
  simp -dsimp (disch := omega)
  refine same_no z0 z23 ?_
  simp -dsimp (disch := omega)
  refine same_half z0 o.dm.dev ?_
  simp -dsimp (disch := omega)
  refine works_call fun h24 e24 => ?_
  simp -dsimp (disch := omega)
  exact RetF.all (r := .bool true) (by simp) (hK _ (o.ext.trans e24).same)
end Go.Proofs.YtkbiadobkheafaaDoor
