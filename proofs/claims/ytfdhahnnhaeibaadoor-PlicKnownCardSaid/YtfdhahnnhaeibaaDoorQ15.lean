/-
  PlicKnown: the law's body.
-/
import Derived.Test.YtfdhahnnhaeibaaDoorQ14
set_option linter.unusedSimpArgs false
set_option linter.unusedVariables false
set_option linter.unusedSectionVars false
namespace Go.Proofs.YtfdhahnnhaeibaaDoor
open Go Go.Mini Go.Proofs.Tryd
set_option maxRecDepth 100000

section
variable {h : Hp} {K : Value → Hp → Prop}
set_option maxHeartbeats 40000000 in
theorem plicKnown_call (hK : K (.bool true) h) : ACall prog 6 [] h K := by
  refine acallF_of tb0 func6 rfl rfl mixed (by kernel_rfl) fun hwf => ?_
  simp -dsimp (disch := omega)
  refine given_call (fun h0 p e0 hp1 hp2 bph0 => ?_)
  have hle0 := e0.le
  have lh0 : p + 1 ≤ h0.next := by omega
  have fh0 := e0.same
  dsimp only [List.append]
  simp -dsimp (disch := omega)
  refine works_call ?_
  simp -dsimp (disch := omega)
  refine write_u (s := gS) (s' := A1) (off := 2097152) (x := 13) bph0 gS_ok (by omega) (by omega) (by omega) (by decide) rfl (fun h1 u1 u2 u3 => ?_)
  have fh1 : ∀ i, i < h.next → h1.blks i = h.blks i := fun i hi => (u1 i (by omega) (by omega)).trans (fh0 i hi)
  have bph1 := u3
  have lh1 := Nat.le_trans lh0 u2
  clear u1 u2 u3 bph0 fh0
  simp -dsimp (disch := omega)
  refine reads_u (s := A1) (s' := A2) (off := 2097152) (want := 5) bph1 A1_ok (by omega) (by omega) (by decide) (by kernel_rfl) rfl (fun h2 u1 u2 u3 => ?_)
  have fh2 : ∀ i, i < h.next → h2.blks i = h.blks i := fun i hi => (u1 i (by omega) (by omega)).trans (fh1 i hi)
  have bph2 := u3
  have lh2 := Nat.le_trans lh1 u2
  clear u1 u2 u3 bph1 fh1
  simp -dsimp (disch := omega)
  refine reads_u (s := A2) (s' := A3) (off := 2097156) (want := 3) bph2 A2_ok (by omega) (by omega) (by decide) (by kernel_rfl) rfl (fun h3 u1 u2 u3 => ?_)
  have fh3 : ∀ i, i < h.next → h3.blks i = h.blks i := fun i hi => (u1 i (by omega) (by omega)).trans (fh2 i hi)
  have bph3 := u3
  have lh3 := Nat.le_trans lh2 u2
  clear u1 u2 u3 bph2 fh2
  simp -dsimp (disch := omega)
  refine raise_u (s := A3) (s' := A4) (n := 3) bph3 (by omega) (by omega) rfl (fun h4 u1 u2 u3 => ?_)
  have fh4 : ∀ i, i < h.next → h4.blks i = h.blks i := fun i hi => (u1 i (by omega) (by omega)).trans (fh3 i hi)
  have bph4 := u3
  have lh4 := Nat.le_trans lh3 u2
  clear u1 u2 u3 bph3 fh3
  simp -dsimp (disch := omega)
  refine raise_u (s := A4) (s' := A5) (n := 3) bph4 (by omega) (by omega) rfl (fun h5 u1 u2 u3 => ?_)
  have fh5 : ∀ i, i < h.next → h5.blks i = h.blks i := fun i hi => (u1 i (by omega) (by omega)).trans (fh4 i hi)
  have bph5 := u3
  have lh5 := Nat.le_trans lh4 u2
  clear u1 u2 u3 bph4 fh4
  simp -dsimp (disch := omega)
  refine reads_u (s := A5) (s' := A6) (off := 4096) (want := 0) bph5 A5_ok (by omega) (by omega) (by decide) (by kernel_rfl) rfl (fun h6 u1 u2 u3 => ?_)
  have fh6 : ∀ i, i < h.next → h6.blks i = h.blks i := fun i hi => (u1 i (by omega) (by omega)).trans (fh5 i hi)
  have bph6 := u3
  have lh6 := Nat.le_trans lh5 u2
  clear u1 u2 u3 bph5 fh5
  simp -dsimp (disch := omega)
  refine text_call (s := A6) A6_inv bph6 (by omega) ?_
  rw [show textS A6 = [48, 32, 48, 32, 53, 104, 115, 32, 48, 32, 48, 32, 48, 32, 48, 32, 48, 56, 47, 53, 32, 48, 48, 47, 48] from by kernel_rfl]
  simp -dsimp (disch := omega)
  refine write_u (s := A6) (s' := A7) (off := 2101252) (x := 3) bph6 A6_ok (by omega) (by omega) (by omega) (by decide) rfl (fun h7 u1 u2 u3 => ?_)
  have fh7 : ∀ i, i < h.next → h7.blks i = h.blks i := fun i hi => (u1 i (by omega) (by omega)).trans (fh6 i hi)
  have bph7 := u3
  have lh7 := Nat.le_trans lh6 u2
  clear u1 u2 u3 bph6 fh6
  simp -dsimp (disch := omega)
  refine reads_u (s := A7) (s' := A8) (off := 4096) (want := 0) bph7 A7_ok (by omega) (by omega) (by decide) (by kernel_rfl) rfl (fun h8 u1 u2 u3 => ?_)
  have fh8 : ∀ i, i < h.next → h8.blks i = h.blks i := fun i hi => (u1 i (by omega) (by omega)).trans (fh7 i hi)
  have bph8 := u3
  have lh8 := Nat.le_trans lh7 u2
  clear u1 u2 u3 bph7 fh7
  simp -dsimp (disch := omega)
  refine write_u (s := A8) (s' := A9) (off := 2097156) (x := 4294967299) bph8 A8_ok (by omega) (by omega) (by omega) (by decide) rfl (fun h9 u1 u2 u3 => ?_)
  have fh9 : ∀ i, i < h.next → h9.blks i = h.blks i := fun i hi => (u1 i (by omega) (by omega)).trans (fh8 i hi)
  have bph9 := u3
  have lh9 := Nat.le_trans lh8 u2
  clear u1 u2 u3 bph8 fh8
  simp -dsimp (disch := omega)
  refine reads_u (s := A9) (s' := A10) (off := 4096) (want := 8) bph9 A9_ok (by omega) (by omega) (by decide) (by kernel_rfl) rfl (fun h10 u1 u2 u3 => ?_)
  have fh10 : ∀ i, i < h.next → h10.blks i = h.blks i := fun i hi => (u1 i (by omega) (by omega)).trans (fh9 i hi)
  have bph10 := u3
  have lh10 := Nat.le_trans lh9 u2
  clear u1 u2 u3 bph9 fh9
  simp -dsimp (disch := omega)
  refine text_call (s := A10) A10_inv bph10 (by omega) ?_
  rw [show textS A10 = [48, 32, 48, 32, 53, 104, 112, 32, 48, 32, 48, 32, 48, 32, 48, 32, 48, 56, 47, 53, 32, 48, 48, 47, 48] from by kernel_rfl]
  simp -dsimp (disch := omega)
  refine read_bad (s := A10) (off := 2) (w := 4) bph10 A10_ok (by omega) (by omega) (by decide) ?_
  simp -dsimp (disch := omega)
  refine read_bad (s := A10) (off := 0) (w := 8) bph10 A10_ok (by omega) (by omega) (by decide) ?_
  simp -dsimp (disch := omega)
  refine read_bad (s := A10) (off := 2105344) (w := 4) bph10 A10_ok (by omega) (by omega) (by decide) ?_
  simp -dsimp (disch := omega)
  refine copy_call (s := A10) bph10 ?_
  obtain ⟨q, hq⟩ : ∃ q, q = h10.next := ⟨_, rfl⟩
  rw [← hq]
  have bpc : (h10.alloc ⟨stC A10, 1, true⟩).blks p = some ⟨stC A10, 1, true⟩ := by rw [blks_alloc_ne _ _ _ (by omega)]; exact bph10
  have bqc : (h10.alloc ⟨stC A10, 1, true⟩).blks q = some ⟨stC A10, 1, true⟩ := blks_alloc_at _ _ _ hq
  have lc : q + 1 ≤ (h10.alloc ⟨stC A10, 1, true⟩).next := by rw [hq]; exact Nat.le_refl _
  have fc : ∀ i, i < h.next → (h10.alloc ⟨stC A10, 1, true⟩).blks i = h.blks i := fun i hi => by rw [blks_alloc_ne _ _ _ (by omega)]; exact fh10 i hi
  have hpq : p + 1 ≤ q := by omega
  generalize h10.alloc ⟨stC A10, 1, true⟩ = c at *
  clear hq bph10 fh10 lh10
  simp -dsimp (disch := omega)
  refine same_call (s := A10) (s' := A10) bpc bqc fun r hr => ?_
  obtain rfl : r = true := hr.2 (Eqv.refl _)
  simp -dsimp (disch := omega)
  refine raise_u (s := A10) (s' := B11) (n := 7) bqc (by omega) (by omega) rfl (fun h11 u1 u2 u3 => ?_)
  have bph11 := (u1 p (by omega) (by omega)).trans bpc
  have fh11 : ∀ i, i < h.next → h11.blks i = h.blks i := fun i hi => (u1 i (by omega) (by omega)).trans (fc i hi)
  have bqh11 := u3
  have lh11 := Nat.le_trans lc u2
  clear u1 u2 u3 bpc bqc fc
  simp -dsimp (disch := omega)
  refine raise_u (s := B11) (s' := B12) (n := 2) bqh11 (by omega) (by omega) rfl (fun h12 u1 u2 u3 => ?_)
  have bph12 := (u1 p (by omega) (by omega)).trans bph11
  have fh12 : ∀ i, i < h.next → h12.blks i = h.blks i := fun i hi => (u1 i (by omega) (by omega)).trans (fh11 i hi)
  have bqh12 := u3
  have lh12 := Nat.le_trans lh11 u2
  clear u1 u2 u3 bph11 bqh11 fh11
  simp -dsimp (disch := omega)
  refine raise_bad (s := A10) (n := 8) bph12 (by omega) ?_
  simp -dsimp (disch := omega)
  refine raise_bad (s := A10) (n := 0) bph12 (by omega) ?_
  simp -dsimp (disch := omega)
  refine raise_bad (s := A10) (n := -1) bph12 (by omega) ?_
  simp -dsimp (disch := omega)
  refine reads_u (s := A10) (s' := A13) (off := 12288) (want := 0) bph12 A10_ok (by omega) (by omega) (by decide) (by kernel_rfl) rfl (fun h13 u1 u2 u3 => ?_)
  have bqh13 := (u1 q (by omega) (by omega)).trans bqh12
  have fh13 : ∀ i, i < h.next → h13.blks i = h.blks i := fun i hi => (u1 i (by omega) (by omega)).trans (fh12 i hi)
  have bph13 := u3
  have lh13 := Nat.le_trans lh12 u2
  clear u1 u2 u3 bqh12 bph12 fh12
  simp -dsimp (disch := omega)
  refine reads_u (s := A13) (s' := A14) (off := 0) (want := 0) bph13 A13_ok (by omega) (by omega) (by decide) (by kernel_rfl) rfl (fun h14 u1 u2 u3 => ?_)
  have bqh14 := (u1 q (by omega) (by omega)).trans bqh13
  have fh14 : ∀ i, i < h.next → h14.blks i = h.blks i := fun i hi => (u1 i (by omega) (by omega)).trans (fh13 i hi)
  have bph14 := u3
  have lh14 := Nat.le_trans lh13 u2
  clear u1 u2 u3 bqh13 bph13 fh13
  simp -dsimp (disch := omega)
  refine write_u (s := A14) (s' := A15) (off := 4096) (x := 255) bph14 A14_ok (by omega) (by omega) (by omega) (by decide) rfl (fun h15 u1 u2 u3 => ?_)
  have bqh15 := (u1 q (by omega) (by omega)).trans bqh14
  have fh15 : ∀ i, i < h.next → h15.blks i = h.blks i := fun i hi => (u1 i (by omega) (by omega)).trans (fh14 i hi)
  have bph15 := u3
  have lh15 := Nat.le_trans lh14 u2
  clear u1 u2 u3 bqh14 bph14 fh14
  simp -dsimp (disch := omega)
  refine reads_u (s := A15) (s' := A16) (off := 4096) (want := 8) bph15 A15_ok (by omega) (by omega) (by decide) (by kernel_rfl) rfl (fun h16 u1 u2 u3 => ?_)
  have bqh16 := (u1 q (by omega) (by omega)).trans bqh15
  have fh16 : ∀ i, i < h.next → h16.blks i = h.blks i := fun i hi => (u1 i (by omega) (by omega)).trans (fh15 i hi)
  have bph16 := u3
  have lh16 := Nat.le_trans lh15 u2
  clear u1 u2 u3 bqh15 bph15 fh15
  simp -dsimp (disch := omega)
  refine same_call (s := A16) (s' := B12) bph16 bqh16 fun r hr => ?_
  obtain rfl : r = false := by
    cases r with
    | false => rfl
    | true =>
      have e := (hr.1 rfl).pe 2 (by omega)
      rw [show A16.pe 2 = false from by kernel_rfl, show B12.pe 2 = true from by kernel_rfl] at e
      cases e
  simp -dsimp (disch := omega)
  refine reads_u (s := B12) (s' := B17) (off := 4096) (want := 140) bqh16 B12_ok (by omega) (by omega) (by decide) (by kernel_rfl) rfl (fun h17 u1 u2 u3 => ?_)
  have bph17 := (u1 p (by omega) (by omega)).trans bph16
  have fh17 : ∀ i, i < h.next → h17.blks i = h.blks i := fun i hi => (u1 i (by omega) (by omega)).trans (fh16 i hi)
  have bqh17 := u3
  have lh17 := Nat.le_trans lh16 u2
  clear u1 u2 u3 bph16 bqh16 fh16
  simp -dsimp (disch := omega)
  refine write_bad (s := A16) (off := 13) (x := 0) (w := 4) bph17 A16_ok (by omega) (by omega) (by omega) (by decide) ?_
  simp -dsimp (disch := omega)
  refine write_u (s := B17) (s' := B18) (off := 8320) (x := 255) bqh17 B17_ok (by omega) (by omega) (by omega) (by decide) rfl (fun h18 u1 u2 u3 => ?_)
  have bph18 := (u1 p (by omega) (by omega)).trans bph17
  have fh18 : ∀ i, i < h.next → h18.blks i = h.blks i := fun i hi => (u1 i (by omega) (by omega)).trans (fh17 i hi)
  have bqh18 := u3
  have lh18 := Nat.le_trans lh17 u2
  clear u1 u2 u3 bph17 bqh17 fh17
  simp -dsimp (disch := omega)
  refine reads_u (s := B18) (s' := B19) (off := 8320) (want := 254) bqh18 B18_ok (by omega) (by omega) (by decide) (by kernel_rfl) rfl (fun h19 u1 u2 u3 => ?_)
  have bph19 := (u1 p (by omega) (by omega)).trans bph18
  have fh19 : ∀ i, i < h.next → h19.blks i = h.blks i := fun i hi => (u1 i (by omega) (by omega)).trans (fh18 i hi)
  have bqh19 := u3
  have lh19 := Nat.le_trans lh18 u2
  clear u1 u2 u3 bph18 bqh18 fh18
  simp -dsimp (disch := omega)
  refine write_u (s := B19) (s' := B20) (off := 8) (x := 7) bqh19 B19_ok (by omega) (by omega) (by omega) (by decide) rfl (fun h20 u1 u2 u3 => ?_)
  have bph20 := (u1 p (by omega) (by omega)).trans bph19
  have fh20 : ∀ i, i < h.next → h20.blks i = h.blks i := fun i hi => (u1 i (by omega) (by omega)).trans (fh19 i hi)
  have bqh20 := u3
  have lh20 := Nat.le_trans lh19 u2
  clear u1 u2 u3 bph19 bqh19 fh19
  simp -dsimp (disch := omega)
  refine write_u (s := B20) (s' := B21) (off := 28) (x := 15) bqh20 B20_ok (by omega) (by omega) (by omega) (by decide) rfl (fun h21 u1 u2 u3 => ?_)
  have bph21 := (u1 p (by omega) (by omega)).trans bph20
  have fh21 : ∀ i, i < h.next → h21.blks i = h.blks i := fun i hi => (u1 i (by omega) (by omega)).trans (fh20 i hi)
  have bqh21 := u3
  have lh21 := Nat.le_trans lh20 u2
  clear u1 u2 u3 bph20 bqh20 fh20
  simp -dsimp (disch := omega)
  refine reads_u (s := B21) (s' := B22) (off := 28) (want := 7) bqh21 B21_ok (by omega) (by omega) (by decide) (by kernel_rfl) rfl (fun h22 u1 u2 u3 => ?_)
  have bph22 := (u1 p (by omega) (by omega)).trans bph21
  have fh22 : ∀ i, i < h.next → h22.blks i = h.blks i := fun i hi => (u1 i (by omega) (by omega)).trans (fh21 i hi)
  have bqh22 := u3
  have lh22 := Nat.le_trans lh21 u2
  clear u1 u2 u3 bph21 bqh21 fh21
  simp -dsimp (disch := omega)
  refine calls_call (c := 1) (s := B22) bqh22 B22_ok (by omega) (by omega) ?_
  rw [show callsS B22 1 = true from by kernel_rfl]
  simp -dsimp (disch := omega)
  refine reads_u (s := B22) (s' := B23) (off := 2101252) (want := 2) bqh22 B22_ok (by omega) (by omega) (by decide) (by kernel_rfl) rfl (fun h23 u1 u2 u3 => ?_)
  have bph23 := (u1 p (by omega) (by omega)).trans bph22
  have fh23 : ∀ i, i < h.next → h23.blks i = h.blks i := fun i hi => (u1 i (by omega) (by omega)).trans (fh22 i hi)
  have bqh23 := u3
  have lh23 := Nat.le_trans lh22 u2
  clear u1 u2 u3 bph22 bqh22 fh22
  simp -dsimp (disch := omega)
  refine reads_u (s := B23) (s' := B24) (off := 2101252) (want := 7) bqh23 B23_ok (by omega) (by omega) (by decide) (by kernel_rfl) rfl (fun h24 u1 u2 u3 => ?_)
  have bph24 := (u1 p (by omega) (by omega)).trans bph23
  have fh24 : ∀ i, i < h.next → h24.blks i = h.blks i := fun i hi => (u1 i (by omega) (by omega)).trans (fh23 i hi)
  have bqh24 := u3
  have lh24 := Nat.le_trans lh23 u2
  clear u1 u2 u3 bph23 bqh23 fh23
  simp -dsimp (disch := omega)
  refine reads_u (s := B24) (s' := B25) (off := 2101252) (want := 3) bqh24 B24_ok (by omega) (by omega) (by decide) (by kernel_rfl) rfl (fun h25 u1 u2 u3 => ?_)
  have bph25 := (u1 p (by omega) (by omega)).trans bph24
  have fh25 : ∀ i, i < h.next → h25.blks i = h.blks i := fun i hi => (u1 i (by omega) (by omega)).trans (fh24 i hi)
  have bqh25 := u3
  have lh25 := Nat.le_trans lh24 u2
  clear u1 u2 u3 bph24 bqh24 fh24
  simp -dsimp (disch := omega)
  refine reads_u (s := B25) (s' := B26) (off := 2101252) (want := 0) bqh25 B25_ok (by omega) (by omega) (by decide) (by kernel_rfl) rfl (fun h26 u1 u2 u3 => ?_)
  have bph26 := (u1 p (by omega) (by omega)).trans bph25
  have fh26 : ∀ i, i < h.next → h26.blks i = h.blks i := fun i hi => (u1 i (by omega) (by omega)).trans (fh25 i hi)
  have bqh26 := u3
  have lh26 := Nat.le_trans lh25 u2
  clear u1 u2 u3 bph25 bqh25 fh25
  simp -dsimp (disch := omega)
  have nn : NoP (h26.alloc ⟨zC, 1, true⟩) (.pointer none) := .inl rfl
  have nz : NoP (h26.alloc ⟨zC, 1, true⟩) (ptr h26.next) := .inr ⟨_, rfl, blks_alloc_eq _ _⟩
  have bpz : (h26.alloc ⟨zC, 1, true⟩).blks p = some ⟨stC A16, 1, true⟩ := by rw [blks_alloc_ne _ _ _ (by omega)]; exact bph26
  have fz : ∀ i, i < h.next → (h26.alloc ⟨zC, 1, true⟩).blks i = h.blks i := fun i hi => by rw [blks_alloc_ne _ _ _ (by omega)]; exact fh26 i hi
  unfold zC at nn nz bpz fz
  refine read_no nn ?_
  simp -dsimp (disch := omega)
  refine raise_no nn ?_
  simp -dsimp (disch := omega)
  refine write_no nz ?_
  simp -dsimp (disch := omega)
  refine callsN_no nz ?_
  simp -dsimp (disch := omega)
  refine calls_no (s := A16) bpz (by omega) ?_
  simp -dsimp (disch := omega)
  refine calls_no (s := A16) bpz (by omega) ?_
  simp -dsimp (disch := omega)
  refine copy_no nn ?_
  simp -dsimp (disch := omega)
  refine text_no nz ?_
  simp -dsimp (disch := omega)
  refine same_no2 nn nz ?_
  simp -dsimp (disch := omega)
  refine same_no1 (s := A16) nn bpz ?_
  simp -dsimp (disch := omega)
  refine works_call ?_
  simp -dsimp (disch := omega)
  exact RetF.same hwf (by simp) (Nat.zero_le _) fz hK
end
end Go.Proofs.YtfdhahnnhaeibaaDoor
