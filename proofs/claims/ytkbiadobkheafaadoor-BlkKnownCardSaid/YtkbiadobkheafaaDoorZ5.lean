/-
  Devices that are none; the examples' texts.
-/
import Derived.Test.YtkbiadobkheafaaDoorZ4
set_option linter.unusedSimpArgs false
set_option linter.unusedVariables false
set_option linter.unusedSectionVars false
namespace Go.Proofs.YtkbiadobkheafaaDoor
open Go Go.Mini Go.Proofs.Tryd
set_option maxRecDepth 100000

def zC : Array Value := (.bool false :: zL).toArray
theorem zC_0 : zC[0]? = some (.bool false) := rfl
theorem zC_size : zC.size = 2058 := by simp [zC, zL_len]
theorem zC_one : oneAll zC.toList = true := by
  show oneAll (.bool false :: zL) = true
  rw [oneAll_cons, oneAll_zL]
  rfl
theorem zeroOf_z : zeroOf prog 52 = some zC := zeroOf_52
/-- nil, or one that nobody made. -/
def NoD (h : Hp) (v : Value) : Prop := v = .pointer none ∨ ∃ p, v = ptr p ∧ p < h.next ∧ h.blks p = some ⟨zC, 1, true⟩
theorem NoD.mono {h h' : Hp} {v : Value} (hn : NoD h v) (e : Ext h h') : NoD h' v := by
  rcases hn with rfl | ⟨p, rfl, hp, hb⟩
  · exact .inl rfl
  · exact .inr ⟨p, rfl, Nat.lt_of_lt_of_le hp e.le, (e.same _ hp).trans hb⟩
theorem NoD.ptr {h : Hp} {v : Value} (hn : NoD h v) : ∃ a, v = .pointer a := by
  rcases hn with rfl | ⟨p, rfl, hp, hb⟩
  · exact ⟨_, rfl⟩
  · exact ⟨_, rfl⟩
section
variable {h : Hp} {K : Value → Hp → Prop} {v : Value}
theorem is_no (hn : NoD h v) (hK : K (.bool false) h) : ACall prog 30 [v] h K := by
  refine acallF_of tb0 func30 rfl rfl mixed (by kernel_rfl) fun hwf => ?_
  rcases hn with rfl | ⟨p, rfl, hp, hb⟩
  · simp -dsimp (disch := omega)
    exact RetF.same hwf (by simp) (Nat.zero_le _) (fun _ _ => rfl) hK
  · have z0 := zC_0
    obtain ⟨c, hc⟩ : ∃ c, c = zC := ⟨_, rfl⟩
    rw [← hc] at hb z0
    clear hc
    simp -dsimp (disch := omega) [hb, z0, -getElem?_pos]
    exact RetF.same hwf (by simp) (Nat.zero_le _) (fun _ _ => rfl) hK
theorem reset_no (hn : NoD h v) (hK : K (.tuple #[]) h) : ACall prog 19 [v] h K := by
  refine acallF_of tb0 func19 rfl rfl mixed (by kernel_rfl) fun hwf => ?_
  simp -dsimp (disch := omega)
  refine is_no hn ?_
  simp -dsimp (disch := omega)
  exact RetF.all (r := .tuple #[]) (by simp) hK
theorem setDelay_no {n : Nat} (hn : NoD h v) (hK : K (.tuple #[]) h) : ACall prog 10 [v, .int .u32 n] h K := by
  refine acallF_of tb0 func10 rfl rfl mixed (by kernel_rfl) fun hwf => ?_
  simp -dsimp (disch := omega)
  refine is_no hn ?_
  simp -dsimp (disch := omega)
  exact RetF.all (r := .tuple #[]) (by simp) hK
theorem read_no {off : Nat} {w : Int} (hn : NoD h v) (hK : K (.tuple #[.int .u64 0, .bool false]) h) : ACall prog 15 [v, .int .u64 off, .int .i64 w] h K := by
  refine acallF_of tb0 func15 rfl rfl mixed (by kernel_rfl) fun hwf => ?_
  simp -dsimp (disch := omega)
  refine is_no hn ?_
  simp -dsimp (disch := omega)
  exact RetF.all (r := .tuple #[.int .u64 0, .bool false]) (by simp) hK
theorem write_no {off u : Nat} {w : Int} (hn : NoD h v) (hK : K (.bool false) h) : ACall prog 7 [v, .int .u64 off, .int .u64 u, .int .i64 w] h K := by
  refine acallF_of tb0 func7 rfl rfl mixed (by kernel_rfl) fun hwf => ?_
  simp -dsimp (disch := omega)
  refine read_no hn ?_
  simp -dsimp (disch := omega)
  exact RetF.all (r := .bool false) (by simp) hK
theorem tick_no {m : Value} (hn : NoD h v) (hK : K (.bool false) h) : ACall prog 12 [v, m] h K := by
  refine acallF_of tb0 func12 rfl rfl mixed (by kernel_rfl) fun hwf => ?_
  simp -dsimp (disch := omega)
  refine is_no hn ?_
  simp -dsimp (disch := omega)
  exact RetF.all (r := .bool false) (by simp) hK
theorem level_no (hn : NoD h v) (hK : K (.bool false) h) : ACall prog 9 [v] h K := by
  refine acallF_of tb0 func9 rfl rfl mixed (by kernel_rfl) fun hwf => ?_
  simp -dsimp (disch := omega)
  refine is_no hn ?_
  simp -dsimp (disch := omega)
  exact RetF.all (r := .bool false) (by simp) hK
theorem copy_no (hn : NoD h v) (hK : K (.pointer none) h) : ACall prog 17 [v] h K := by
  refine acallF_of tb0 func17 rfl rfl mixed (by kernel_rfl) fun hwf => ?_
  simp -dsimp (disch := omega)
  refine is_no hn ?_
  simp -dsimp (disch := omega)
  exact RetF.all (r := .pointer none) (by simp) hK
theorem text_no (hn : NoD h v) (hK : K (.string (txt [])) h) : ACall prog 11 [v] h K := by
  refine acallF_of tb0 func11 rfl rfl mixed (by kernel_rfl) fun hwf => ?_
  simp -dsimp (disch := omega)
  refine is_no hn ?_
  simp -dsimp (disch := omega)
  exact RetF.all (r := .string (txt [])) (by simp) hK
theorem same_no {v' : Value} (hn : NoD h v) (hn' : NoD h v') (hK : K (.bool true) h) : ACall prog 18 [v, v'] h K := by
  refine acallF_of tb0 func18 rfl rfl mixed (by kernel_rfl) fun hwf => ?_
  simp -dsimp (disch := omega)
  refine is_no hn ?_
  simp -dsimp (disch := omega)
  refine is_no hn ?_
  simp -dsimp (disch := omega)
  refine is_no hn' ?_
  simp -dsimp (disch := omega)
  exact RetF.all (r := .bool true) (by simp) hK
theorem same_half {p : Nat} {d : Dev} (hn : NoD h v) (hb : h.blks p = some ⟨devC d, 1, true⟩) (hK : K (.bool false) h) : ACall prog 18 [v, ptr p] h K := by
  refine acallF_of tb0 func18 rfl rfl mixed (by kernel_rfl) fun hwf => ?_
  simp -dsimp (disch := omega)
  refine is_no hn ?_
  simp -dsimp (disch := omega)
  refine is_no hn ?_
  simp -dsimp (disch := omega)
  refine is_call hb ?_
  simp -dsimp (disch := omega)
  exact RetF.all (r := .bool false) (by simp) hK
theorem textW_call {p : Nat} {d : Dev} {t : List UInt8} (hT : textD (shownD d) = t) (hb : h.blks p = some ⟨devC d, 1, true⟩) (hd : d.ok) (hp : p < h.next) (ht : PowAt h) (hlt : 100 < h.next) (hK : ∀ h', Ext h h' → K (.string (txt t)) h') : ACall prog 11 [ptr p] h K := by
  subst hT
  exact text_call hb hd hp ht hlt hK
end
/-! The examples' devices. -/
def kS : Nat → Nat := takeS (fun _ => 0) 3 M128 1
theorem M128_lt (i : Nat) : M128 i < 256 := Rm.lay_lt (fun _ => by omega) i
theorem kS_lt (i : Nat) : kS i < 256 := takeS_lt (fun _ => by omega) M128_lt i
theorem lay_self {M : Nat → Nat} (h : ∀ i, M i < 256) (x n : Nat) : lay M x (bytesM M x n) = M := by
  funext i
  unfold lay
  split
  · rename_i c
    rw [bytesM_length] at c
    rw [bytesM_at _ _ _ _ (by omega), show x + (i - x) = i by omega]
    have := h i
    simp
    omega
  · rfl
def kD (rs rc ra us uc ua st lf dl : Nat) : Dev := ⟨rs, rc, ra, us, uc, ua, st, lf, dl, kS⟩
theorem kD_ok {rs rc ra us uc ua st lf dl : Nat} (h : rs < 100 ∧ rc < 100 ∧ ra < 100 ∧ us < 100 ∧ uc < 100 ∧ ua < 100 ∧ st < 4 ∧ lf < 100 ∧ dl < 100 ∧ (st = 1 → 0 < lf)) : (kD rs rc ra us uc ua st lf dl).ok :=
  ⟨by show rs < _; omega, by show rc < _; omega, by show ra < _; omega, by show us < _; omega, by show uc < _; omega, by show ua < _; omega, by show st < _; omega, by show lf < _; omega, by show dl < _; omega, kS_lt, h.2.2.2.2.2.2.2.2.2⟩
theorem dg {n : Nat} (h : n < 10) : digL n = [UInt8.ofNat (48 + n)] := digL_small h
theorem dg60 : digL 60 = [54, 48] := by rw [digL_big (by omega), digL_small (by omega)]; rfl
theorem kText1 : textD (shownD (kD 3 1 60 3 1 1 1 2 2)) = [51, 32, 54, 48, 32, 49, 32, 49, 32, 50, 32, 50] := by
  show textD (kD 3 1 60 3 1 1 1 2 2) = _
  unfold textD kD
  simp only [dg60, dg (show 3 < 10 by omega), dg (show 1 < 10 by omega), dg (show 2 < 10 by omega)]
  rfl
theorem kText2 : textD (shownD (kD 0 0 0 0 0 0 0 0 2)) = [48, 32, 48, 32, 48, 32, 48, 32, 48, 32, 50] := by
  show textD (kD 0 0 0 0 0 0 0 0 2) = _
  unfold textD kD
  simp only [dg (show 0 < 10 by omega), dg (show 2 < 10 by omega)]
  rfl
theorem kS3 : (List.range 64).map (fun i => UInt8.ofNat (secM (kD 0 0 0 0 0 0 0 0 2) 3 i)) = (lett 65).drop 1 := given_sec
theorem kTick1 : tickD (kD 3 1 60 3 1 1 1 2 2) M128 4096 = kD 3 1 60 3 1 1 1 1 2 ∧ tickM (kD 3 1 60 3 1 1 1 2 2) M128 4096 = M128 ∧ ¬ endsB (kD 3 1 60 3 1 1 1 2 2) := by
  have hE : ¬ endsB (kD 3 1 60 3 1 1 1 2 2) := fun q => by have : (2 : Nat) ≤ 1 := q.2; omega
  exact ⟨tick_go rfl (by show 1 < 2; omega), by unfold tickM; rw [if_neg hE], hE⟩
theorem kTick2 : tickD (kD 3 1 60 3 1 1 1 1 2) M128 4096 = kD 3 1 60 3 1 1 2 0 2 ∧ tickM (kD 3 1 60 3 1 1 1 1 2) M128 4096 = M128 ∧ endsB (kD 3 1 60 3 1 1 1 1 2) := by
  have hE : endsB (kD 3 1 60 3 1 1 1 1 2) := ⟨rfl, by show 1 ≤ 1; omega⟩
  have hf : fits (kD 3 1 60 3 1 1 1 1 2) 4096 := ⟨by show 3 < 32; omega, by show 1 + 64 ≤ 4096; omega⟩
  have h2 : ¬ ((kD 3 1 60 3 1 1 1 1 2).uc = 2 ∧ fits (kD 3 1 60 3 1 1 1 1 2) 4096) := fun q => by have : (1 : Nat) = 2 := q.1; omega
  refine ⟨?_, ?_, hE⟩
  · rw [tick_end rfl (by show ¬ 1 < 1; omega)]
    unfold endD
    rw [if_neg h2, if_pos ⟨rfl, hf⟩]
    rfl
  · unfold tickM
    rw [if_pos hE]
    unfold endM
    rw [if_pos ⟨rfl, hf⟩]
    show lay M128 1 (bytesM (takeS (fun _ => 0) 3 M128 1) (3 * 64) 64) = M128
    rw [bytes_take, lay_self M128_lt]
theorem kTick3 : tickD (kD 3 1 60 3 1 1 2 0 2) M128 4096 = kD 3 1 60 3 1 1 2 0 2 ∧ tickM (kD 3 1 60 3 1 1 2 0 2) M128 4096 = M128 ∧ ¬ endsB (kD 3 1 60 3 1 1 2 0 2) := by
  have hE : ¬ endsB (kD 3 1 60 3 1 1 2 0 2) := fun q => by have : (2 : Nat) = 1 := q.1; omega
  exact ⟨tick_idle (by show (2 : Nat) ≠ 1; omega), by unfold tickM; rw [if_neg hE], hE⟩
theorem kTick4 : tickD (kD 32 1 60 32 1 60 1 2 2) M128 4096 = kD 32 1 60 32 1 60 1 1 2 ∧ tickM (kD 32 1 60 32 1 60 1 2 2) M128 4096 = M128 ∧ ¬ endsB (kD 32 1 60 32 1 60 1 2 2) := by
  have hE : ¬ endsB (kD 32 1 60 32 1 60 1 2 2) := fun q => by have : (2 : Nat) ≤ 1 := q.2; omega
  exact ⟨tick_go rfl (by show 1 < 2; omega), by unfold tickM; rw [if_neg hE], hE⟩
theorem kTick5 : tickD (kD 32 1 60 32 1 60 1 1 2) M128 4096 = kD 32 1 60 32 1 60 3 0 2 ∧ tickM (kD 32 1 60 32 1 60 1 1 2) M128 4096 = M128 ∧ endsB (kD 32 1 60 32 1 60 1 1 2) := by
  have hE : endsB (kD 32 1 60 32 1 60 1 1 2) := ⟨rfl, by show 1 ≤ 1; omega⟩
  have hf : ¬ fits (kD 32 1 60 32 1 60 1 1 2) 4096 := fun q => by have : 32 < 32 := q.1; omega
  refine ⟨?_, ?_, hE⟩
  · rw [tick_end rfl (by show ¬ 1 < 1; omega)]
    unfold endD
    rw [if_neg (fun q => hf q.2), if_neg (fun q => hf q.2)]
    rfl
  · unfold tickM
    rw [if_pos hE]
    unfold endM
    rw [if_neg (fun q => hf q.2)]
theorem kW1 : writeD givenD 24 0 = kD 3 2 1 3 2 1 0 0 0 := rfl
theorem kW2 : writeD { kD 3 2 1 3 2 1 0 0 0 with dl := 2 } 16 1 = kD 3 1 1 3 1 1 1 2 2 := rfl
theorem kW3 : writeD (kD 3 1 1 3 1 1 1 2 2) 8 60 = kD 3 1 60 3 1 1 1 2 2 := rfl
theorem kW4 : writeD (kD 3 1 60 3 1 1 2 0 2) 0 32 = kD 32 1 60 3 1 1 2 0 2 := rfl
theorem kW5 : writeD (kD 32 1 60 3 1 1 2 0 2) 16 1 = kD 32 1 60 32 1 60 1 2 2 := rfl
theorem kW6 : writeD (kD 32 1 60 32 1 60 3 0 2) 16 2 = kD 32 2 60 32 2 60 1 2 2 := rfl
theorem kW7 : writeD (kD 32 2 60 32 2 60 1 2 2) 16 7 = kD 32 2 60 32 2 60 1 2 2 := rfl
theorem kR : resetD (kD 32 2 60 32 2 60 1 2 2) = kD 0 0 0 0 0 0 0 0 2 := rfl
theorem kW8 : writeD (kD 0 0 0 0 0 0 0 0 2) 20 9 = kD 0 0 0 0 0 0 0 0 2 := rfl
theorem kBytes : bytesM M128 0 128 = lett 128 := bytes_lay _ _ _ _ (lett_length 128)
end Go.Proofs.YtkbiadobkheafaaDoor
