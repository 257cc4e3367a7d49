/-
  What errors say.
-/
import Derived.Test.YtmnemfeofhinaaaDoorLA
import Derived.Test.YtmnemfeofhinaaaDoorShelf
set_option linter.unusedSimpArgs false
set_option linter.unusedVariables false
set_option linter.unusedSectionVars false
namespace Go.Proofs.YtmnemfeofhinaaaDoor
set_option maxRecDepth 100000
open Go Go.Mini Go.Proofs.Tryd

theorem itoa3_call {h : Hp} {K : Value → Hp → Prop} (hK : K (.string (txt [51])) h) : ACall prog 61 [.int .i64 3] h K := by
  refine ACall.of_calls (r := .string (txt [51])) ⟨_, _, func61, rfl, rfl⟩ (by simp [vtop]) rfl (fun w => ?_) hK
  have := Go.Proofs.Tryd.strconv_Itoa_small 3 (by omega) w
  refine this.mono fun e w' ⟨he, hb⟩ => ⟨?_, hb ▸ RowKit.Below.refl _ _⟩
  have hd : Lib.decDigits 3 = [51] := by unfold Lib.decDigits; simp
  rw [he]
  show Ending.returned (Value.string ⟨(Lib.decDigits 3).toArray⟩) = _
  rw [hd]
  rfl
theorem errno6_call {h : Hp} {K : Value → Hp → Prop} (hK : K (.string (txt [114, 97, 110, 103, 101])) h) : ACall prog 62 [.int .i64 6] h K := by
  refine acallF_of tb0 func62 rfl rfl mixed (by kernel_rfl) fun hwf => ?_
  simp -dsimp (disch := omega)
  exact RetF.same hwf (by simp) (Nat.zero_le _) (fun i hi => by simp [Hp.blks_alloc, Nat.ne_of_lt hi]) hK
def tb25 : Nat → Marks := fun k => if k = 3 then ⟨[3, 9, 15, 16], fun _ => True⟩ else ⟨[], fun _ => True⟩
theorem error_call {p : Nat} {h : Hp} {K : Value → Hp → Prop} (hp : h.blks p = some (faultB (txt [103, 117, 101, 115, 116]) 3 6)) (hK : K (.string (txt [103, 117, 101, 115, 116, 32, 51, 58, 32, 114, 97, 110, 103, 101])) h) : ACall prog 25 [.pointer (some ⟨p, 0, none⟩)] h K := by
  refine acallF_of tb25 func25 rfl rfl mixed (by kernel_rfl) fun hwf => ?_
  have hp' : h.blks p = some ⟨#[.string (txt [103, 117, 101, 115, 116]), .int .i64 3, .int .i64 6], 1, true⟩ := hp
  simp -dsimp (disch := first | omega | (simp only [txt_size, List.length_cons, List.length_nil]; omega)) [hp', tb25]
  refine itoa3_call ?_
  simp -dsimp (disch := first | omega | (simp only [txt_size, List.length_cons, List.length_nil, List.length_append]; omega)) [hp', tb25]
  refine errno6_call ?_
  simp -dsimp (disch := first | omega | (simp only [txt_size, List.length_cons, List.length_nil, List.length_append]; omega)) [hp', tb25]
  exact RetF.same hwf (by simp) (Nat.zero_le _) (fun _ _ => rfl) hK
theorem error_nil {h : Hp} {K : Value → Hp → Prop} (hK : K (.string (txt [])) h) : ACall prog 25 [.pointer none] h K := by
  refine acallF_of tb25 func25 rfl rfl mixed (by kernel_rfl) fun hwf => ?_
  simp -dsimp (disch := omega)
  exact RetF.same hwf (by simp) (Nat.zero_le _) (fun _ _ => rfl) hK
theorem unwrap_nil {h : Hp} {K : Value → Hp → Prop} (hK : K .nilIface h) : ACall prog 26 [.pointer none] h K := by
  refine acallF_of tb0 func26 rfl rfl mixed (by kernel_rfl) fun hwf => ?_
  simp -dsimp (disch := omega)
  exact RetF.same hwf (by simp) (Nat.zero_le _) (fun _ _ => rfl) hK
theorem errNew_call {S : ByteArray} {h : Hp} {K : Value → Hp → Prop} (hK : K (.iface 120 (.pointer (some ⟨h.next, 0, none⟩))) (h.alloc ⟨#[.string S], 1, true⟩)) : ACall prog 27 [.string S] h K := by
  refine acallF_of tb0 func27 rfl rfl mixed (by kernel_rfl) fun hwf => ?_
  simp -dsimp (disch := omega)
  exact RetF.all (by simp) hK
theorem code_new_call {p : Nat} {h : Hp} {K : Value → Hp → Prop} (hE : HasErr h) (h100 : 100 < h.next) (hK : K (.int .i64 2) h) : ACall prog 20 [.iface 120 (.pointer (some ⟨p, 0, none⟩))] h K := by
  refine acallF_of tb0 func20 rfl rfl mixed (by kernel_rfl) fun hwf => ?_
  simp -dsimp (disch := omega)
  refine as_new_not_call (t := h.next) (by unfold HasErr; rw [blks_alloc_ne _ _ _ (by omega)]; exact hE) (blks_alloc_eq _ _) ?_
  simp -dsimp (disch := omega)
  exact RetF.same hwf (by simp) (Nat.zero_le _) (fun i hi => by simp [Hp.blks_alloc, Nat.ne_of_lt hi]) hK
/-! ### Closed facts -/
def gGa : Gu := ⟨0, 5, 2, List.replicate 17 0⟩
def gGb : Gu := ⟨1, 5, 2, List.replicate 16 0 ++ [5]⟩
def gCh : Ch := ⟨0, 0, 0, [(1, 0)], 1, 0, 0⟩
theorem ka : chkC [gGa] [gWi] [] = some (sGuest, 0, 6) := by kernel_rfl
theorem kb : chkC [gGb] [gWi] [] = some (sGuest, 0, 3) := by kernel_rfl
theorem kc : chkC [gGu] [] [] = some (sWindows, 0, 11) := by kernel_rfl
theorem kd : chkC [gGu] [gWi] [gCh] = some (sChannels, 0, 6) := by kernel_rfl
theorem ke : chkC [] [gWi] [] = some (sGuests, 0, 6) := by kernel_rfl
theorem d36 : docP (gB.take 36) = .inl (sSum, 0, 4) := by kernel_rfl
theorem dx : docP (gB ++ [120]) = .inl (sEnd, 0, 5) := by kernel_rfl
theorem d3 : docP [65, 76, 67] = .inl (sMagic, 0, 4) := by kernel_rfl
theorem dm : docP [65, 76, 67, 50] = .inl (sMagic, 0, 3) := by kernel_rfl
theorem d20 : docP (gB.take 20) = .inl (sGuest, 0, 4) := by kernel_rfl
theorem d28 : docP (gB.take 28) = .inl (sWindows, 0, 4) := by kernel_rfl
theorem d30 : docP (gB.take 30) = .inl (sWindow, 0, 4) := by kernel_rfl
theorem d32 : docP (gB.take 32) = .inl (sChannels, 0, 4) := by kernel_rfl
theorem d34 : docP (gB.take 32 ++ [1, 0]) = .inl (sChannel, 0, 4) := by kernel_rfl
theorem d37 : docP (gB.take 32 ++ [0, 0, 0, 0, 0]) = .inl (sSum, 0, 7) := by kernel_rfl
end Go.Proofs.YtmnemfeofhinaaaDoor
