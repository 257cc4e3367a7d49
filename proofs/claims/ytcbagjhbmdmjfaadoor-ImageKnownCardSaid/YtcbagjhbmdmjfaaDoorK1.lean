/-
  What errors say; memories that are none.
-/
import Derived.Test.YtcbagjhbmdmjfaaDoorL2
import Derived.Test.YtcbagjhbmdmjfaaDoorRM
import Derived.Test.YtcbagjhbmdmjfaaDoorShelf
set_option linter.unusedSimpArgs false
set_option linter.unusedVariables false
set_option linter.unusedSectionVars false
namespace Go.Proofs.YtcbagjhbmdmjfaaDoor
set_option maxRecDepth 100000
open Go Go.Mini Go.Proofs.Tryd

/-- Appending one to a row of one that has no room. -/
theorem app_full {h : Hp} {esz bytes b0 : Nat} {x : Value} {new old : Array Value} {K : Value → Hp → Prop} {u : Tag K} (hr : Mini.rowAt h ⟨b0, 0, none⟩ (1 * esz) = some old) (hx : srcCells h esz x = some (1, new)) (room : 2 * bytes ≤ ROOM ∧ 2 ≤ ROOM)
    (hK : K (.slice (some ⟨h.next, 0, none⟩) 2 5) (h.alloc ⟨old ++ new, esz, true⟩)) : OptF (aappend h esz bytes (.slice (some ⟨b0, 0, none⟩) 1 2) x) K u := by
  unfold aappend
  simp only [hx]
  rw [if_neg (by omega), if_pos trivial, hr]
  simp only
  unfold agrown
  rw [if_pos (by simpa using room)]
  simpa using hK
theorem itoa4_call {h : Hp} {K : Value → Hp → Prop} (hK : K (.string (txt [52])) h) : ACall prog 55 [.int .i64 4] h K := by
  refine ACall.of_calls (r := .string (txt [52])) ⟨_, _, func55, rfl, rfl⟩ (by simp [vtop]) rfl (fun w => ?_) hK
  have := Go.Proofs.Tryd.strconv_Itoa_small 4 (by omega) w
  refine this.mono fun e w' ⟨he, hb⟩ => ⟨?_, hb ▸ RowKit.Below.refl _ _⟩
  have hd : Lib.decDigits 4 = [52] := by unfold Lib.decDigits; simp
  rw [he]
  show Ending.returned (Value.string ⟨(Lib.decDigits 4).toArray⟩) = _
  rw [hd]
  rfl
theorem errno8_call {h : Hp} {K : Value → Hp → Prop} (hK : K (.string (txt [97, 108, 105, 103, 110])) h) : ACall prog 56 [.int .i64 8] h K := by
  refine acallF_of tb0 func56 rfl rfl mixed (by kernel_rfl) fun hwf => ?_
  simp -dsimp (disch := omega)
  exact RetF.same hwf (by simp) (Nat.zero_le _) (fun i hi => by simp [Hp.blks_alloc, Nat.ne_of_lt hi]) hK
def tb32 : Nat → Marks := fun k => if k = 3 then ⟨[3, 9, 15, 16], fun _ => True⟩ else ⟨[], fun _ => True⟩
theorem error_call {p : Nat} {h : Hp} {K : Value → Hp → Prop} (hp : h.blks p = some (faultB (txt [101, 110, 116, 114, 121]) 4 8)) (hK : K (.string (txt [101, 110, 116, 114, 121, 32, 97, 116, 32, 52, 58, 32, 97, 108, 105, 103, 110])) h) : ACall prog 32 [.pointer (some ⟨p, 0, none⟩)] h K := by
  refine acallF_of tb32 func32 rfl rfl mixed (by kernel_rfl) fun hwf => ?_
  have hp' : h.blks p = some ⟨#[.string (txt [101, 110, 116, 114, 121]), .int .i64 4, .int .i64 8], 1, true⟩ := hp
  simp -dsimp (disch := first | omega | (simp only [txt_size, List.length_cons, List.length_nil]; omega)) [hp', tb32]
  refine itoa4_call ?_
  simp -dsimp (disch := first | omega | (simp only [txt_size, List.length_cons, List.length_nil, List.length_append]; omega)) [hp', tb32]
  refine errno8_call ?_
  simp -dsimp (disch := first | omega | (simp only [txt_size, List.length_cons, List.length_nil, List.length_append]; omega)) [hp', tb32]
  exact RetF.same hwf (by simp) (Nat.zero_le _) (fun _ _ => rfl) hK
theorem error_nil {h : Hp} {K : Value → Hp → Prop} (hK : K (.string (txt [])) h) : ACall prog 32 [.pointer none] h K := by
  refine acallF_of tb32 func32 rfl rfl mixed (by kernel_rfl) fun hwf => ?_
  simp -dsimp (disch := omega)
  exact RetF.same hwf (by simp) (Nat.zero_le _) (fun _ _ => rfl) hK
theorem unwrap_nil {h : Hp} {K : Value → Hp → Prop} (hK : K .nilIface h) : ACall prog 33 [.pointer none] h K := by
  refine acallF_of tb0 func33 rfl rfl mixed (by kernel_rfl) fun hwf => ?_
  simp -dsimp (disch := omega)
  exact RetF.same hwf (by simp) (Nat.zero_le _) (fun _ _ => rfl) hK
theorem new_call {S : ByteArray} {h : Hp} {K : Value → Hp → Prop} (hK : K (.iface 112 (.pointer (some ⟨h.next, 0, none⟩))) (h.alloc ⟨#[.string S], 1, true⟩)) : ACall prog 31 [.string S] h K := by
  refine acallF_of tb0 func31 rfl rfl mixed (by kernel_rfl) fun hwf => ?_
  simp -dsimp (disch := omega)
  exact RetF.all (by simp) hK
theorem code_new_call {p : Nat} {h : Hp} {K : Value → Hp → Prop} (hE : HasErr h) (h100 : 100 < h.next) (hK : K (.int .i64 2) h) : ACall prog 19 [.iface 112 (.pointer (some ⟨p, 0, none⟩))] h K := by
  refine acallF_of tb0 func19 rfl rfl mixed (by kernel_rfl) fun hwf => ?_
  simp -dsimp (disch := omega)
  refine is_new_call ?_
  simp -dsimp (disch := omega)
  refine as_new_not_call (t := h.next) (by unfold HasErr; rw [blks_alloc_ne _ _ _ (by omega)]; exact hE) (blks_alloc_eq _ _) ?_
  simp -dsimp (disch := omega)
  exact RetF.same hwf (by simp) (Nat.zero_le _) (fun i hi => by simp [Hp.blks_alloc, Nat.ne_of_lt hi]) hK
theorem isR_nil {h : Hp} {K : Value → Hp → Prop} (hK : K (.bool false) h) : ACall prog 50 [.pointer none] h K := by
  refine acallF_of tb0 func50 rfl rfl mixed (by kernel_rfl) fun hwf => ?_
  simp -dsimp (disch := omega)
  exact RetF.same hwf (by simp) (Nat.zero_le _) (fun _ _ => rfl) hK
theorem size_nil {h : Hp} {K : Value → Hp → Prop} (hK : K (.int .u64 0) h) : ACall prog 25 [.pointer none] h K := by
  refine acallF_of tb0 func25 rfl rfl mixed (by kernel_rfl) fun hwf => ?_
  simp -dsimp (disch := omega)
  refine isR_nil ?_
  simp -dsimp (disch := omega)
  exact RetF.same hwf (by simp) (Nat.zero_le _) (fun _ _ => rfl) hK
theorem load_nil {x : Nat} {a : Option Addr} {n c : Nat} {h : Hp} {K : Value → Hp → Prop} (hK : K (.int .i64 2) h) : ACall prog 27 [.pointer none, .agg #[.int .u64 x, .slice a n c]] h K := by
  refine acallF_of tb0 func27 rfl rfl mixed (by kernel_rfl) fun hwf => ?_
  simp -dsimp (disch := omega)
  refine size_nil ?_
  simp -dsimp (disch := omega)
  exact RetF.same hwf (by simp) (Nat.zero_le _) (fun i hi => by simp [Hp.blks_alloc, Nat.ne_of_lt hi]) hK
end Go.Proofs.YtcbagjhbmdmjfaaDoor
