/-
  One act of both memories.
-/
import Derived.Test.YtgafaelakjnemaaR4
set_option linter.unusedSimpArgs false
set_option linter.unusedVariables false
namespace Go.Proofs.Ytgafaelakjnemaa
open Go Go.Mini Go.Proofs.Try

def tb23 : Nat → Marks := fun k => if k = 22 then ⟨[5, 8, 10], fun _ => True⟩ else ⟨[], fun _ => True⟩
@[simp] theorem tb23_l22 : (tb23 22).l = [5, 8, 10] := rfl
@[simp] theorem tb23_R (k x : Nat) : (tb23 k).R x := by unfold tb23; split <;> trivial
theorem bytesM_congr {M M' : Nat → Nat} {x n : Nat} (h : ∀ i, x ≤ i → i < x + n → M i = M' i) : bytesM M x n = bytesM M' x n := by
  unfold bytesM
  apply List.map_congr_left
  intro i hi
  rw [h (x + i) (by omega) (by have := List.mem_range.1 hi; omega)]
section
variable {h0 h : Hp} {p b N C : Nat} {M : Nat → Nat} {a : Nat} {w : Int} {r : Nat} {v : Value} {L : By} {a' : Nat} {w' : Int} {K : Value → Hp → Prop}
set_option maxRecDepth 100000 in
set_option maxHeartbeats 4000000 in
theorem one_call {ew ex ev : Nat} {en : Int} {es : List UInt8} (t : Bt h0 h p b N C M a w r v L a' w') (g : Ag N M a w L a' w') (hw : w = 0 ∨ w = 4 ∨ w = 8) (hl : L.length ≤ 800000) (o1 : ew < 256) (o2 : ex < 18446744073709551616) (o3 : ev < 18446744073709551616) (o5 : es.length ≤ 100)
    (hK : ∀ h' M2 a2 w2 v2 L2 a3 w3, Bt h0 h' p b N C M2 a2 w2 r v2 L2 a3 w3 → Ag N M2 a2 w2 L2 a3 w3 → (w2 = 0 ∨ w2 = 4 ∨ w2 = 8) → Fr h h' (nm p b r v) → VCh h v v2 → L2.length ≤ L.length + 100 → K (.bool true) h') :
    ACall prog 23 [ptr p, ptr r, .agg #[.int .u8 ew, .int .u64 ex, .int .u64 ev, .int .i64 en, .string (txt es)]] h K := by
  refine acallF_of tb23 func23 rfl rfl mixed (by kernel_rfl) fun hwf => ?_
  obtain ⟨H, hH⟩ : ∃ H, H = h.alloc ⟨#[.int .u8 ew, .int .u64 ex, .int .u64 ev, .int .i64 en, .string (txt es)], 1, true⟩ := ⟨_, rfl⟩
  have tH : Bt h0 H p b N C M a w r v L a' w' := by rw [hH]; exact t.ext' (Ext.alloc _ _)
  have fH : Fr h H (nm p b r v) := by rw [hH]; exact Fr.alloc _ _ _
  have vH : VCh h v v := VCh.refl _ _
  have hB : H.blks h.next = some ⟨#[.int .u8 ew, .int .u64 ex, .int .u64 ev, .int .i64 en, .string (txt es)], 1, true⟩ := by rw [hH]; exact blks_alloc_eq _ _
  have hpn : ¬ h.next = p := by have := t.own.ram.plt; omega
  have hbn : ¬ h.next = b := by have := t.own.ram.blt; omega
  have hrn : ¬ h.next = r := by have := t.rf.rlt; omega
  have hvn : sblk v ≠ some h.next := fun e => by have := (t.rf.row.blk _ e).2; omega
  have hlH : h.next < H.next := by rw [hH]; simp
  have hNN := t.own.ram.N1
  have haN := t.own.ram.a1
  have hl1 : L.length ≤ L.length + 100 := by omega
  obtain ⟨c, hcd⟩ : ∃ c, c = ew % 10 := ⟨_, rfl⟩
  have hc10 : c < 10 := by omega
  rcases (by omega : c = 0 ∨ c = 1 ∨ c = 2 ∨ c = 3 ∨ c = 4 ∨ c = 5 ∨ c = 6 ∨ c = 7 ∨ c = 8 ∨ c = 9) with h | h | h | h | h | h | h | h | h | h
  · have hci : (ew : Int) % 10 = 0 := by omega
    simp -dsimp (disch := omega) [← hH, hB, hci]
    refine read_call tH.own.ram o2 (fun hcc => ?_) (fun hcc => ?_)
    · have e : leN M ex en.toNat = leN (look L) ex en.toNat := leN_congr _ _ fun i h1 h2 => g.bytes i (by omega)
      rw [e]
      simp -dsimp (disch := omega) [hB]
      refine rfRead_call tH.rf (by omega) o2 (fun _ => ?_) (fun h => absurd hcc h)
      simp -dsimp (disch := omega) [hB]
      exact RetF.all (by simp) (hK _ _ _ _ _ _ _ _ tH g hw fH vH hl1)
    · simp -dsimp (disch := omega) [hB]
      refine rfRead_call tH.rf (by omega) o2 (fun h => absurd h hcc) (fun _ => ?_)
      simp -dsimp (disch := omega) [hB]
      exact RetF.all (by simp) (hK _ _ _ _ _ _ _ _ tH g hw fH vH hl1)
  · have hci : (ew : Int) % 10 = 1 := by omega
    simp -dsimp (disch := omega) [← hH, hB, hci]
    refine read_call tH.own.ram o2 (fun hcc => ?_) (fun hcc => ?_)
    · have e : leN M ex en.toNat = leN (look L) ex en.toNat := leN_congr _ _ fun i h1 h2 => g.bytes i (by omega)
      rw [e]
      simp -dsimp (disch := omega) [hB]
      refine rfRead_call tH.rf (by omega) o2 (fun _ => ?_) (fun h => absurd hcc h)
      simp -dsimp (disch := omega) [hB]
      exact RetF.all (by simp) (hK _ _ _ _ _ _ _ _ tH g hw fH vH hl1)
    · simp -dsimp (disch := omega) [hB]
      refine rfRead_call tH.rf (by omega) o2 (fun h => absurd h hcc) (fun _ => ?_)
      simp -dsimp (disch := omega) [hB]
      exact RetF.all (by simp) (hK _ _ _ _ _ _ _ _ tH g hw fH vH hl1)
  · have hci : (ew : Int) % 10 = 2 := by omega
    simp -dsimp (disch := omega) [← hH, hB, hci]
    refine own_write tH.own o3 o2 (fun hcc H2 r3 ch => ?_) (fun hcc => ?_)
    · have hB2 := hB
      rw [← ch.same _ hpn hbn] at hB2
      have t3 := tH.real r3 ch
      simp -dsimp (disch := omega) [hB2]
      refine rfWrite_call t3.rf (by omega) o2 o3 (fun _ h4 v4 q4 c4 vc4 => ?_) (fun h => absurd hcc h)
      have t4 := t3.ref q4 c4 vc4
      simp -dsimp (disch := omega) []
      have hn8 : en.toNat ≤ 8 := by have := hcc.1; unfold wok at this; omega
      have hln := setN_length L ex (fun j => ev / 256 ^ j % 256) en.toNat
      refine RetF.all (by simp) (hK _ _ _ _ _ _ _ _ t4 (g.write hw) (by unfold toW; split <;> omega) ((fH.trans (ch.fr r v) fun _ _ h => h).trans (c4.fr p b) fun _ _ h => h) (fun x hx => (vc4 x hx).elim .inl fun e => .inr (by have := ch.next; omega)) (by omega))
    · simp -dsimp (disch := omega) [hB]
      refine rfWrite_call tH.rf (by omega) o2 o3 (fun h => absurd h hcc) (fun _ => ?_)
      simp -dsimp (disch := omega) []
      exact RetF.all (by simp) (hK _ _ _ _ _ _ _ _ tH g hw fH vH hl1)
  · have hci : (ew : Int) % 10 = 3 := by omega
    simp -dsimp (disch := omega) [← hH, hB, hci]
    refine own_write tH.own o3 o2 (fun hcc H2 r3 ch => ?_) (fun hcc => ?_)
    · have hB2 := hB
      rw [← ch.same _ hpn hbn] at hB2
      have t3 := tH.real r3 ch
      simp -dsimp (disch := omega) [hB2]
      refine rfWrite_call t3.rf (by omega) o2 o3 (fun _ h4 v4 q4 c4 vc4 => ?_) (fun h => absurd hcc h)
      have t4 := t3.ref q4 c4 vc4
      simp -dsimp (disch := omega) []
      have hn8 : en.toNat ≤ 8 := by have := hcc.1; unfold wok at this; omega
      have hln := setN_length L ex (fun j => ev / 256 ^ j % 256) en.toNat
      refine RetF.all (by simp) (hK _ _ _ _ _ _ _ _ t4 (g.write hw) (by unfold toW; split <;> omega) ((fH.trans (ch.fr r v) fun _ _ h => h).trans (c4.fr p b) fun _ _ h => h) (fun x hx => (vc4 x hx).elim .inl fun e => .inr (by have := ch.next; omega)) (by omega))
    · simp -dsimp (disch := omega) [hB]
      refine rfWrite_call tH.rf (by omega) o2 o3 (fun h => absurd h hcc) (fun _ => ?_)
      simp -dsimp (disch := omega) []
      exact RetF.all (by simp) (hK _ _ _ _ _ _ _ _ tH g hw fH vH hl1)
  · have hci : (ew : Int) % 10 = 4 := by omega
    obtain ⟨m, hm⟩ : ∃ m, m = es.length := ⟨_, rfl⟩
    have hz : (txt es).size = m := hm.symm
    rw [← hm] at o5
    simp -dsimp (disch := omega) [← hH, hB, hci, hz]
    refine own_put tH.own (by omega) (fun hcc H2 r3 ch => ?_) (fun hcc => ?_)
    · have hB2 := hB
      rw [← ch.same _ hpn hbn] at hB2
      have t3 := tH.real r3 ch
      simp -dsimp (disch := omega) [hB2]
      refine rfPut_call t3.rf (by omega) (by omega) o2 (fun _ h4 v4 q4 c4 vc4 => ?_) (fun h => absurd hcc h)
      have t4 := t3.ref q4 c4 vc4
      simp -dsimp (disch := omega) []
      have hln := setN_length L ex (fun j => ((es[j]?).getD 0).toNat) es.length
      refine RetF.all (by simp) (hK _ _ _ _ _ _ _ _ t4 (g.put hw) (by unfold toW; split <;> omega) ((fH.trans (ch.fr r v) fun _ _ h => h).trans (c4.fr p b) fun _ _ h => h) (fun x hx => (vc4 x hx).elim .inl fun e => .inr (by have := ch.next; omega)) (by omega))
    · simp -dsimp (disch := omega) [hB]
      refine rfPut_call tH.rf (by omega) (by omega) o2 (fun h => absurd h hcc) (fun _ => ?_)
      simp -dsimp (disch := omega) []
      exact RetF.all (by simp) (hK _ _ _ _ _ _ _ _ tH g hw fH vH hl1)
  · have hci : (ew : Int) % 10 = 5 := by omega
    obtain ⟨V, hV⟩ : ∃ V, V = ev % 100 := ⟨_, rfl⟩
    have hVi : (ev : Int) % 100 = V := by omega
    simp -dsimp (disch := omega) [← hH, hB, hci, hVi]
    refine bytes_call tH.own.ram (fun hcc => ?_) (fun hcc => ?_)
    · have e : bytesM M ex V = bytesM (look L) ex V := bytesM_congr fun i h1 h2 => g.bytes i (by omega)
      rw [e]
      simp -dsimp (disch := omega) [hB, hVi]
      refine rfBytes_call tH.rf (by omega) o2 (by omega) (fun _ h4 e4 => ?_) (fun h => absurd hcc h)
      simp -dsimp (disch := omega) []
      exact RetF.all (by simp) (hK _ _ _ _ _ _ _ _ (tH.ext' e4) g hw (fH.trans (Fr.of_ext e4 _) fun _ _ h => h) vH hl1)
    · simp -dsimp (disch := omega) [hB, hVi]
      refine rfBytes_call tH.rf (by omega) o2 (by omega) (fun h => absurd h hcc) (fun _ => ?_)
      simp -dsimp (disch := omega) []
      exact RetF.all (by simp) (hK _ _ _ _ _ _ _ _ tH g hw fH vH hl1)
  · have hci : (ew : Int) % 10 = 6 := by omega
    simp -dsimp (disch := omega) [← hH, hB, hci]
    refine own_reserve tH.own (fun hcc H2 r3 ch => ?_) (fun hcc => ?_)
    · have hB2 := hB
      rw [← ch.same _ hpn hbn] at hB2
      have t3 := tH.real r3 ch
      simp -dsimp (disch := omega) [hB2]
      refine rfReserve_call t3.rf o2 (fun _ h4 q4 c4 => ?_) (fun h => absurd hcc h)
      have t4 := t3.ref q4 c4 (VCh.refl _ _)
      simp -dsimp (disch := omega) []
      refine RetF.all (by simp) (hK _ _ _ _ _ _ _ _ t4 (g.reserve hcc) (by have := hcc.1; omega) ((fH.trans (ch.fr r v) fun _ _ h => h).trans (c4.fr p b) fun _ _ h => h) vH hl1)
    · simp -dsimp (disch := omega) [hB]
      refine rfReserve_call tH.rf o2 (fun h => absurd h hcc) (fun _ => ?_)
      simp -dsimp (disch := omega) []
      exact RetF.all (by simp) (hK _ _ _ _ _ _ _ _ tH g hw fH vH hl1)
  · have hci : (ew : Int) % 10 = 7 := by omega
    simp -dsimp (disch := omega) [← hH, hB, hci]
    refine held_call tH.own.ram ?_
    simp -dsimp (disch := omega) [hB]
    refine rfHeld_call tH.rf ?_
    rw [g.held hw]
    simp -dsimp (disch := omega) [hB]
    exact RetF.all (by simp) (hK _ _ _ _ _ _ _ _ tH g hw fH vH hl1)
  · have hci : (ew : Int) % 10 = 8 := by omega
    rcases (by omega : 4 < en ∨ ¬ 4 < en) with hen | hen
    · simp -dsimp (disch := omega) [← hH, hB, hci, hen]
      refine own_clear tH.own fun H2 r3 ch => ?_
      have t3 := tH.real r3 ch
      simp -dsimp (disch := omega) []
      refine rfClear_call t3.rf fun h4 q4 c4 => ?_
      have t4 := t3.ref q4 c4 (fun x hx => by simp [sblk] at hx)
      simp -dsimp (disch := omega) []
      have e1 : toA a 0 N = 0 := by unfold toA; rw [if_pos (by omega)]
      have e2 : toW a w 0 N = 0 := by unfold toW; rw [if_pos (by omega)]
      rw [e1, e2] at t4
      refine RetF.all (by simp) (hK _ _ _ _ _ _ _ _ t4 ⟨fun i _ => rfl, rfl, fun h => absurd rfl h, fun _ => rfl⟩ (.inl rfl) ((fH.trans (ch.fr r v) fun _ _ h => h).trans (c4.fr p b) fun _ _ h => h) (fun x hx => by simp [sblk] at hx) (by simp))
    · simp -dsimp (disch := omega) [← hH, hB, hci, hen]
      refine own_drop tH.own fun H2 r3 ch => ?_
      have t3 := tH.real r3 ch
      have hb3 := t3.rf.blk
      simp -dsimp (disch := omega) [hb3]
      have c4 := RCh.set H2 r v ⟨rfC N v a' 0, 1, true⟩
      have t4 := t3.ref (t3.rf.upd (a' := a') (w' := 0) t3.rf.a1 (.inl rfl)) c4 (VCh.refl _ _)
      refine RetF.all (by simp) (hK _ _ _ _ _ _ _ _ t4 ⟨g.bytes, rfl, fun h => absurd rfl h, fun _ => rfl⟩ (.inl rfl) ((fH.trans (ch.fr r v) fun _ _ h => h).trans (c4.fr p b) fun _ _ h => h) vH hl1)
  · have hci : (ew : Int) % 10 = 9 := by omega
    rcases (by omega : 4 < en ∨ ¬ 4 < en) with hen | hen
    · simp -dsimp (disch := omega) [← hH, hB, hci, hen]
      refine own_clear tH.own fun H2 r3 ch => ?_
      have t3 := tH.real r3 ch
      simp -dsimp (disch := omega) []
      refine rfClear_call t3.rf fun h4 q4 c4 => ?_
      have t4 := t3.ref q4 c4 (fun x hx => by simp [sblk] at hx)
      simp -dsimp (disch := omega) []
      have e1 : toA a 0 N = 0 := by unfold toA; rw [if_pos (by omega)]
      have e2 : toW a w 0 N = 0 := by unfold toW; rw [if_pos (by omega)]
      rw [e1, e2] at t4
      refine RetF.all (by simp) (hK _ _ _ _ _ _ _ _ t4 ⟨fun i _ => rfl, rfl, fun h => absurd rfl h, fun _ => rfl⟩ (.inl rfl) ((fH.trans (ch.fr r v) fun _ _ h => h).trans (c4.fr p b) fun _ _ h => h) (fun x hx => by simp [sblk] at hx) (by simp))
    · simp -dsimp (disch := omega) [← hH, hB, hci, hen]
      refine own_drop tH.own fun H2 r3 ch => ?_
      have t3 := tH.real r3 ch
      have hb3 := t3.rf.blk
      simp -dsimp (disch := omega) [hb3]
      have c4 := RCh.set H2 r v ⟨rfC N v a' 0, 1, true⟩
      have t4 := t3.ref (t3.rf.upd (a' := a') (w' := 0) t3.rf.a1 (.inl rfl)) c4 (VCh.refl _ _)
      refine RetF.all (by simp) (hK _ _ _ _ _ _ _ _ t4 ⟨g.bytes, rfl, fun h => absurd rfl h, fun _ => rfl⟩ (.inl rfl) ((fH.trans (ch.fr r v) fun _ _ h => h).trans (c4.fr p b) fun _ _ h => h) vH hl1)
end
end Go.Proofs.Ytgafaelakjnemaa
