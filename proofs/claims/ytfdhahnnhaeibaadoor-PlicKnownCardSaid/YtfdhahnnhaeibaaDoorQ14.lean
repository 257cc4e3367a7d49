/-
  PLICs that are none; calls in one form; PlicKnown's states.
-/
import Derived.Test.YtfdhahnnhaeibaaDoorQ13
set_option linter.unusedSimpArgs false
set_option linter.unusedVariables false
set_option linter.unusedSectionVars false
namespace Go.Proofs.YtfdhahnnhaeibaaDoor
open Go Go.Mini Go.Proofs.Tryd
set_option maxRecDepth 100000

def zC : Array Value := #[.bool false, .int .u8 0, .bool false, .bool false, .bool false, .int .u8 0, .bool false, .bool false, .bool false, .int .u8 0, .bool false, .bool false, .bool false, .int .u8 0, .bool false, .bool false, .bool false, .int .u8 0, .bool false, .bool false, .bool false, .int .u8 0, .bool false, .bool false, .bool false, .int .u8 0, .bool false, .bool false, .bool false, .int .u8 0, .bool false, .bool false, .bool false, .int .u8 0, .int .u8 0, .int .u8 0, .int .u8 0]
def NoP (h : Hp) (v : Value) : Prop := v = .pointer none ∨ ∃ p, v = ptr p ∧ h.blks p = some ⟨zC, 1, true⟩
section
variable {h : Hp} {K : Value → Hp → Prop} {p : Nat} {s : St} {v : Value}
theorem is_no (hn : NoP h v) (hK : K (.bool false) h) : ACall prog 22 [v] h K := by
  refine acallF_of tb0 func22 rfl rfl mixed (by kernel_rfl) fun hwf => ?_
  have z0 : zC[0]? = some (.bool false) := rfl
  rcases hn with rfl | ⟨p, rfl, hb⟩
  · simp -dsimp (disch := omega)
    exact RetF.same hwf (by simp) (Nat.zero_le _) (fun _ _ => rfl) hK
  · simp -dsimp (disch := omega) [hb, z0]
    exact RetF.same hwf (by simp) (Nat.zero_le _) (fun _ _ => rfl) hK
theorem may_no {off : Nat} {w : Int} (hn : NoP h v) (hK : K (.bool false) h) : ACall prog 33 [v, .int .u64 off, .int .i64 w] h K := by
  refine acallF_of tb0 func33 rfl rfl mixed (by kernel_rfl) fun hwf => ?_
  simp -dsimp (disch := omega)
  refine is_no hn ?_
  simp -dsimp (disch := omega)
  exact RetF.same hwf (by simp) (Nat.zero_le _) (fun _ _ => rfl) hK
theorem raise_no {n : Int} {x : Bool} (hn : NoP h v) (hK : K (.int .i64 1) h) : ACall prog 10 [v, .int .i64 n, .bool x] h K := by
  refine acallF_of tb0 func10 rfl rfl mixed (by kernel_rfl) fun hwf => ?_
  simp -dsimp (disch := omega)
  refine is_no hn ?_
  simp -dsimp (disch := omega)
  exact RetF.same hwf (by simp) (Nat.zero_le _) (fun _ _ => rfl) hK
theorem read_no {off : Nat} {w : Int} (hn : NoP h v) (hK : K (.tuple #[.int .u64 0, .bool false]) h) : ACall prog 16 [v, .int .u64 off, .int .i64 w] h K := by
  refine acallF_of tb0 func16 rfl rfl mixed (by kernel_rfl) fun hwf => ?_
  simp -dsimp (disch := omega)
  refine may_no hn ?_
  simp -dsimp (disch := omega)
  exact RetF.same hwf (by simp) (Nat.zero_le _) (fun _ _ => rfl) hK
theorem write_no {off : Nat} {x w : Int} (hn : NoP h v) (hK : K (.bool false) h) : ACall prog 17 [v, .int .u64 off, .int .u64 x, .int .i64 w] h K := by
  refine acallF_of tb0 func17 rfl rfl mixed (by kernel_rfl) fun hwf => ?_
  simp -dsimp (disch := omega)
  refine may_no hn ?_
  simp -dsimp (disch := omega)
  exact RetF.same hwf (by simp) (Nat.zero_le _) (fun _ _ => rfl) hK
theorem callsN_no {c : Int} (hn : NoP h v) (hK : K (.bool false) h) : ACall prog 12 [v, .int .i64 c] h K := by
  refine acallF_of tb0 func12 rfl rfl mixed (by kernel_rfl) fun hwf => ?_
  simp -dsimp (disch := omega)
  refine is_no hn ?_
  simp -dsimp (disch := omega)
  exact RetF.same hwf (by simp) (Nat.zero_le _) (fun _ _ => rfl) hK
theorem copy_no (hn : NoP h v) (hK : K (.pointer none) h) : ACall prog 9 [v] h K := by
  refine acallF_of tb0 func9 rfl rfl mixed (by kernel_rfl) fun hwf => ?_
  simp -dsimp (disch := omega)
  refine is_no hn ?_
  simp -dsimp (disch := omega)
  exact RetF.same hwf (by simp) (Nat.zero_le _) (fun _ _ => rfl) hK
theorem text_no (hn : NoP h v) (hK : K (.string (txt [])) h) : ACall prog 14 [v] h K := by
  refine acallF_of tb0 func14 rfl rfl mixed (by kernel_rfl) fun hwf => ?_
  simp -dsimp (disch := omega)
  refine is_no hn ?_
  simp -dsimp (disch := omega)
  exact RetF.same hwf (by simp) (Nat.zero_le _) (fun _ _ => rfl) hK
theorem same_no2 {w : Value} (hn : NoP h v) (hn2 : NoP h w) (hK : K (.bool true) h) : ACall prog 19 [v, w] h K := by
  refine acallF_of tb0 func19 rfl rfl mixed (by kernel_rfl) fun hwf => ?_
  simp -dsimp (disch := omega)
  refine is_no hn ?_
  simp -dsimp (disch := omega)
  refine is_no hn ?_
  simp -dsimp (disch := omega)
  refine is_no hn2 ?_
  simp -dsimp (disch := omega)
  exact RetF.same hwf (by simp) (Nat.zero_le _) (fun _ _ => rfl) hK
theorem same_no1 (hn : NoP h v) (hb : h.blks p = some ⟨stC s, 1, true⟩) (hK : K (.bool false) h) : ACall prog 19 [v, ptr p] h K := by
  refine acallF_of tb0 func19 rfl rfl mixed (by kernel_rfl) fun hwf => ?_
  simp -dsimp (disch := omega)
  refine is_no hn ?_
  simp -dsimp (disch := omega)
  refine is_no hn ?_
  simp -dsimp (disch := omega)
  refine is_call hb ?_
  simp -dsimp (disch := omega)
  exact RetF.same hwf (by simp) (Nat.zero_le _) (fun _ _ => rfl) hK
variable {s' : St}
theorem reads_u {off want : Nat} (hb : h.blks p = some ⟨stC s, 1, true⟩) (hs : s.ok) (hp : p < h.next) (ho : off < 18446744073709551616) (hm : mayN off 4 = true) (hw : (readS s off).1 = want) (he : (readS s off).2 = s')
    (hK : ∀ h', (∀ i, i < h.next → i ≠ p → h'.blks i = h.blks i) → h.next ≤ h'.next → h'.blks p = some ⟨stC s', 1, true⟩ → K (.bool true) h') : ACall prog 21 [ptr p, .int .u64 off, .int .u64 want] h K :=
  reads_call hb hs hp ho hm hw fun h' a b c => hK h' a b (by rw [← he]; exact c)
theorem write_u {off x : Nat} (hb : h.blks p = some ⟨stC s, 1, true⟩) (hs : s.ok) (hp : p < h.next) (ho : off < 18446744073709551616) (hx : x < 18446744073709551616) (hm : mayN off 4 = true) (he : writeS s off x = s')
    (hK : ∀ h', (∀ i, i < h.next → i ≠ p → h'.blks i = h.blks i) → h.next ≤ h'.next → h'.blks p = some ⟨stC s', 1, true⟩ → K (.bool true) h') : ACall prog 17 [ptr p, .int .u64 off, .int .u64 x, .int .i64 4] h K :=
  write_call hb hs hp ho hx (fun e => by rw [hm] at e; cases e) fun _ h' a b c => hK h' a b (by rw [← he]; exact c)
theorem raise_u {n : Nat} {x : Bool} (hb : h.blks p = some ⟨stC s, 1, true⟩) (h1 : 1 ≤ n) (h8 : n < 8) (he : raiseS s n x = s')
    (hK : ∀ h', (∀ i, i < h.next → i ≠ p → h'.blks i = h.blks i) → h.next ≤ h'.next → h'.blks p = some ⟨stC s', 1, true⟩ → K (.int .i64 0) h') : ACall prog 10 [ptr p, .int .i64 n, .bool x] h K :=
  raise_call hb (fun hn => absurd hn (by omega)) fun m hm _ _ => by
    obtain rfl : n = m := by omega
    rw [he]
    exact hK _ (fun i _ hi => blks_set_ne _ _ _ _ hi) (Nat.le_refl _) (blks_set_eq _ _ _)
theorem raise_bad {n : Int} {x : Bool} (hb : h.blks p = some ⟨stC s, 1, true⟩) (h1 : n < 1 ∨ 8 ≤ n) (hK : K (.int .i64 2) h) : ACall prog 10 [ptr p, .int .i64 n, .bool x] h K :=
  raise_call hb (fun _ => hK) fun m hm _ _ => absurd h1 (by omega)
theorem read_bad {off : Nat} {w : Int} (hb : h.blks p = some ⟨stC s, 1, true⟩) (hs : s.ok) (hp : p < h.next) (ho : off < 18446744073709551616) (hm : mayN off w = false) (hK : K (.tuple #[.int .u64 0, .bool false]) h) : ACall prog 16 [ptr p, .int .u64 off, .int .i64 w] h K :=
  read_call hb hs hp ho (fun _ => hK) fun e => by rw [hm] at e; cases e
theorem write_bad {off x : Nat} {w : Int} (hb : h.blks p = some ⟨stC s, 1, true⟩) (hs : s.ok) (hp : p < h.next) (ho : off < 18446744073709551616) (hx : x < 18446744073709551616) (hm : mayN off w = false) (hK : K (.bool false) h) : ACall prog 17 [ptr p, .int .u64 off, .int .u64 x, .int .i64 w] h K :=
  write_call hb hs hp ho hx (fun _ => hK) fun e => by rw [hm] at e; cases e
end
theorem gS_inv : Inv2 gS := (((Inv2.st0.raise (by omega) _).read _).write _ (by omega)).write _ (by omega)
def A1 : St := writeS gS 2097152 13
theorem A1_ok : A1.ok := gS_ok.write _ _
theorem A1_inv : Inv2 A1 := gS_inv.write _ (by omega)
def A2 : St := (readS A1 2097152).2
theorem A2_ok : A2.ok := A1_ok.read _
theorem A2_inv : Inv2 A2 := A1_inv.read _
def A3 : St := (readS A2 2097156).2
theorem A3_ok : A3.ok := A2_ok.read _
theorem A3_inv : Inv2 A3 := A2_inv.read _
def A4 : St := raiseS A3 3 false
theorem A4_ok : A4.ok := A3_ok.raise _ _
theorem A4_inv : Inv2 A4 := A3_inv.raise (by omega) _
def A5 : St := raiseS A4 3 true
theorem A5_ok : A5.ok := A4_ok.raise _ _
theorem A5_inv : Inv2 A5 := A4_inv.raise (by omega) _
def A6 : St := (readS A5 4096).2
theorem A6_ok : A6.ok := A5_ok.read _
theorem A6_inv : Inv2 A6 := A5_inv.read _
def A7 : St := writeS A6 2101252 3
theorem A7_ok : A7.ok := A6_ok.write _ _
theorem A7_inv : Inv2 A7 := A6_inv.write _ (by omega)
def A8 : St := (readS A7 4096).2
theorem A8_ok : A8.ok := A7_ok.read _
theorem A8_inv : Inv2 A8 := A7_inv.read _
def A9 : St := writeS A8 2097156 4294967299
theorem A9_ok : A9.ok := A8_ok.write _ _
theorem A9_inv : Inv2 A9 := A8_inv.write _ (by omega)
def A10 : St := (readS A9 4096).2
theorem A10_ok : A10.ok := A9_ok.read _
theorem A10_inv : Inv2 A10 := A9_inv.read _
def B11 : St := raiseS A10 7 true
theorem B11_ok : B11.ok := A10_ok.raise _ _
theorem B11_inv : Inv2 B11 := A10_inv.raise (by omega) _
def B12 : St := raiseS B11 2 true
theorem B12_ok : B12.ok := B11_ok.raise _ _
theorem B12_inv : Inv2 B12 := B11_inv.raise (by omega) _
def A13 : St := (readS A10 12288).2
theorem A13_ok : A13.ok := A10_ok.read _
theorem A13_inv : Inv2 A13 := A10_inv.read _
def A14 : St := (readS A13 0).2
theorem A14_ok : A14.ok := A13_ok.read _
theorem A14_inv : Inv2 A14 := A13_inv.read _
def A15 : St := writeS A14 4096 255
theorem A15_ok : A15.ok := A14_ok.write _ _
theorem A15_inv : Inv2 A15 := A14_inv.write _ (by omega)
def A16 : St := (readS A15 4096).2
theorem A16_ok : A16.ok := A15_ok.read _
theorem A16_inv : Inv2 A16 := A15_inv.read _
def B17 : St := (readS B12 4096).2
theorem B17_ok : B17.ok := B12_ok.read _
theorem B17_inv : Inv2 B17 := B12_inv.read _
def B18 : St := writeS B17 8320 255
theorem B18_ok : B18.ok := B17_ok.write _ _
theorem B18_inv : Inv2 B18 := B17_inv.write _ (by omega)
def B19 : St := (readS B18 8320).2
theorem B19_ok : B19.ok := B18_ok.read _
theorem B19_inv : Inv2 B19 := B18_inv.read _
def B20 : St := writeS B19 8 7
theorem B20_ok : B20.ok := B19_ok.write _ _
theorem B20_inv : Inv2 B20 := B19_inv.write _ (by omega)
def B21 : St := writeS B20 28 15
theorem B21_ok : B21.ok := B20_ok.write _ _
theorem B21_inv : Inv2 B21 := B20_inv.write _ (by omega)
def B22 : St := (readS B21 28).2
theorem B22_ok : B22.ok := B21_ok.read _
theorem B22_inv : Inv2 B22 := B21_inv.read _
def B23 : St := (readS B22 2101252).2
theorem B23_ok : B23.ok := B22_ok.read _
theorem B23_inv : Inv2 B23 := B22_inv.read _
def B24 : St := (readS B23 2101252).2
theorem B24_ok : B24.ok := B23_ok.read _
theorem B24_inv : Inv2 B24 := B23_inv.read _
def B25 : St := (readS B24 2101252).2
theorem B25_ok : B25.ok := B24_ok.read _
theorem B25_inv : Inv2 B25 := B24_inv.read _
def B26 : St := (readS B25 2101252).2
theorem B26_ok : B26.ok := B25_ok.read _
theorem B26_inv : Inv2 B26 := B25_inv.read _
end Go.Proofs.YtfdhahnnhaeibaaDoor
