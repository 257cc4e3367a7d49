/-
  A block device's text: numbers as texts by strconv.FormatUint. A block device's text. A device with its memory, and the document's: are they alike? Copies.
-/
import Derived.Test.YtkbiadobkheafaaDoorXB
import Derived.Test.YtkbiadobkheafaaDoorM31
import Derived.Lib.ItoaLen
import Derived.Test.YtkbiadobkheafaaDoorShelf
import Derived.Test.YtkbiadobkheafaaDoorM28
import Derived.Test.YtkbiadobkheafaaDoorM27
import Derived.Test.YtkbiadobkheafaaDoorGC
set_option linter.unusedSimpArgs false
set_option linter.unusedVariables false
set_option linter.unusedSectionVars false

namespace Go.Proofs.YtkbiadobkheafaaDoor
open Go Go.Mini Go.Proofs.Tryd
set_option maxRecDepth 100000

theorem dec_digL : ∀ n, Lib.decDigits n = digL n := by
  intro n
  induction n using Nat.strongRecOn with
  | _ n ih =>
    rcases Nat.lt_or_ge n 10 with h | h
    · rw [Lib.decDigits, dif_pos h, digL_small h]
    · rw [Lib.decDigits, dif_neg (by omega), digL_big (by omega), ih (n / 10) (by omega)]
theorem gPow : prog.globalNamed "internal/strconv.uint64pow10" = some 0 := by kernel_rfl
def powC : Array Value := (Lib.pow10Tab.map fun z => Value.int .u64 z).toArray
def PowAt (h : Hp) : Prop := h.blks 100 = some ⟨powC, 0, false⟩
section
variable {h : Hp} {K : Value → Hp → Prop}
theorem small_call {i : Nat} (hi : i < 100) (hK : K (.string (txt (digL i))) h) : ACall prog 63 [.int .i64 i] h K := by
  rw [← dec_digL] at hK
  refine ACall.of_calls (r := .string (txt (Lib.decDigits i))) ⟨_, _, func63, rfl, rfl⟩ (by simp [vtop]) rfl (fun w => ?_) hK
  exact (Go.Proofs.Tryd.internal_strconv_small i hi w).mono fun e w' ⟨he, hw⟩ => ⟨he, hw ▸ RowKit.Below.refl _ _⟩
theorem nd_call {u : Nat} (h1 : 1 ≤ u) (h2 : u < 18446744073709551616) (ht : PowAt h) (hK : K (.int .i64 (Lib.nDigits u)) h) : ACall prog 64 [.int .u64 u] h K := by
  refine ACall.of_table (r := .int .i64 (Lib.nDigits u)) (g := 0) (c := powC) (name := "internal/strconv.uint64pow10") ⟨_, _, func64, rfl, rfl⟩ (by simp [vtop]) rfl (by decide) ht (fun v hv ρ => ?_) gPow (fun w hw => ?_) hK
  · simp only [powC, List.mem_toArray, List.mem_map] at hv
    obtain ⟨z, _, rfl⟩ := hv
    rfl
  · exact (Go.Proofs.Tryd.internal_strconv_numDigits u h1 h2 w hw).mono fun e w' ⟨he, hb⟩ => ⟨he, 0, #[], by rw [hb]; simp [Sort.grow, World.drewN_zero]⟩
theorem fmt_call {i cap u : Nat} {cells : Array Value} (hb : h.blks i = some ⟨cells, 1, true⟩) (hoff : Lib.nDigits u ≤ cells.size) (hz : ∀ j, j < Lib.nDigits u → cells[j]? = some (.int .u8 0)) (hu : u < 18446744073709551616) (hnd : Lib.nDigits u ≤ 20)
    (hK : K (.tuple #[]) (h.set i ⟨putL cells 0 ((digL u).map byteV), 1, true⟩)) : ACall prog 65 [.slice (some ⟨i, 0, none⟩) (Lib.nDigits u) cap, .int .u64 u] h K := by
  rw [← dec_digL] at hK
  exact ACall.of_fmt ⟨_, _, func65, rfl, rfl⟩ (fun blk off cap u d w hH hu hu64 hsz => Go.Proofs.Tryd.internal_strconv_formatBase10 blk off cap u d w hH hu hu64 hsz) hb (by omega) (by simpa using hz) hu hnd hK
theorem fmt_as {i cap u nd : Nat} {cells : Array Value} (hnd : nd = Lib.nDigits u) (hb : h.blks i = some ⟨cells, 1, true⟩) (hoff : nd ≤ cells.size) (hz : ∀ j, j < nd → cells[j]? = some (.int .u8 0)) (hu : u < 18446744073709551616) (hn : nd ≤ 20)
    (hK : K (.tuple #[]) (h.set i ⟨putL cells 0 ((digL u).map byteV), 1, true⟩)) : ACall prog 65 [.slice (some ⟨i, 0, none⟩) nd cap, .int .u64 u] h K := by
  subst hnd
  exact fmt_call hb hoff hz hu hn hK
theorem ifmt_call {u : Nat} (hu : u < 18446744073709551616) (ht : PowAt h) (hlt : 100 < h.next) (hK : ∀ h', Ext h h' → K (.string (txt (digL u))) h') : ACall prog 49 [.int .u64 u, .int .i64 10] h K := by
  refine acallF_of tb0 func49 rfl rfl mixed (by kernel_rfl) fun hwf => ?_
  by_cases c : u < 100
  · have c' : (u : Int) < 100 := by omega
    simp -dsimp (disch := omega) [c, c']
    refine small_call c ?_
    simp -dsimp (disch := omega)
    exact RetF.all (r := .string (txt (digL u))) (by simp) (hK _ (Ext.refl _))
  · have c' : ¬ (u : Int) < 100 := by omega
    have hn20 := Lib.nDigits_le20 u hu
    have hdl : (digL u).length = Lib.nDigits u := by rw [← dec_digL, Lib.decDigits_length]
    simp -dsimp (disch := omega) [c, c']
    refine nd_call (by omega) hu (by unfold PowAt; rw [blks_alloc_ne _ _ _ (by omega)]; exact ht) ?_
    obtain ⟨nd, hnd⟩ : ∃ nd, nd = Lib.nDigits u := ⟨_, rfl⟩
    rw [← hnd] at hn20 hdl ⊢
    simp -dsimp (disch := omega)
    have sl : ∀ b, asliceRow ⟨b, 0, none⟩ 1 24 48 none (some (.int .i64 nd)) none = some (.slice (some ⟨b, 0, none⟩) nd 48) := fun b => by
      unfold asliceRow
      have e1 : bndD (some (Value.int .i64 nd)) (48 / 2) 24 = some nd := by simp [bndD, bnd]; omega
      have e2 : bndD none nd 0 = some 0 := by simp [bndD]
      simp only [e1, e2]
      rw [if_neg (by omega)]
      simp
    obtain ⟨z, hz⟩ : ∃ z, z = repV 24 (Value.int IntKind.u8 0) := ⟨_, rfl⟩
    have zs : z.size = 24 := by rw [hz]; simp [repV]
    have zz : ∀ j, j < nd → z[j]? = some (.int .u8 0) := fun j hj => by rw [hz]; unfold repV; rw [List.getElem?_toArray, List.getElem?_replicate, if_pos (by omega)]
    obtain ⟨c', hc'⟩ : ∃ c', c' = putL z 0 ((digL u).map byteV) := ⟨_, rfl⟩
    have cs' : c'.size = 24 := by rw [hc']; simp [zs]
    have ce : c'.extract 0 nd = ((digL u).map byteV).toArray := by
      apply Array.ext_getElem?
      intro j
      rw [Array.getElem?_extract, hc', getElem?_putL]
      rcases Nat.lt_or_ge j nd with hj | hj
      · rw [if_pos (by simp [zs]; omega), if_pos ⟨by omega, by simp [hdl]; omega, by omega⟩]; simp
      · rw [if_neg (by simp [zs]; omega), Array.getElem?_eq_none (by simp [hdl]; omega)]
    rw [← hz]
    clear hz
    simp -dsimp (disch := omega) [sl]
    refine fmt_as hnd (blks_alloc_eq _ _) (by omega) zz hu hn20 ?_
    rw [← hc']
    simp -dsimp (disch := omega) [sl, cs', ce]
    exact RetF.all (r := .string (txt (digL u))) (by simp) (hK _ (Ext.alloc _ _))
theorem formatUint_call {u : Nat} (hu : u < 18446744073709551616) (ht : PowAt h) (hlt : 100 < h.next) (hK : ∀ h', Ext h h' → K (.string (txt (digL u))) h') : ACall prog 32 [.int .u64 u, .int .i64 10] h K := by
  refine acallF_of tb0 func32 rfl rfl mixed (by kernel_rfl) fun hwf => ?_
  simp -dsimp (disch := omega)
  refine ifmt_call hu ht hlt fun h1 e1 => ?_
  simp -dsimp (disch := omega)
  exact RetF.all (r := .string (txt (digL u))) (by simp) (hK _ e1)
end
end Go.Proofs.YtkbiadobkheafaaDoor
namespace Go.Proofs.YtkbiadobkheafaaDoor
open Go Go.Mini Go.Proofs.Tryd
set_option maxRecDepth 100000

def numsD (d : Dev) : List Nat := [d.rs, d.ra, d.rc, d.st, d.lf, d.dl]
def textD (d : Dev) : List UInt8 := digL d.rs ++ [32] ++ digL d.ra ++ [32] ++ digL d.rc ++ [32] ++ digL d.st ++ [32] ++ digL d.lf ++ [32] ++ digL d.dl
theorem join_nums (d : Dev) : Lib.join ((numsD d).map digL) [32] = textD d := by
  unfold numsD textD
  simp only [List.map_cons, List.map_nil, Lib.join_cons, Lib.joinTail, List.flatten_cons, List.flatten_nil, List.append_nil, List.append_assoc]
theorem shown_st (d : Dev) : (shownD d).st = d.st ∧ (shownD d).rs = d.rs ∧ (shownD d).rc = d.rc ∧ (shownD d).ra = d.ra ∧ (shownD d).dl = d.dl ∧ (shownD d).S = d.S := by unfold shownD; split <;> exact ⟨rfl, rfl, rfl, rfl, rfl, rfl⟩
theorem shown_ok {d : Dev} (h : d.ok) : (shownD d).rs < 4294967296 ∧ (shownD d).ra < 18446744073709551616 ∧ (shownD d).rc < 4294967296 ∧ (shownD d).st < 4 ∧ (shownD d).lf < 4294967296 ∧ (shownD d).dl < 4294967296 := by
  unfold shownD
  split
  · exact ⟨h.rs, h.ra, h.rc, h.st, h.lf, h.dl⟩
  · exact ⟨h.rs, h.ra, h.rc, h.st, by show 0 < 4294967296; omega, h.dl⟩
theorem left_rel {d : Dev} {r : Rd} {M : Nat → Nat} {L : Rm.By} (e : Rel d r M L) : leftR r = (shownD d).lf := by
  unfold leftR shownD
  rw [← e.st]
  by_cases h : d.st = 1
  · rw [if_pos h, if_pos h, (e.run h).2.2.2]; split <;> omega
  · rw [if_neg h, if_neg h]
theorem text_rel {d : Dev} {r : Rd} {M : Nat → Nat} {L : Rm.By} (e : Rel d r M L) : textD (shownD d) = textR r := by
  obtain ⟨a1, a2, a3, a4, a5, _⟩ := shown_st d
  unfold textD textR
  rw [a1, a2, a3, a4, a5, left_rel e, e.rs, e.ra, e.rc, e.st, e.dl]
section
variable {h : Hp} {K : Value → Hp → Prop} {p : Nat} {d : Dev}
theorem join_call {m : Nat} {xs : List (List UInt8)} {sep : List UInt8} {v : Value} (hr : Row m h 1 xs.length (xs.map fun l => .string (txt l)) v) (hne : xs ≠ []) (hl : xs.length ≤ 140737488355328) (hlen : (Lib.join xs sep).length ≤ 140737488355328) (hK : K (.string (txt (Lib.join xs sep))) h) : ACall prog 33 [v, .string (txt sep)] h K :=
  join_of ⟨_, _, func33, rfl, rfl⟩ (fun bk o c ys s w h1 h2 h3 h4 h5 => Go.Proofs.Tryd.strings_Join bk o c ys s w h1 h2 h3 h4 h5) hr hne hl hlen hK
theorem text_call (hb : h.blks p = some ⟨devC d, 1, true⟩) (hd : d.ok) (hp : p < h.next) (ht : PowAt h) (hlt : 100 < h.next) (hK : ∀ h', Ext h h' → K (.string (txt (textD (shownD d)))) h') : ACall prog 11 [ptr p] h K := by
  refine acallF_of tb0 func11 rfl rfl mixed (by kernel_rfl) fun hwf => ?_
  simp -dsimp (disch := omega)
  refine is_call hb ?_
  simp -dsimp (disch := omega)
  obtain ⟨A, hA⟩ : ∃ A, A = stC (shownD d) := ⟨_, rfl⟩
  refine shown_as hA hb hd hp fun h1 e1 => ?_
  obtain ⟨k1, k2, k3, k4, k5, k6⟩ := shown_ok hd
  have As : A.size = 2057 := by rw [hA]; exact stC_size _
  have Ao : oneAll A.toList = true := by rw [hA]; exact stC_one _
  have Ap : putL (zL).toArray 0 A.toList = A := putL_full (by rw [As]; simp [zL_len])
  have c0 : A[0]? = some (.int .u32 (shownD d).rs) := by rw [hA]; exact stC_at _ (i := 0) (by omega)
  have c1 : A[1]? = some (.int .u32 (shownD d).rc) := by rw [hA]; exact stC_at _ (i := 1) (by omega)
  have c2 : A[2]? = some (.int .u64 (shownD d).ra) := by rw [hA]; exact stC_at _ (i := 2) (by omega)
  have c6 : A[6]? = some (.int .u8 (shownD d).st) := by rw [hA]; exact stC_at _ (i := 6) (by omega)
  have c7 : A[7]? = some (.int .u32 (shownD d).lf) := by rw [hA]; exact stC_at _ (i := 7) (by omega)
  have c8 : A[8]? = some (.int .u32 (shownD d).dl) := by rw [hA]; exact stC_at _ (i := 8) (by omega)
  obtain ⟨D, hD⟩ : ∃ D, D = shownD d := ⟨_, rfl⟩
  rw [← hD] at k1 k2 k3 k4 k5 k6 c0 c1 c2 c6 c7 c8 hK
  clear hA
  simp -dsimp (disch := omega) [zL_len, As, Ao, Ap, c0, c1, c2, c6, c7, c8, -getElem?_pos]
  refine awpF_gen fun T0 G hT hG => ?_
  have eG : Ext h1 G := by rw [hG]; exact (Ext.alloc _ _).then_alloc _
  obtain ⟨U, hU⟩ : ∃ U : Array Value, U = #[.int .u64 D.rs, .int .u64 D.ra, .int .u64 D.rc, .int .u64 D.st, .int .u64 D.lf, .int .u64 D.dl] := ⟨_, rfl⟩
  have bU : G.blks (h1.next + 1) = some ⟨U, 1, true⟩ := by rw [hG, hU]; simp (disch := omega)
  have nG : G.next = h1.next + 2 := by rw [hG]; simp
  have t4 : T0 4 = .slice none 0 0 := by rw [hT]; rfl
  have t32 : T0 32 = .slice (some ⟨h1.next + 1, 0, none⟩) 6 12 := by rw [hT]; rfl
  have t33 : T0 33 = .int .i64 6 := by rw [hT]; rfl
  have t34 : T0 34 = .int .i64 0 := by rw [hT]; rfl
  clear hT hG
  have Us : U.size = 6 := by rw [hU]; rfl
  have Uk : ∀ k, k < 6 → ∃ n, (numsD D)[k]? = some n ∧ U[k]? = some (.int .u64 n) ∧ n < 18446744073709551616 := fun k hk => by
    rw [hU]
    rcases (by omega : k = 0 ∨ k = 1 ∨ k = 2 ∨ k = 3 ∨ k = 4 ∨ k = 5) with rfl | rfl | rfl | rfl | rfl | rfl
    · exact ⟨_, rfl, rfl, by omega⟩
    · exact ⟨_, rfl, rfl, by omega⟩
    · exact ⟨_, rfl, rfl, by omega⟩
    · exact ⟨_, rfl, rfl, by omega⟩
    · exact ⟨_, rfl, rfl, by omega⟩
    · exact ⟨_, rfl, rfl, by omega⟩
  have hn0 : h.next ≤ h1.next := e1.le
  refine awp_loop (fun t h' => ∃ k : Nat, k ≤ 6 ∧ Ext G h' ∧ Row G.next h' 1 ((numsD D).take k).length (((numsD D).take k).map fun n => .string (txt (digL n))) (t 4) ∧ t 32 = .slice (some ⟨h1.next + 1, 0, none⟩) 6 12 ∧ t 33 = .int .i64 6 ∧ t 34 = .int .i64 k) (fun t _ => 6 - ivN (t 34)) ?_ ?_
  · exact ⟨0, by omega, Ext.refl _, by rw [t4]; exact Row.nil _ _ _, t32, t33, t34⟩
  · clear t4 t32 t33 t34
    rintro t h' ⟨k, hk, e2, hr, g32, g33, g34⟩
    refine vcF_sound mixed (tb := tb0) _ (by kernel_rfl) ?_
    have le2 := e2.le
    have bU' := (e2.same (h1.next + 1) (by omega)).trans bU
    rcases Nat.lt_or_ge k 6 with c | c
    · have c' : (k : Int) < 6 := by omega
      obtain ⟨n, n1, n2, n3⟩ := Uk k c
      simp -dsimp (disch := omega) [g32, g33, g34, c, c', bU', Us, n2, -getElem?_pos]
      have eh : Ext h h' := (e1.trans eG).trans e2
      refine formatUint_call n3 (by unfold PowAt; rw [eh.same _ hlt]; exact ht) (by omega) fun h3 e3 => ?_
      have le3 := e3.le
      simp -dsimp (disch := omega)
      have hr3 := hr.mono e3.le fun b hb => e3.same _ (hr.blk b hb).2
      have hln : ((numsD D).take k).length = k := by simp [numsD]; omega
      refine app_row (hr3.alloc _) (by simp; omega) (src_slice _ _ _ _ _ #[.string (txt (digL n))] (by simp)) (by omega) (by simp) (by unfold ROOM; omega) ?_
      intro v' h4 r4 n4 b4 s4
      simp only [Hp.next_alloc] at n4 b4
      simp -dsimp (disch := omega) [g32, g33, g34]
      refine ⟨⟨k + 1, by omega, ⟨by omega, fun i hi => ?_⟩, ?_, by simp⟩, by simp [ivN]; omega⟩
      · rw [s4 i (by simp; omega) fun e => by have := (hr.blk i e).1; omega, blks_alloc_ne _ _ _ (by omega), e3.same i (by omega)]
        exact e2.same i hi
      · have e5 : ((numsD D).take (k + 1)).map (fun n => Value.string (txt (digL n))) = ((numsD D).take k).map (fun n => Value.string (txt (digL n))) ++ [Value.string (txt (digL n))] := by rw [List.take_add_one, n1]; simp
        have e6 : ((numsD D).take (k + 1)).length = ((numsD D).take k).length + 1 := by rw [List.take_add_one, n1]; simp
        have r5 : Row G.next h4 1 ((numsD D).take (k + 1)).length (((numsD D).take (k + 1)).map (fun n => Value.string (txt (digL n)))) v' := by rw [e5, e6]; exact r4
        simpa using r5
    · have hk6 : k = 6 := by omega
      subst hk6
      simp -dsimp (disch := omega) [g32, g33, g34]
      have hall : (numsD D).take 6 = numsD D := rfl
      rw [hall] at hr
      have hj := join_nums D
      have hlen : (textD D).length ≤ 140737488355328 := by
        have y0 := digL_20 (n := D.rs) (by omega)
        have y1 := digL_20 (n := D.ra) (by omega)
        have y2 := digL_20 (n := D.rc) (by omega)
        have y3 := digL_20 (n := D.st) (by omega)
        have y4 := digL_20 (n := D.lf) (by omega)
        have y5 := digL_20 (n := D.dl) (by omega)
        unfold textD
        simp only [List.length_append, List.length_cons, List.length_nil]
        omega
      refine join_call (m := G.next) (xs := (numsD D).map digL) (sep := [32]) ?_ (by simp [numsD]) (by simp [numsD]) (by rw [hj]; exact hlen) ?_
      · rw [List.length_map, List.map_map]; exact hr
      · rw [hj]
        simp -dsimp (disch := omega)
        exact RetF.all (r := .string (txt (textD D))) (by simp) (hK _ ((e1.trans eG).trans e2))
end
end Go.Proofs.YtkbiadobkheafaaDoor
namespace Go.Proofs.YtkbiadobkheafaaDoor
open Go Go.Mini Go.Proofs.Tryd
set_option maxRecDepth 100000

theorem refC_one (r : Rd) : oneAll (refC r).toList = true := oneAll_of fun v hv => by
  unfold refC at hv
  simp only [List.mem_map] at hv
  obtain ⟨i, _, rfl⟩ := hv
  unfold rcell
  (repeat' split) <;> rfl
def tbA : Nat → Marks := fun k => if k = 4 then ⟨[2, 4, 10, 12, 1000000], fun _ => True⟩ else ⟨[], fun _ => True⟩
@[simp] theorem tbA_4 : (tbA 4).l = [2, 4, 10, 12, 1000000] := rfl
section
variable {h : Hp} {K : Value → Hp → Prop} {q : Nat} {r : Rd}
theorem rLevel_call (hb : h.blks q = some ⟨refC r, 1, true⟩) (hd : r.ok) (hK : K (.bool (decide (1 < r.st))) h) : ACall prog 46 [ptr q] h K := by
  refine acallF_of tb0 func46 rfl rfl mixed (by kernel_rfl) fun hwf => ?_
  have b3 := refC_3 r
  have k3 := hd.st
  obtain ⟨st, hst⟩ : ∃ x, x = r.st := ⟨_, rfl⟩
  rw [← hst] at b3 k3 hK
  obtain ⟨c, hc⟩ : ∃ c, c = refC r := ⟨_, rfl⟩
  rw [← hc] at b3 hb
  clear hc
  have e : decide ((1 : Int) < (st : Int)) = decide (1 < st) := by
    rw [decide_eq_decide]
    constructor <;> intro z <;> omega
  simp -dsimp (disch := omega) [hb, b3, -getElem?_pos]
  rw [← e] at hK
  exact RetF.all (r := .bool (decide ((1 : Int) < (st : Int)))) (by simp) hK
theorem rCopy_call (hb : h.blks q = some ⟨refC r, 1, true⟩) (hK : K (ptr h.next) (h.alloc ⟨refC r, 1, true⟩)) : ACall prog 23 [ptr q] h K := by
  refine acallF_of tb0 func23 rfl rfl mixed (by kernel_rfl) fun hwf => ?_
  have cs := refC_size r
  have ce : (refC r).extract 0 41 = refC r := by have := Array.extract_size (xs := refC r); rwa [cs] at this
  have co := refC_one r
  have cp : ∀ Z : Array Value, Z.size = 41 → putL Z 0 (refC r).toList = refC r := fun Z hz => putL_full (by rw [hz, cs])
  obtain ⟨c, hc⟩ : ∃ c, c = refC r := ⟨_, rfl⟩
  rw [← hc] at cs ce co cp hb hK
  clear hc
  simp -dsimp (disch := omega) [hb, cs, ce, co]
  rw [cp]
  · exact RetF.all (r := ptr h.next) (by simp) hK
  · rfl
end
section
variable {h0 : Hp} {T : Nat → Prop} {h : Hp} {x : Nm} {d : Dev} {r : Rd} {M : Nat → Nat} {a : Nat} {w : Int} {v : Value} {L : Rm.By} {a' : Nat} {w' : Int} {K : Value → Hp → Prop}
theorem alike_call {n : Int} (P : PrM h0 T h x d r M a w v L a' w') (E : Rel d r M L) (ht : PowAt h) (hlt : 100 < h.next) (hK : ∀ h', Ext h h' → K (.bool true) h') : ACall prog 25 [pairV x, .int .i64 n] h K := by
  refine acallF_of tbA func25 rfl rfl mixed (by kernel_rfl) fun hwf => ?_
  obtain ⟨H, hH⟩ : ∃ H, H = h.alloc ⟨#[ptr x.p, ptr x.pm, ptr x.q, ptr x.mr], 1, true⟩ := ⟨_, rfl⟩
  have e1 : Ext h H := by rw [hH]; exact Ext.alloc _ _
  have hX : H.blks h.next = some ⟨#[ptr x.p, ptr x.pm, ptr x.q, ptr x.mr], 1, true⟩ := by rw [hH]; exact blks_alloc_eq _ _
  have hn : h.next < H.next := by rw [hH]; simp
  have dp := (e1.same _ P.ow.dm.plt).trans P.ow.dm.dev
  have dq := (e1.same _ P.qlt).trans P.rb
  have lp : x.p < H.next := by have := P.ow.dm.plt; omega
  have lq : x.q < H.next := by have := P.qlt; omega
  have ok := P.ow.dm.ok
  have rok := P.rok
  have fin : ∀ (G : Hp) (b1 : Bool), Ext H G → ∀ {K' : Value → Hp → Prop}, (K (.bool true) G → K' (.bool true) G) → K' (.bool true) G := fun G b1 e K' hk => hk (hK G (e1.trans e))
  clear fin
  have tail : ∀ (G : Hp), Ext H G → PowAt G ∧ 100 < G.next := fun G e => ⟨by unfold PowAt; rw [(e1.trans e).same _ hlt]; exact ht, Nat.lt_of_lt_of_le hlt (e1.trans e).le⟩
  have tx := text_rel E
  have lv : decide (1 < r.st) = decide (1 < d.st) := by rw [E.st]
  by_cases c : 0 ≤ n ∧ n < 32
  · obtain ⟨k, rfl, hk⟩ : ∃ k : Nat, n = k ∧ k < 32 := ⟨n.toNat, by omega, by omega⟩
    have k2 : (k : Int) < 32 := by omega
    simp -dsimp (disch := omega) [← hH, hX]
    refine sector_call (n := k) dp ok hk ?_
    rw [show ((List.range 64).map fun i => UInt8.ofNat (secM d k i)) = rbytes r k from by rw [← E.sec k hk]; rfl]
    simp -dsimp (disch := omega) [hX, k2]
    refine rBytes_call dq hk fun h2 e2 => ?_
    have x2 := (e2.same _ hn).trans hX
    have le2 := e2.le
    obtain ⟨t2, l2⟩ := tail h2 e2
    have dp2 := (e2.same _ lp).trans dp
    have dq2 := (e2.same _ lq).trans dq
    simp -dsimp (disch := omega) [x2]
    refine text_call dp2 ok (by omega) t2 l2 fun h3 e3 => ?_
    have x3 := (e3.same _ (by omega)).trans x2
    have le3 := e3.le
    simp -dsimp (disch := omega) [x3]
    refine ⟨fun j hj _ => e3.same j hj, by omega, ?_⟩
    refine rText_call ((e3.same _ (by omega)).trans dq2) rok (by omega) fun h4 e4 => ?_
    rw [tx]
    have x4 := (e4.same _ (by omega)).trans x3
    have le4 := e4.le
    have e24 := e3.trans e4
    simp -dsimp (disch := omega) [x4]
    refine level_call ((e24.same _ (by omega)).trans dp2) ok ?_
    simp -dsimp (disch := omega) [x4]
    refine ⟨by omega, ?_⟩
    refine rLevel_call ((e24.same _ (by omega)).trans dq2) rok ?_
    rw [lv]
    simp -dsimp (disch := omega)
    exact RetF.all (r := .bool true) (by simp) (hK _ ((e1.trans e2).trans e24))
  · have cc : n < 0 ∨ 32 ≤ n := by omega
    have go : ∀ {K' : Value → Hp → Prop}, K' (.tuple #[.string (txt []), .bool false]) H → ACall prog 16 [ptr x.p, .int .i64 n] H K' := fun hk => sector_no dp cc hk
    obtain ⟨t2, l2⟩ := tail H (Ext.refl _)
    by_cases c1 : 0 ≤ n
    · have c2 : ¬ n < 32 := by omega
      simp -dsimp (disch := omega) [← hH, hX]
      refine go ?_
      simp -dsimp (disch := omega) [hX, c1, c2]
      refine text_call dp ok lp t2 l2 fun h3 e3 => ?_
      have x3 := (e3.same _ (by omega)).trans hX
      have le3 := e3.le
      simp -dsimp (disch := omega) [x3]
      refine ⟨fun j hj _ => e3.same j hj, by omega, ?_⟩
      refine rText_call ((e3.same _ (by omega)).trans dq) rok (by omega) fun h4 e4 => ?_
      rw [tx]
      have x4 := (e4.same _ (by omega)).trans x3
      have e24 := e3.trans e4
      simp -dsimp (disch := omega) [x4]
      refine level_call ((e24.same _ (by omega)).trans dp) ok ?_
      simp -dsimp (disch := omega) [x4]
      refine ⟨by omega, ?_⟩
      refine rLevel_call ((e24.same _ (by omega)).trans dq) rok ?_
      rw [lv]
      simp -dsimp (disch := omega)
      exact RetF.all (r := .bool true) (by simp) (hK _ (e1.trans e24))
    · simp -dsimp (disch := omega) [← hH, hX]
      refine go ?_
      simp -dsimp (disch := omega) [hX, c1]
      refine text_call dp ok lp t2 l2 fun h3 e3 => ?_
      have x3 := (e3.same _ (by omega)).trans hX
      have le3 := e3.le
      simp -dsimp (disch := omega) [x3]
      refine ⟨fun j hj _ => e3.same j hj, by omega, ?_⟩
      refine rText_call ((e3.same _ (by omega)).trans dq) rok (by omega) fun h4 e4 => ?_
      rw [tx]
      have x4 := (e4.same _ (by omega)).trans x3
      have e24 := e3.trans e4
      simp -dsimp (disch := omega) [x4]
      refine level_call ((e24.same _ (by omega)).trans dp) ok ?_
      simp -dsimp (disch := omega) [x4]
      refine ⟨by omega, ?_⟩
      refine rLevel_call ((e24.same _ (by omega)).trans dq) rok ?_
      rw [lv]
      simp -dsimp (disch := omega)
      exact RetF.all (r := .bool true) (by simp) (hK _ (e1.trans e24))
end
end Go.Proofs.YtkbiadobkheafaaDoor
