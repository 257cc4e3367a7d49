/-
  Each record is kept or dropped: the law's body.
-/
import Derived.Test.YtcfgagpjdhhddaaS4
import Derived.Test.YtcfgagpjdhhddaaD10
set_option linter.unusedSimpArgs false
set_option linter.unusedVariables false
set_option linter.unusedSectionVars false
namespace Go.Proofs.Ytcfgagpjdhhddaa
open Go Go.Mini Go.Proofs.Try

def tb4 : Nat → Marks := fun k => if k = 29 then ⟨[6, 8], fun _ => True⟩ else ⟨[], fun _ => True⟩
@[simp] theorem tb4_l29 : (tb4 29).l = [6, 8] := rfl
@[simp] theorem tb4_l26 : (tb4 26).l = [] := rfl
@[simp] theorem tb4_R (k x : Nat) : (tb4 k).R x := by unfold tb4; split <;> trivial
@[simp] theorem readIn_conv4 (a b : TypeId) (x : Operand) (t : Tm) : ReadInF (tb4 29).R (.convert a b x) t (.mk _) := by
  have : (tb4 29).R = fun _ => True := rfl
  rw [this]
  exact ReadIn_true _ _
@[simp] theorem readIn_conv4N (N : Nat) (a b : TypeId) (x : Operand) (t : Tm) : ReadInF ((tb4 29).at N).R (.convert a b x) t (.mk _) := by
  have : ((tb4 29).at N).R = fun _ => True := by
    funext y
    rw [Marks.at_R]
    simp [tb4]
  show ReadIn ((tb4 29).at N).R _ _
  rw [this]
  exact ReadIn_true _ _
theorem src_str (h : Hp) (l : List UInt8) : srcCells h 1 (.string (txt l)) = some (l.length, (l.map byteV).toArray) := rfl

theorem sl_dr3 {h : Hp} {l : List (Nat × Nat)} {v : Value} {k : Nat} {d : Nat × Nat} (hv : Sl h 2 l.length (drC l) v) (hk : l[k]? = some d) :
    ∃ a c b, v = .slice (some a) l.length c ∧ h.blks a.block = some b ∧ a.off + k * 2 + 2 ≤ b.cells.size ∧ b.cells[a.off + k * 2]? = some (.int .i64 d.1) ∧ b.cells[a.off + k * 2 + 1]? = some (.int .u8 d.2) := by
  have hlt : k < l.length := (List.getElem?_eq_some_iff.1 hk).1
  obtain ⟨h0, ⟨_, _, _, h1⟩ | ⟨a, c, b, rfl, h2, h3, h4⟩⟩ := hv
  · omega
  · obtain ⟨c1, c2⟩ := drC_at l k d hk
    exact ⟨a, c, b, rfl, h2, by omega, (h4 (k * 2) (by omega)).trans c1, by have := h4 (k * 2 + 1) (by omega); rw [← Nat.add_assoc] at this; exact this.trans c2⟩

theorem eventEach_call {S : ByteArray} {guests : Int} {h : Hp} {K : Value → Hp → Prop} (hK : ∀ h', Ext h h' → K (.bool true) h') : ACall prog 4 [.string S, .int .i64 guests] h K := by
  refine acallF_of tb4 func4 rfl rfl mixed (by kernel_rfl) fun hwf => ?_
  by_cases hc1 : (1000 : Int) < S.size
  · simp -dsimp (disch := omega) [hc1]
    refine awake_call ?_
    simp -dsimp (disch := omega)
    exact RetF.all (by simp) (hK _ (Ext.refl h))
  have hS : S = txt S.data.toList := rfl
  have hSl : S.size = S.data.toList.length := rfl
  rw [hSl] at hc1
  rw [hS]
  generalize S.data.toList = L at *
  have hsz : (txt L).size = L.length := rfl
  have hpl := parse_len guests L
  have hct := parse_count guests L
  simp -dsimp (disch := omega) [hc1]
  refine parse_call (by omega) fun h1 vk vd e1 l1 => ?_
  have hst := stp_step guests L
  have hse := stp_end guests L
  have hsz' := stp_zero guests L
  have hgd := parse_good guests L
  have hok := parse_ok guests L
  have hag := parse_again hgd hok
  have n1 := e1.le
  generalize parse guests L = S' at *
  generalize hG : stp guests L = G at *
  have s1 := row_sl l1.d
  have k1 := row_sl l1.k
  obtain ⟨ad, cd, rfl⟩ := s1.slice
  obtain ⟨ak, ck, rfl⟩ := k1.slice
  have bd1 : ∀ b, sblk (.slice ad S'.2.length cd) = some b → b < h1.next := fun b hb => (l1.d.blk b hb).2
  have bk1 : ∀ b, sblk (.slice ak S'.1.length ck) = some b → b < h1.next := fun b hb => (l1.k.blk b hb).2
  have hq : ((S'.1.length : Int) + S'.2.length) = (L.length + 9) / 10 := by omega
  simp -dsimp (disch := omega) [hq]
  refine awp_loop (fun t h' => Ext h1 h' ∧ ∃ i : Nat, i ≤ (L.length + 9) / 10 ∧ t 0 = .string (txt L) ∧ t 1 = .int .i64 guests ∧ t 5 = .slice ak S'.1.length ck ∧ t 6 = .slice ad S'.2.length cd ∧ t 9 = .int .i64 i ∧ t 7 = .int .i64 (G i).2.length ∧ (G i).2.length ≤ i ∧ (G i).1.length ≤ i ∧ Row h1.next h' 1 (buildL (G i).1).length ((buildL (G i).1).map byteV) (t 8)) (fun t _ => (L.length + 9) / 10 - ivN (t 9)) ?_ ?_
  · simp -dsimp (disch := omega)
    refine ⟨Ext.refl _, 0, by omega, rfl, ?_⟩
    rw [hsz']
    exact ⟨rfl, Nat.le_refl _, Nat.le_refl _, Row.nil _ _ _⟩
  · rintro t h' ⟨he, i, hi, g0, g1, g5, g6, g9, g7, hj, hkl, hrow⟩
    refine vcF_sound mixed (tb := tb4) _ (by kernel_rfl) ?_
    simp -dsimp (disch := omega) [g0, g1, g5, g6, g7, g9]
    refine CondF_dec (fun hcc => ?_) (fun hcc => ?_)
    · have hiN : i < (L.length + 9) / 10 := by omega
      rcases hst i hiN with ⟨w, w1, w3, hx, hk', hd'⟩ | ⟨hlen, hno, hk', hd'⟩
      · obtain ⟨a1, c1, b1, q1, f1, z1, y1, y2⟩ := sl_dr3 s1 hx
        cases q1
        simp only at y1 y2
        have hlt := (List.getElem?_eq_some_iff.1 hx).1
        have hf : h'.blks a1.block = some b1 := by rw [he.same _ (bd1 _ rfl)]; exact f1
        have w1' : ¬ (w : Int) < 1 := by omega
        have w3' : ¬ (3 : Int) < w := by omega
        simp -dsimp (disch := omega) [g0, g1, g5, g6, g7, g9, hf, z1, y1, y2, hlt, w1', w3', -getElem?_pos]
        refine ⟨⟨he, i + 1, by omega, by simp, ?_⟩, by simp [ivN]; omega⟩
        rw [hk', hd']
        exact ⟨by simp, by omega, by omega, hrow⟩
      · have hbl := buildL_length (G i).1
        have hb := bytes_recA (L := L) (o := 10 * i) hlen
        have hext : (txt L).extract (10 * (i : Int)).toNat (10 * (i : Int) + 10).toNat = txt (bytesE (recs L i)) := by
          rw [ext_txt, show recs L i = recA L (10 * i) from rfl, hb, show (10 * (i : Int)).toNat = 10 * i from by omega, show (10 * (i : Int) + 10).toNat = 10 * i + 10 from by omega, show 10 * i + 10 - 10 * i = 10 from by omega]
        have hlen' : ¬ (L.length : Int) < 10 * (i : Int) + 10 := by omega
        have hb10 := bytesE_length (recs L i)
        have hfin : ∀ (v' : Value) (h3 : Hp), Row h1.next h3 1 ((buildL (G i).1).length + (bytesE (recs L i)).length) ((buildL (G i).1).map byteV ++ ((bytesE (recs L i)).map byteV).toArray.toList) v' → h3.next = h'.next + 1 → (∀ j, j < h'.next → sblk (t 8) ≠ some j → h3.blks j = h'.blks j) →
            (Ext h1 h3 ∧ ∃ i1 : Nat, i1 ≤ (L.length + 9) / 10 ∧ (i : Int) + 1 = i1 ∧ ((G i).2.length : Int) = (G i1).2.length ∧ (G i1).2.length ≤ i1 ∧ (G i1).1.length ≤ i1 ∧ Row h1.next h3 1 (buildL (G i1).1).length ((buildL (G i1).1).map byteV) v') := by
          intro v' h3 r3 n3 s3
          have hne : ∀ j, j < h1.next → sblk (t 8) ≠ some j := fun j hj e => by have := (hrow.blk j e).1; omega
          have hle := he.le
          refine ⟨⟨by omega, fun j hj => by rw [s3 j (by omega) (hne j hj)]; exact he.same j hj⟩, i + 1, by omega, by omega, by rw [hd'], by rw [hd']; omega, by rw [hk', List.length_append, List.length_singleton]; omega, ?_⟩
          rw [hk', buildL_snoc, List.length_append, List.map_append]
          simpa using r3
        rcases Nat.lt_or_ge (G i).2.length S'.2.length with hlt | hge
        · obtain ⟨⟨d, w⟩, hx⟩ : ∃ x, S'.2[(G i).2.length]? = some x := ⟨_, List.getElem?_eq_getElem hlt⟩
          have hdi := hno _ hx
          simp only at hdi
          obtain ⟨a1, c1, b1, q1, f1, z1, y1, y2⟩ := sl_dr3 s1 hx
          cases q1
          simp only at y1 y2
          have hf : h'.blks a1.block = some b1 := by rw [he.same _ (bd1 _ rfl)]; exact f1
          have hdi' : ¬ (d : Int) = i := by omega
          simp -dsimp (disch := omega) [g0, g1, g5, g6, g7, g9, hf, z1, y1, y2, hlt, hdi, hdi', hlen', hext, -getElem?_pos]
          refine app_row hrow he.le (src_str _ _) (by omega) (by simp) (by unfold ROOM; omega) ?_
          intro v' h3 r3 n3 b3 s3
          simp -dsimp (disch := omega) [g0, g1, g5, g6, g7, g9]
          exact ⟨hfin v' h3 r3 n3 s3, by simp [ivN]; omega⟩
        · have hge' : ¬ ((G i).2.length : Int) < S'.2.length := by omega
          have hge2 : ¬ (G i).2.length < S'.2.length := by omega
          simp -dsimp (disch := omega) [g0, g1, g5, g6, g7, g9, hge', hge2, hlen', hext]
          refine app_row hrow he.le (src_str _ _) (by omega) (by simp) (by unfold ROOM; omega) ?_
          intro v' h3 r3 n3 b3 s3
          simp -dsimp (disch := omega) [g0, g1, g5, g6, g7, g9]
          exact ⟨hfin v' h3 r3 n3 s3, by simp [ivN]; omega⟩
    · obtain rfl : i = (L.length + 9) / 10 := by omega
      rw [hse] at g7 hrow
      generalize hv8 : t 8 = v8 at hrow
      have hk1 : Sl h' 4 S'.1.length (evsC S'.1) (.slice ak S'.1.length ck) := k1.mono fun b hb => he.same b (bk1 b hb)
      simp -dsimp (disch := omega) [g0, g1, g5, g6, g7, g9, hv8]
      refine awp_loop (fun t h2 => h2 = h' ∧ ∃ k : Nat, k ≤ S'.1.length ∧ t 1 = .int .i64 guests ∧ t 5 = .slice ak S'.1.length ck ∧ t 6 = .slice ad S'.2.length cd ∧ t 7 = .int .i64 S'.2.length ∧ t 8 = v8 ∧ t 10 = .int .i64 k) (fun t _ => S'.1.length - ivN (t 10)) ?_ ?_
      · simp -dsimp (disch := omega) [g1, g5, g6, g7, hv8]
        exact ⟨0, by omega, rfl⟩
      · clear g0 g1 g5 g6 g7 g9 hv8 t
        rintro t h' ⟨rfl, k, hk, g1, g5, g6, g7, g8, g10⟩
        refine vcF_sound mixed (tb := tb4) _ (by kernel_rfl) ?_
        simp -dsimp (disch := omega) [g1, g5, g6, g7, g8, g10]
        refine CondF_dec (fun hcc => ?_) (fun hcc => ?_)
        · obtain ⟨e, hx⟩ : ∃ e, S'.1[k]? = some e := ⟨S'.1[k]'(by omega), List.getElem?_eq_getElem _⟩
          obtain ⟨a1, c1, b1, q1, f1, z1, x1, y1, y2⟩ := sl_ev2 hk1 hx
          cases q1
          have hwz := why_zero (hgd k e hx)
          obtain ⟨hwg, hwt⟩ := hwz
          have heok := hok e (List.mem_of_getElem? hx)
          have hg8 : (e.g : Int) < 256 := by have := heok.2.1; omega
          have hwg' : ¬ guests ≤ (e.g : Int) := by omega
          simp -dsimp (disch := omega) [g1, g5, g6, g7, g8, g10, f1, z1, x1, y1, y2, hwg', -getElem?_pos]
          refine awp_loop (fun t h2 => h2 = h' ∧ ∃ m : Nat, m ≤ k ∧ t 1 = .int .i64 guests ∧ t 5 = .slice (some a1) S'.1.length ck ∧ t 6 = .slice ad S'.2.length cd ∧ t 7 = .int .i64 S'.2.length ∧ t 8 = v8 ∧ t 10 = .int .i64 k ∧ t 11 = .int .i64 m) (fun t _ => k - ivN (t 11)) ?_ ?_
          · simp -dsimp (disch := omega) [g1, g5, g6, g7, g8, g10]
            exact ⟨0, by omega, rfl⟩
          · have g10o := g10
            clear g1 g5 g6 g7 g8 g10
            rintro t3 h' ⟨rfl, m, hm, g1, g5, g6, g7, g8, g10, g11⟩
            refine vcF_sound mixed (tb := tb4) _ (by kernel_rfl) ?_
            simp -dsimp (disch := omega) [g1, g5, g6, g7, g8, g10, g11]
            refine CondF_dec (fun hcc2 => ?_) (fun hcc2 => ?_)
            · obtain ⟨e2, hx2⟩ : ∃ e, S'.1[m]? = some e := ⟨S'.1[m]'(by omega), List.getElem?_eq_getElem _⟩
              obtain ⟨a2, c2, b2, q2, f2, z2, x2, u1, u2⟩ := sl_ev2 hk1 hx2
              cases q2
              obtain rfl : b2 = b1 := by rw [f1] at f2; exact (Option.some.inj f2).symm
              have hmem : e2 ∈ S'.1.take k := List.mem_of_getElem? (i := m) (by rw [List.getElem?_take_of_lt (by omega)]; exact hx2)
              have ht := hwt e2 hmem
              by_cases hg : e2.g = e.g
              · have ht' : ¬ (e.t : Int) < e2.t := by have := ht hg; omega
                have hg' : (e2.g : Int) = e.g := by omega
                simp -dsimp (disch := omega) [g1, g5, g6, g7, g8, g10, g11, f1, z1, z2, y1, y2, u1, u2, hg, hg', ht', -getElem?_pos]
                exact ⟨⟨m + 1, by omega, by simp⟩, by simp [ivN]; omega⟩
              · have hg' : ¬ (e2.g : Int) = e.g := by omega
                simp -dsimp (disch := omega) [g1, g5, g6, g7, g8, g10, g11, f1, z1, z2, y1, y2, u1, u2, hg, hg', -getElem?_pos]
                exact ⟨⟨m + 1, by omega, by simp⟩, by simp [ivN]; omega⟩
            · simp -dsimp (disch := omega) [g1, g5, g6, g7, g8, g10, g11, g10o]
              exact ⟨⟨k + 1, by omega, by simp⟩, by simp [ivN]; omega⟩
        · simp -dsimp (disch := omega) [g1, g5, g6, g7, g8, g10]
          refine build_call (by omega) hok hk1 ?_
          have hbl := buildL_length S'.1
          simp -dsimp (disch := omega) [g1, g5, g6, g7, g8, g10]
          refine parse_call (by omega) fun h2 vk2 vd2 e2 l2 => ?_
          rw [hag] at l2
          have k2 := row_sl l2.k
          have s2 := l2.d
          obtain ⟨ad2, cd2, rfl⟩ := s2.slice
          obtain ⟨ak2, ck2, rfl⟩ := k2.slice
          have hr2 : Row h1.next h2 1 (buildL S'.1).length ((buildL S'.1).map byteV) v8 := hrow.mono e2.le fun b hb => e2.same b (hrow.blk b hb).2
          have hk2 : Sl h2 4 S'.1.length (evsC S'.1) (.slice ak S'.1.length ck) := hk1.mono fun b hb => e2.same b (by have := bk1 b hb; have := he.le; omega)
          simp -dsimp (disch := omega) [g1, g5, g6, g7, g8, g10]
          refine conv_row hr2 ?_
          simp -dsimp (disch := omega) [g1, g5, g6, g7, g8, g10]
          refine build_call (by omega) hok hk2 ?_
          simp -dsimp (disch := omega) [g1, g5, g6, g7, g8, g10]
          refine same_call (a := S'.1) (b := S'.1) (by omega) k2 hk2 ?_
          rw [decide_eq_true rfl]
          simp -dsimp (disch := omega) [g1, g5, g6, g7, g8, g10]
          refine awake_call ?_
          simp -dsimp (disch := omega)
          exact RetF.all (by simp) (hK _ (e1.trans (he.trans e2)))

end Go.Proofs.Ytcfgagpjdhhddaa
