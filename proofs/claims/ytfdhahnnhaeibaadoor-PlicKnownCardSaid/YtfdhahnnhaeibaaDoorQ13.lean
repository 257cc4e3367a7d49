/-
  PlicApart: the law's body.
-/
import Derived.Test.YtfdhahnnhaeibaaDoorQ12
set_option linter.unusedSimpArgs false
set_option linter.unusedVariables false
set_option linter.unusedSectionVars false
namespace Go.Proofs.YtfdhahnnhaeibaaDoor
open Go Go.Mini Go.Proofs.Tryd
set_option maxRecDepth 100000

theorem mayN_t {off : Nat} (h1 : off % 4 = 0) (h2 : off < 2105344) : mayN off 4 = true := by simp [mayN, h1, h2]
structure Here (h h' : Hp) (A : Array Value) (s : St) : Prop where
  inv : Inv2 s
  le : h.next + 2 ≤ h'.next
  old : ∀ i, i < h.next → h'.blks i = h.blks i
  b0 : h'.blks h.next = some ⟨A, 1, true⟩
  bp : h'.blks (h.next + 1) = some ⟨stC s, 1, true⟩
theorem Here.call {h h' h'' : Hp} {A : Array Value} {s s' : St} (q : Here h h' A s) (i : Inv2 s') (h1 : ∀ i, i < h'.next → i ≠ h.next + 1 → h''.blks i = h'.blks i) (h2 : h'.next ≤ h''.next) (h3 : h''.blks (h.next + 1) = some ⟨stC s', 1, true⟩) : Here h h'' A s' := by
  have := q.le
  exact ⟨i, by omega, fun i hi => by rw [h1 i (by omega) (by omega)]; exact q.old i hi, by rw [h1 _ (by omega) (by omega)]; exact q.b0, h3⟩
theorem Here.off {h h' h'' : Hp} {A : Array Value} {s : St} (q : Here h h' A s) (h1 : ∀ i, i < h.next + 2 → h''.blks i = h'.blks i) (h2 : h'.next ≤ h''.next) : Here h h'' A s := by
  have := q.le
  exact ⟨q.inv, by omega, fun i hi => by rw [h1 i (by omega)]; exact q.old i hi, by rw [h1 _ (by omega)]; exact q.b0, by rw [h1 _ (by omega)]; exact q.bp⟩
theorem srcT_eq {s s' : St} {k : Nat} (h1 : s'.pr k = s.pr k) (h2 : s'.hi k = s.hi k) (h3 : s'.pe k = s.pe k) (h4 : s'.se k = s.se k) : srcT s' k = srcT s k := by
  simp only [srcT, flagK, h1, h2, h3, h4]
theorem raise_other (s : St) {n k : Nat} (x : Bool) (h : k ≠ n) : (raiseS s n x).pr k = s.pr k ∧ (raiseS s n x).hi k = s.hi k ∧ (raiseS s n x).pe k = s.pe k ∧ (raiseS s n x).se k = s.se k := by
  unfold raiseS
  refine ⟨by rw [gate_pr], by rw [gate_hi]; exact upd1_ne _ _ h, ?_, by rw [gate_se]⟩
  rw [gate_pe]
  split
  · exact upd1_ne _ _ h
  · rfl
section
variable {h : Hp} {K : Value → Hp → Prop} {p : Nat} {s : St}
set_option maxHeartbeats 4000000 in
theorem plicApart_call {l : List Act} {v : Value} {a : Act} {o : Nat} (hok : ∀ e ∈ l, e.ok) (hl : l.length < 9223372036854775808) (hv : Sl h 6 l.length (actsC l) v) (ha : a.ok) (ho : o < 256) (hK : K (.bool true) h) : ACall prog 4 [v, .agg (actC a).toArray, .int .u8 o] h K := by
  refine acallF_of tb0 func4 rfl rfl mixed (by kernel_rfl) fun hwf => ?_
  have hvb := sblk_lt (hwf.args v (by simp))
  obtain ⟨va, vc, rfl⟩ := hv.slice
  obtain ⟨w, n0, x, off, v, wd⟩ := a
  obtain ⟨o1, o2, o3, o4, o5⟩ := ha
  simp only at o1 o2 o3 o4 o5
  rw [show (actC (⟨w, n0, x, off, v, wd⟩ : Act)).toArray = #[.int .u8 w, .int .i64 n0, .bool x, .int .u64 off, .int .u64 v, .int .i64 wd] from rfl]
  by_cases hc : 40 < l.length
  · have hc' : (40 : Int) < l.length := by omega
    simp -dsimp (disch := omega) [hc, hc']
    refine works_call ?_
    simp -dsimp (disch := omega)
    exact RetF.same hwf (by simp) (Nat.zero_le _) (fun i hi => by simp (disch := omega)) hK
  have hc' : ¬ (40 : Int) < l.length := by omega
  simp -dsimp (disch := omega) [hc, hc']
  refine new_call ?_
  simp -dsimp (disch := omega)
  obtain ⟨A, hA⟩ : ∃ A : Array Value, A = #[.int .u8 w, .int .i64 n0, .bool x, .int .u64 off, .int .u64 v, .int .i64 wd] := ⟨_, rfl⟩
  rw [← hA]
  have A1 : A[1]? = some (.int .i64 n0) := by rw [hA]; rfl
  have A2 : A[2]? = some (.bool x) := by rw [hA]; rfl
  have A4 : A[4]? = some (.int .u64 v) := by rw [hA]; rfl
  clear hA
  refine awp_loop (fun t h' => ∃ (k : Nat) (s : St), k ≤ l.length ∧ Here h h' A s ∧ t 0 = .slice va l.length vc ∧ t 2 = .int .u8 o ∧ t 4 = ptr h.next ∧ t 7 = ptr (h.next + 1) ∧ t 8 = .int .i64 k) (fun t _ => l.length - ivN (t 8)) ?_ ?_
  · simp -dsimp (disch := omega)
    exact ⟨0, by omega, ⟨st0, ⟨Inv2.st0, by simp, fun i hi => by simp (disch := omega), by simp (disch := omega), by simp (disch := omega)⟩⟩, rfl⟩
  · rintro t h' ⟨k, s, hk, q, t0, t2, t4, t7, t8⟩
    refine vcF_sound mixed (tb := tb0) _ (by kernel_rfl) ?_
    have qi := q.inv
    have qle := q.le
    by_cases hc1 : k < l.length
    · have hc1' : (k : Int) < l.length := by omega
      obtain ⟨a, hx⟩ : ∃ e, l[k]? = some e := ⟨l[k], List.getElem?_eq_getElem hc1⟩
      obtain ⟨a', c', b', q1, f1, g1, x1⟩ := act_at (hv.mono fun b hb => q.old b (hvb b hb)) hx
      cases q1
      obtain ⟨p1, p2, p3, p4, p5⟩ := hok a (List.mem_of_getElem? hx)
      have xs : ∀ j, j < 6 → b'.cells[a'.off + k * 6 + j]? = (actC a)[j]? := fun j hj => by
        have := congrArg (fun (A : Array Value) => A[j]?) x1
        simp only [Array.getElem?_extract] at this
        rw [if_pos (by omega)] at this
        rw [this]; simp
      have x0 : b'.cells[a'.off + k * 6]? = some (.int .u8 a.what) := xs 0 (by omega)
      have x1 : b'.cells[a'.off + k * 6 + 1]? = some (.int .i64 a.n) := xs 1 (by omega)
      have x2 : b'.cells[a'.off + k * 6 + 2]? = some (.bool a.high) := xs 2 (by omega)
      have x3 : b'.cells[a'.off + k * 6 + 3]? = some (.int .u64 a.off) := xs 3 (by omega)
      have x4 : b'.cells[a'.off + k * 6 + 4]? = some (.int .u64 a.v) := xs 4 (by omega)
      have x5 : b'.cells[a'.off + k * 6 + 5]? = some (.int .i64 a.w) := xs 5 (by omega)
      clear xs
      obtain ⟨c, hcd⟩ : ∃ c, c = a.what % 13 := ⟨_, rfl⟩
      have hci : (a.what : Int) % 13 = c := by omega
      by_cases c3 : c < 3
      · have c3' : (c : Int) < 3 := by omega
        simp -dsimp (disch := omega) [t0, t2, t4, t7, t8, hc1, hc1', f1, x0, x1, x2, hci, c3, c3', -getElem?_pos]
        refine raise_call q.bp (fun hn => ?_) (fun m hm m1 m8 => ?_)
        · simp -dsimp (disch := omega) [t0, t2, t4, t7, t8]
          exact ⟨⟨k + 1, by omega, ⟨s, q⟩, by simp⟩, by simp [ivN]; omega⟩
        · have q2 := q.call (h'' := h'.set (h.next + 1) ⟨stC (raiseS s m a.high), 1, true⟩) (qi.raise m1 _) (fun i _ hne => blks_set_ne _ _ _ _ hne) (Nat.le_refl _) (blks_set_eq _ _ _)
          simp -dsimp (disch := omega) [t0, t2, t4, t7, t8]
          exact ⟨⟨k + 1, by omega, ⟨_, q2⟩, by simp⟩, by simp [ivN]; omega⟩
      have c3' : ¬ (c : Int) < 3 := by omega
      by_cases c7 : c < 7
      · have c7' : (c : Int) < 7 := by omega
        simp -dsimp (disch := omega) [t0, t2, t4, t7, t8, hc1, hc1', f1, x0, x3, x5, hci, c3, c3', c7, c7', -getElem?_pos]
        refine read_call q.bp qi.ok (by omega) p3 (fun hm => ?_) (fun hm h1 u1 u2 u3 => ?_)
        · simp -dsimp (disch := omega) [t0, t2, t4, t7, t8]
          exact ⟨⟨k + 1, by omega, ⟨s, q⟩, by simp⟩, by simp [ivN]; omega⟩
        · have q2 := q.call (qi.read _) u1 u2 u3
          simp -dsimp (disch := omega) [t0, t2, t4, t7, t8]
          exact ⟨⟨k + 1, by omega, ⟨_, q2⟩, by simp⟩, by simp [ivN]; omega⟩
      · have c7' : ¬ (c : Int) < 7 := by omega
        simp -dsimp (disch := omega) [t0, t2, t4, t7, t8, hc1, hc1', f1, x0, x3, x4, x5, hci, c3, c3', c7, c7', -getElem?_pos]
        refine write_call q.bp qi.ok (by omega) p3 p4 (fun hm => ?_) (fun hm h1 u1 u2 u3 => ?_)
        · simp -dsimp (disch := omega) [t0, t2, t4, t7, t8]
          exact ⟨⟨k + 1, by omega, ⟨s, q⟩, by simp⟩, by simp [ivN]; omega⟩
        · have q2 := q.call (qi.write _ (mayN_4 hm)) u1 u2 u3
          simp -dsimp (disch := omega) [t0, t2, t4, t7, t8]
          exact ⟨⟨k + 1, by omega, ⟨_, q2⟩, by simp⟩, by simp [ivN]; omega⟩
    · have hc1' : ¬ (k : Int) < l.length := by omega
      have hb0 := q.b0
      obtain ⟨U, hU, hUl⟩ : ∃ U : Nat, IntKind.u64.wrap n0 = U ∧ U < 18446744073709551616 := by
        have : IntKind.u64.wrap n0 = n0 % 18446744073709551616 := by simp [IntKind.wrap, IntKind.bits, IntKind.signed]
        exact ⟨(n0 % 18446744073709551616).toNat, by rw [this]; omega, by omega⟩
      obtain ⟨u7, hu7⟩ : ∃ u7, u7 = U % 7 := ⟨_, rfl⟩
      have eu7 : (U : Int) % 7 = u7 := by omega
      obtain ⟨n, hn⟩ : ∃ n, n = 1 + u7 := ⟨_, rfl⟩
      have en : 1 + (u7 : Int) = (n : Nat) := by omega
      obtain ⟨o7, ho7⟩ : ∃ o7, o7 = o % 7 := ⟨_, rfl⟩
      have eo7 : (o : Int) % 7 = o7 := by omega
      obtain ⟨j, hj⟩ : ∃ j, j = 1 + o7 := ⟨_, rfl⟩
      have ej : 1 + (o7 : Int) = (j : Nat) := by omega
      obtain ⟨r, hr⟩ : ∃ r, r = 4 * n := ⟨_, rfl⟩
      have er : 4 * (n : Int) = (r : Nat) := by omega
      obtain ⟨d, hd⟩ : ∃ d, d = v % 8 := ⟨_, rfl⟩
      have v8 : (v : Int) % 8 = (d : Nat) := by omega
      have n1 : 1 ≤ n := by omega
      have n8 : n < 8 := by omega
      simp -dsimp (disch := omega) [t0, t2, t4, t7, t8, hc1, hc1', hb0, A1, hU, eu7, en, eo7, ej]
      refine copy_call q.bp ?_
      obtain ⟨P, hP⟩ : ∃ P, P = h'.next := ⟨_, rfl⟩
      rw [← hP]
      have q2 := q.off (h'' := h'.alloc ⟨stC s, 1, true⟩) (fun i hi => blks_alloc_ne _ _ _ (by omega)) (by simp)
      have bq : (h'.alloc ⟨stC s, 1, true⟩).blks P = some ⟨stC s, 1, true⟩ := blks_alloc_at _ _ _ hP
      have nq : (h'.alloc ⟨stC s, 1, true⟩).next = P + 1 := by rw [hP]; rfl
      generalize h'.alloc ⟨stC s, 1, true⟩ = h1 at *
      have hb1 := q2.b0
      simp -dsimp (disch := omega) [t4, hb1, A2]
      refine raise_call bq (fun hn => absurd hn (by omega)) (fun m hm _ _ => ?_)
      obtain rfl : n = m := by omega
      have i1 := qi.raise n1 x
      have q3 := q2.off (h'' := h1.set P ⟨stC (raiseS s n x), 1, true⟩) (fun i hi => blks_set_ne _ _ _ _ (by omega)) (Nat.le_refl _)
      have bq3 : (h1.set P ⟨stC (raiseS s n x), 1, true⟩).blks P = some ⟨stC (raiseS s n x), 1, true⟩ := blks_set_eq _ _ _
      have nq3 : (h1.set P ⟨stC (raiseS s n x), 1, true⟩).next = P + 1 := nq
      have ot := fun k (hk : k ≠ n) => raise_other s x hk
      generalize raiseS s n x = s1 at *
      generalize h1.set P ⟨stC s1, 1, true⟩ = h2 at *
      have hb3 := q3.b0
      simp -dsimp (disch := omega) [t4, hb3, A4, er]
      refine write_call (off := r) (v := v) bq3 i1.ok (by omega) (by omega) o4 (fun hm => absurd hm (by rw [mayN_t (by omega) (by omega)]; simp)) (fun hm h3 u1 u2 u3 => ?_)
      have q4 := q3.off (h'' := h3) (fun i hi => u1 i (by omega) (by omega)) u2
      have i2 := i1.write v (mayN_4 hm)
      have ew : writeS s1 r v = { s1 with pr := upd1 s1.pr n d } := by
        unfold writeS
        rw [hd]
        rw [if_pos (by omega), show r / 4 = n by omega]
      have ot2 : ∀ k, k ≠ n → (writeS s1 r v).pr k = s.pr k ∧ (writeS s1 r v).hi k = s.hi k ∧ (writeS s1 r v).pe k = s.pe k ∧ (writeS s1 r v).se k = s.se k := fun k hk => by
        obtain ⟨y1, y2, y3, y4⟩ := ot k hk
        rw [ew]
        exact ⟨by show upd1 s1.pr n d k = _; rw [upd1_ne _ _ hk]; exact y1, y2, y3, y4⟩
      have ep : (writeS s1 r v).pr n = d := by rw [ew]; exact upd1_same _ _ _
      generalize writeS s1 r v = s2 at *
      clear ew u1 hb3 hb1 q2 q3 bq bq3
      simp -dsimp (disch := omega) [er]
      refine read_call (off := r) u3 i2.ok (by omega) (by omega) (fun hm => absurd hm (by rw [mayN_t (by omega) (by omega)]; simp)) (fun _ h4 v1 v2 v3 => ?_)
      have erd : readS s2 r = (d, s2) := by rw [hr, readS_pr n8 i2.p0, ep]
      rw [erd] at v3 ⊢
      have q5 := q4.off (h'' := h4) (fun i hi => v1 i (by omega) (by omega)) v2
      clear v1 q4 u3
      have hb5 := q5.b0
      simp -dsimp (disch := omega) [t7]
      have q5b := q5.bp
      refine text_call qi q5.bp (by omega) ?_
      simp -dsimp (disch := omega)
      have tl := textS_len s
      refine word_call (by omega) (by omega) (by omega) ?_
      rw [word_text qi (by omega) (by omega)]
      simp -dsimp (disch := omega)
      refine text_call i2 v3 (by omega) ?_
      simp -dsimp (disch := omega)
      have tl2 := textS_len s2
      refine word_call (by omega) (by omega) (by omega) ?_
      rw [word_text i2 (by omega) (by omega)]
      have ne : ¬ srcT s j = [] := by simp [srcT]
      have hv8 : d < 8 := by omega
      by_cases hnj : n = j
      · have hnj' : (n : Int) = j := by omega
        simp -dsimp (disch := omega) [t4, hb5, A4, v8, hnj, hnj', ne]
        refine write_call (off := 8192) (v := v) v3 i2.ok (by omega) (by omega) o4 (fun hm => absurd hm (by decide)) (fun hm h5 w1 w2 w3 => ?_)
        have q6 := q5.off (h'' := h5) (fun i hi => w1 i (by omega) (by omega)) w2
        have i3 := i2.write v (mayN_4 hm)
        have e3 : writeS s2 8192 v = { s2 with en := upd1 s2.en 0 (v &&& 254) } := by simp [writeS]
        have s3a : (writeS s2 8192 v).en 0 = v &&& 254 := by rw [e3]; exact upd1_same s2.en 0 _
        have s3b : (writeS s2 8192 v).pr = s2.pr ∧ (writeS s2 8192 v).hi = s2.hi ∧ (writeS s2 8192 v).pe = s2.pe ∧ (writeS s2 8192 v).se = s2.se := by rw [e3]; exact ⟨rfl, rfl, rfl, rfl⟩
        clear e3 w1
        generalize writeS s2 8192 v = s3 at *
        simp -dsimp (disch := omega)
        refine read_call (off := 8192) w3 i3.ok (by omega) (by omega) (fun hm => absurd hm (by decide)) (fun _ h6 x1 x2 x3 => ?_)
        rw [show readS s3 8192 = (v &&& 254, s3) from by rw [← s3a]; exact readS_en (c := 0) (by omega)] at x3 ⊢
        have q7 := q6.off (h'' := h6) (fun i hi => x1 i (by omega) (by omega)) x2
        have hb7 := q7.b0
        clear x1
        simp -dsimp (disch := omega) [t4, hb7, A4]
        refine write_call (off := 2101248) (v := v) x3 i3.ok (by omega) (by omega) o4 (fun hm => absurd hm (by decide)) (fun hm h7 y1 y2 y3 => ?_)
        have q8 := q7.off (h'' := h7) (fun i hi => y1 i (by omega) (by omega)) y2
        have i4 := i3.write v (mayN_4 hm)
        have e4 : writeS s3 2101248 v = { s3 with th := upd1 s3.th 1 d } := by rw [hd]; simp [writeS]
        have s4a : (writeS s3 2101248 v).th 1 = d := by rw [e4]; exact upd1_same s3.th 1 _
        have s4b : (writeS s3 2101248 v).pr = s3.pr ∧ (writeS s3 2101248 v).hi = s3.hi ∧ (writeS s3 2101248 v).pe = s3.pe ∧ (writeS s3 2101248 v).se = s3.se := by rw [e4]; exact ⟨rfl, rfl, rfl, rfl⟩
        clear e4 y1
        generalize writeS s3 2101248 v = s4 at *
        simp -dsimp (disch := omega)
        refine read_call (off := 2101248) y3 i4.ok (by omega) (by omega) (fun hm => absurd hm (by decide)) (fun _ h8 z1 z2 z3 => ?_)
        rw [show readS s4 2101248 = (d, s4) from by rw [← s4a]; simp [readS]] at z3 ⊢
        have q9 := q8.off (h'' := h8) (fun i hi => z1 i (by omega) (by omega)) z2
        have hb9 := q9.b0
        clear z1
        have an : ∀ (ty : TypeId) (xo yo : Operand), abin prog .and ty xo yo (.int .u64 (v : Nat)) (.int .u64 254) = some (.int .u64 ((v &&& 254 : Nat) : Int)) := and_n v 254 (v &&& 254) o4 (by omega) rfl
        generalize v &&& 254 = E at *
        simp -dsimp (disch := omega) [t4, hb9, A4, an, v8, hnj, hnj', -abin_and]
        refine works_call ?_
        simp -dsimp (disch := omega)
        exact RetF.same hwf (by simp) (Nat.zero_le _) q9.old hK
      · have hnj' : ¬ (n : Int) = j := by omega
        have es : srcT s2 j = srcT s j := by
          obtain ⟨y1, y2, y3, y4⟩ := ot2 j (fun e => hnj e.symm)
          exact srcT_eq y1 y2 y3 y4
        simp -dsimp (disch := omega) [t4, hb5, A4, v8, hnj, hnj', ne, es]
        refine write_call (off := 8192) (v := v) v3 i2.ok (by omega) (by omega) o4 (fun hm => absurd hm (by decide)) (fun hm h5 w1 w2 w3 => ?_)
        have q6 := q5.off (h'' := h5) (fun i hi => w1 i (by omega) (by omega)) w2
        have i3 := i2.write v (mayN_4 hm)
        have e3 : writeS s2 8192 v = { s2 with en := upd1 s2.en 0 (v &&& 254) } := by simp [writeS]
        have s3a : (writeS s2 8192 v).en 0 = v &&& 254 := by rw [e3]; exact upd1_same s2.en 0 _
        have s3b : (writeS s2 8192 v).pr = s2.pr ∧ (writeS s2 8192 v).hi = s2.hi ∧ (writeS s2 8192 v).pe = s2.pe ∧ (writeS s2 8192 v).se = s2.se := by rw [e3]; exact ⟨rfl, rfl, rfl, rfl⟩
        clear e3 w1
        generalize writeS s2 8192 v = s3 at *
        simp -dsimp (disch := omega)
        refine read_call (off := 8192) w3 i3.ok (by omega) (by omega) (fun hm => absurd hm (by decide)) (fun _ h6 x1 x2 x3 => ?_)
        rw [show readS s3 8192 = (v &&& 254, s3) from by rw [← s3a]; exact readS_en (c := 0) (by omega)] at x3 ⊢
        have q7 := q6.off (h'' := h6) (fun i hi => x1 i (by omega) (by omega)) x2
        have hb7 := q7.b0
        clear x1
        simp -dsimp (disch := omega) [t4, hb7, A4]
        refine write_call (off := 2101248) (v := v) x3 i3.ok (by omega) (by omega) o4 (fun hm => absurd hm (by decide)) (fun hm h7 y1 y2 y3 => ?_)
        have q8 := q7.off (h'' := h7) (fun i hi => y1 i (by omega) (by omega)) y2
        have i4 := i3.write v (mayN_4 hm)
        have e4 : writeS s3 2101248 v = { s3 with th := upd1 s3.th 1 d } := by rw [hd]; simp [writeS]
        have s4a : (writeS s3 2101248 v).th 1 = d := by rw [e4]; exact upd1_same s3.th 1 _
        have s4b : (writeS s3 2101248 v).pr = s3.pr ∧ (writeS s3 2101248 v).hi = s3.hi ∧ (writeS s3 2101248 v).pe = s3.pe ∧ (writeS s3 2101248 v).se = s3.se := by rw [e4]; exact ⟨rfl, rfl, rfl, rfl⟩
        clear e4 y1
        generalize writeS s3 2101248 v = s4 at *
        simp -dsimp (disch := omega)
        refine read_call (off := 2101248) y3 i4.ok (by omega) (by omega) (fun hm => absurd hm (by decide)) (fun _ h8 z1 z2 z3 => ?_)
        rw [show readS s4 2101248 = (d, s4) from by rw [← s4a]; simp [readS]] at z3 ⊢
        have q9 := q8.off (h'' := h8) (fun i hi => z1 i (by omega) (by omega)) z2
        have hb9 := q9.b0
        clear z1
        have an : ∀ (ty : TypeId) (xo yo : Operand), abin prog .and ty xo yo (.int .u64 (v : Nat)) (.int .u64 254) = some (.int .u64 ((v &&& 254 : Nat) : Int)) := and_n v 254 (v &&& 254) o4 (by omega) rfl
        generalize v &&& 254 = E at *
        simp -dsimp (disch := omega) [t4, hb9, A4, an, v8, hnj, hnj', -abin_and]
        refine text_call i4 z3 (by omega) ?_
        simp -dsimp (disch := omega)
        have tl4 := textS_len s4
        refine word_call (by omega) (by omega) (by omega) ?_
        have es4 : srcT s4 j = srcT s j := by
          rw [srcT_eq (s := s3) (by rw [s4b.1]) (by rw [s4b.2.1]) (by rw [s4b.2.2.1]) (by rw [s4b.2.2.2]), srcT_eq (s := s2) (by rw [s3b.1]) (by rw [s3b.2.1]) (by rw [s3b.2.2.1]) (by rw [s3b.2.2.2])]
          exact es
        rw [word_text i4 (by omega) (by omega), es4]
        simp -dsimp (disch := omega)
        refine works_call ?_
        simp -dsimp (disch := omega)
        exact RetF.same hwf (by simp) (Nat.zero_le _) q9.old hK
end
end Go.Proofs.YtfdhahnnhaeibaaDoor
