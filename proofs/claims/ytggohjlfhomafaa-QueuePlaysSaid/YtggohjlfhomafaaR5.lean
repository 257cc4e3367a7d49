/-
  The document's Send, Receive, Copy; Copy.
-/
import Derived.Test.YtggohjlfhomafaaR3
set_option linter.unusedSimpArgs false
set_option linter.unusedVariables false
set_option linter.unusedSectionVars false
namespace Go.Proofs.Ytggohjlfhomafaa
open Go Go.Mini Go.Proofs.Try

/-- Appending any number. -/
theorem app_any {m : Nat} {h : Hp} {esz bytes n : Nat} {cs : List Value} {v x : Value} {k : Nat} {new : Array Value} {K : Value → Hp → Prop} {u : Tag K} (hr : Row m h esz n cs v) (hm : m ≤ h.next) (hx : srcCells h esz x = some (k, new)) (hsz : new.size = k * esz) (room : (n + k) * bytes ≤ ROOM ∧ n + k ≤ ROOM)
    (hK : ∀ v' h', Row m h' esz (n + k) (cs ++ new.toList) v' → h.next ≤ h'.next → (∀ b, sblk v' = some b → sblk v = some b ∨ h.next ≤ b) → (∀ i, i < h.next → sblk v ≠ some i → h'.blks i = h.blks i) → K v' h') : OptF (aappend h esz bytes v x) K u := by
  rcases Nat.eq_zero_or_pos k with rfl | hk
  · have hnew : new = #[] := Array.size_eq_zero_iff.1 (by simpa using hsz)
    subst hnew
    have hr' : Row m h esz (n + 0) (cs ++ (#[] : Array Value).toList) v := by simpa using hr
    have hgo : K v h := hK v h hr' (Nat.le_refl _) (fun b hb => .inl hb) (fun _ _ _ => rfl)
    obtain ⟨h0, ⟨rfl, rfl⟩ | ⟨b, h1, h2, rfl, h3⟩⟩ := hr
    · unfold aappend
      simp only [hx]
      rw [if_pos ⟨trivial, trivial⟩, if_pos trivial]
      exact hgo
    · unfold aappend
      simp only [hx]
      rw [if_pos (by omega), if_pos trivial]
      exact hgo
  · exact app_row hr hm hx hk hsz room fun v' h' r1 r2 r3 r4 => hK v' h' r1 (by omega) (fun b hb => .inr (by rw [r3] at hb; cases hb; exact Nat.le_refl _)) r4

theorem sl_src {h : Hp} {n : Nat} {cs : List Value} {v : Value} (hv : Sl h 1 n cs v) : srcCells h 1 v = some (n, cs.toArray) := by
  obtain ⟨h0, ⟨a, c, rfl, rfl⟩ | ⟨a, c, b, rfl, h1, h2, h3⟩⟩ := hv
  · have : cs = [] := List.length_eq_zero_iff.1 (by simpa using h0)
    subst this
    exact src_zero _ _ _ _
  · apply src_slice
    unfold Mini.rowAt
    rw [h1]
    simp only
    rw [if_pos (by omega)]
    congr 1
    apply Array.ext_getElem?
    intro i
    rw [Array.getElem?_extract]
    by_cases hi : i < n
    · rw [if_pos (by omega), h3 i (by omega)]; simp
    · rw [if_neg (by omega)]
      symm
      simp
      omega
section
variable {h : Hp} {K : Value → Hp → Prop} {p r d o : Nat} {M : List ByteArray}
theorem copyQ (q : Que h p M d o) (hp : p < h.next) (hK : ∀ b', Que (h.alloc b') h.next M d o → K (ptr h.next) (h.alloc b')) : ACall prog 16 [ptr p] h K := by
  obtain ⟨rg, f, m, hb, h1, h2, h3, h4, h5, h6, rfl⟩ := q
  refine acallF_of tb0 func16 rfl rfl mixed (by kernel_rfl) fun hwf => ?_
  simp -dsimp (disch := omega)
  refine isq_call hb (by omega) ?_
  have hb' := hb
  unfold qB at hb'
  simp -dsimp (disch := omega) [hb', qC_all, qC_one, qC_put]
  exact RetF.all (by simp) (hK (qB rg f m d o) ⟨rg, f, m, blks_alloc_eq _ _, h1, h2, h3, h4, h5, h6, rfl⟩)

/-- What a call of the document's queue changes: it alone. -/
theorem refSend_call {S : ByteArray} (hp : p < h.next) (rq : RefQ h p r M d o) (hS : (S.size : Int) ≤ 9223372036854775807) (k1 : o < S.size → K (.int .u8 3) h) (k2 : S.size ≤ o → M.length = d → K (.int .u8 1) h)
    (k3 : S.size ≤ o → M.length < d → ∀ h', RefQ h' p r (M ++ [S]) d o → Mod r h h' → K (.int .u8 0) h') : ACall prog 18 [ptr r, .string S] h K := by
  refine acallF_of tb0 func18 rfl rfl mixed (by kernel_rfl) fun hwf => ?_
  obtain ⟨vs, hb, hv, q1, q2, q3, q4, q5, q6, q7, q8⟩ := rq
  obtain ⟨va, vc, rfl⟩ := hv.slice
  unfold refC at hb
  obtain ⟨z, hz⟩ : ∃ z, z = S.size := ⟨_, rfl⟩
  rw [← hz] at k1 k2 k3 hS
  by_cases c1 : o < z
  · have c1' : (o : Int) < z := by omega
    simp -dsimp (disch := omega) [hb, ← hz, c1, c1']
    exact RetF.same hwf (by simp) (Nat.zero_le _) (fun _ _ => rfl) (k1 c1)
  · have c1' : ¬ (o : Int) < z := by omega
    by_cases c2 : M.length = d
    · have c2' : (d : Int) ≤ M.length := by omega
      have c2n : d ≤ M.length := by omega
      simp -dsimp (disch := omega) [hb, ← hz, c1, c1', c2', c2n]
      exact RetF.same hwf (by simp) (Nat.zero_le _) (fun _ _ => rfl) (k2 (by omega) c2)
    · have c2' : ¬ (d : Int) ≤ M.length := by omega
      have c2n : ¬ d ≤ M.length := by omega
      have k3 := k3 (by omega) (by omega)
      clear k1 k2
      simp -dsimp (disch := omega) [hb, ← hz, c1, c1', c2', c2n]
      refine app_any (Row.nil h.next h 1) (Nat.le_refl _) (sl_src hv) (by simp [strsC]) (by unfold ROOM; omega) ?_
      intro v1 h1 r1 n1 b1 s1
      have s1' : ∀ i, i < h.next → h1.blks i = h.blks i := fun i hi => s1 i hi (by simp [sblk])
      rw [Nat.zero_add, List.nil_append] at r1
      obtain ⟨va1, vc1, rfl⟩ := r1.slice
      have hb1 : h1.blks r = some ⟨#[.slice va M.length vc, .int .i64 d, .int .i64 o], 1, true⟩ := by rw [s1' _ q2]; exact hb
      simp -dsimp (disch := omega) [hb1]
      refine app_row (r1.alloc _) (by simp; omega) (src_slice _ _ _ _ _ #[.string S] (by simp (disch := omega))) (by omega) (by simp) (by unfold ROOM; omega) ?_
      intro v2 h2 r2 n2 b2 s2
      obtain ⟨va2, vc2, rfl⟩ := r2.slice
      have n2' : h2.next = h1.next + 2 := by rw [n2]; simp
      have vlt : ∀ i, i < h.next → sblk (.slice va1 M.length vc1) ≠ some i := fun i hi e => by have := (r1.blk _ e).1; omega
      have s2' : ∀ i, i < h.next → h2.blks i = h.blks i := fun i hi => by
        rw [s2 i (by simp; omega) (vlt i hi)]
        simp (disch := omega) [s1' i hi]
      have hb2 : h2.blks r = some ⟨#[.slice va M.length vc, .int .i64 d, .int .i64 o], 1, true⟩ := by rw [s2' _ q2]; exact hb
      simp -dsimp (disch := omega) [hb2]
      refine RetF.all (by simp) (k3 _ ⟨_, blks_set_eq _ _ _, ?_, q1, by show r < h2.next; omega, fun x hx => ?_, q4, q5, by simp; omega, fun x hx => ?_, row_cap r2⟩ ⟨by show h.next ≤ h2.next; omega, fun i hi hn => by rw [blks_set_ne _ _ _ _ hn]; exact s2' i hi⟩)
      · have : sblk (.slice va2 (M.length + 1) vc2) ≠ some r := fun e => by have := (r2.blk _ e).1; omega
        rw [List.length_append, strsC_append]
        exact row_sl (r2.set _ _ this)
      · have := r2.blk x hx
        exact ⟨by show x < h2.next; omega, by omega, by omega⟩
      · rcases List.mem_append.1 hx with h' | h'
        · exact q7 x h'
        · obtain rfl : x = S := by simpa using h'
          omega
theorem refRecv0 (rq : RefQ h p r [] d o) (hK : K (.tuple #[.string (txt []), .int .u8 4]) h) : ACall prog 15 [ptr r] h K := by
  refine acallF_of tb0 func15 rfl rfl mixed (by kernel_rfl) fun hwf => ?_
  obtain ⟨vs, hb, hv, q1, q2, q3, q4, q5, q6, q7, q8⟩ := rq
  obtain ⟨va, vc, rfl⟩ := hv.slice
  unfold refC at hb
  simp -dsimp (disch := omega) [hb]
  exact RetF.same hwf (by simp) (Nat.zero_le _) (fun _ _ => rfl) hK
theorem refRecvC {s : ByteArray} {a : Addr} {c : Nat} {b' : Blk} (hp : p < h.next) (hb : h.blks r = some ⟨#[.slice (some a) (M.length + 1) (2 * c), .int .i64 d, .int .i64 o], 1, true⟩) (hc : M.length + 1 ≤ c) (q1 : r ≠ p) (q2 : r < h.next) (hr : a.block ≠ r) (hap : a.block ≠ p) (hal : a.block < h.next)
    (hbb : h.blks a.block = some b') (hsz : a.off + (M.length + 1) ≤ b'.cells.size) (hat : ∀ j, j < M.length + 1 → b'.cells[a.off + j]? = (strsC (s :: M))[j]?) (q4 : d ≤ 16) (q5 : o ≤ 64) (q6 : M.length ≤ d) (q7 : ∀ x ∈ M, x.size ≤ 64)
    (hK : ∀ h', RefQ h' p r M d o → Mod r h h' → K (.tuple #[.string s, .int .u8 0]) h') : ACall prog 15 [ptr r] h K := by
  refine acallF_of tb0 func15 rfl rfl mixed (by kernel_rfl) fun hwf => ?_
  have h0 : b'.cells[a.off]? = some (.string s) := hat 0 (by omega)
  have hal0 : a.off < b'.cells.size := by omega
  obtain ⟨N, hN⟩ : ∃ N, N = M.length + 1 := ⟨_, rfl⟩
  rw [← hN] at hb hc hsz hat
  have hN0 : ¬ N = 0 := by omega
  obtain ⟨A, hA⟩ : ∃ A : Addr, A = if c = 1 then ⟨a.block, a.off, none⟩ else ⟨a.block, a.off + 1, none⟩ := ⟨_, rfl⟩
  have hsl : asliceRow a 1 N (2 * c) (some (.int .i64 1)) none none = some (.slice (some A) M.length (2 * (c - 1))) := by
    have b1 : bndD (some (.int .i64 1)) N 0 = some 1 := by simp [bndD, bnd]; omega
    unfold asliceRow
    simp only [show bndD none (2 * c / 2) N = some N from rfl, b1]
    rw [if_neg (by omega), show 2 * c / 2 = c by omega, hA, show N - 1 = M.length by omega]
  have hAb : A.block = a.block := by rw [hA]; split <;> rfl
  simp -dsimp (disch := omega) [hb, hbb, h0, hal0, hN0, hsl, -getElem?_pos]
  refine RetF.all (r := .tuple #[.string s, .int .u8 0]) (by simp) (hK _ ⟨_, blks_set_eq _ _ _, ⟨by simp [strsC], ?_⟩, q1, q2, fun x hx => ?_, q4, q5, q6, q7, fun a k c e => ?_⟩ ⟨Nat.le_refl _, fun i hi hn => blks_set_ne _ _ _ _ hn⟩)
  · rcases Nat.eq_zero_or_pos M.length with h00 | h00
    · exact .inl ⟨some A, 2 * (c - 1), by rw [h00], h00⟩
    · have hc1 : c ≠ 1 := by omega
      rw [if_neg hc1] at hA
      refine .inr ⟨A, _, b', rfl, by rw [hAb, blks_set_ne _ _ _ _ hr]; exact hbb, by rw [hA]; show a.off + 1 + M.length * 1 ≤ _; omega, fun j hj => ?_⟩
      rw [hA]
      show b'.cells[a.off + 1 + j]? = _
      rw [Nat.add_assoc, hat (1 + j) (by omega), Nat.add_comm 1 j]
      simp [strsC]
  · have : x = A.block := by simpa [sblk] using hx.symm
    rw [this, hAb]
    exact ⟨hal, hr, hap⟩
  · cases e; omega
theorem refRecv {s : ByteArray} (hp : p < h.next) (rq : RefQ h p r (s :: M) d o) (hK : ∀ h', RefQ h' p r M d o → Mod r h h' → K (.tuple #[.string s, .int .u8 0]) h') : ACall prog 15 [ptr r] h K := by
  obtain ⟨vs, hb, hv, q1, q2, q3, q4, q5, q6, q7, q8⟩ := rq
  obtain ⟨z1, ⟨_, _, _, z2⟩ | ⟨a, c, b', rfl, z3, z4, z5⟩⟩ := hv
  · cases z2
  · obtain ⟨y1, y2, y3⟩ := q3 _ rfl
    have y4 := q8 _ _ _ rfl
    have z4' : a.off + (M.length + 1) ≤ b'.cells.size := by simpa using z4
    have z5' : ∀ j, j < M.length + 1 → b'.cells[a.off + j]? = (strsC (s :: M))[j]? := fun j hj => z5 j (by simpa using hj)
    have q6' : M.length + 1 ≤ d := by simpa using q6
    have y4' : M.length + 1 ≤ c / 2 := by simpa using y4
    have q7' : ∀ x ∈ M, x.size ≤ 64 := fun x hx => q7 x (by simp [hx])
    have hb' : h.blks r = some ⟨#[.slice (some a) (M.length + 1) c, .int .i64 d, .int .i64 o], 1, true⟩ := hb
    obtain ⟨k, rfl | rfl⟩ : ∃ k, c = 2 * k ∨ c = 2 * k + 1 := ⟨c / 2, by omega⟩
    · exact refRecvC hp hb' (by omega) q1 q2 y2 y3 y1 z3 z4' z5' q4 q5 (by omega) q7' hK
    · refine ACall.openIn hb' fun c hc => ?_
      refine refRecvC (M := M) (p := p) (a := a) (c := c) (b' := b') hp (blks_set_eq _ _ _) (by omega) q1 q2 y2 y3 y1 (by rw [blks_set_ne _ _ _ _ y2]; exact z3) z4' z5' q4 q5 (by omega) q7' fun h' q hm => ?_
      exact hK h' q ⟨hm.le, fun i hi hn => (hm.same i hi hn).trans (blks_set_ne _ _ _ _ hn)⟩
theorem refCopy (rq : RefQ h p r M d o) (hK : ∀ h', (∀ p0, p0 < h.next → RefQ h' p0 h.next M d o) → Ext h h' → K (ptr h.next) h') : ACall prog 17 [ptr r] h K := by
  refine acallF_of tb0 func17 rfl rfl mixed (by kernel_rfl) fun hwf => ?_
  obtain ⟨vs, hb, hv, q1, q2, q3, q4, q5, q6, q7, q8⟩ := rq
  obtain ⟨va, vc, rfl⟩ := hv.slice
  unfold refC at hb
  simp -dsimp (disch := omega) [hb]
  refine app_any (Row.nil (h.next + 1) _ 1) (by simp) (sl_src (hv.mono fun b hb => blks_alloc_ne _ _ _ (by have := (q3 b hb).1; omega))) (by simp [strsC]) (by unfold ROOM; omega) ?_
  intro v1 h1 r1 n1 b1 s1
  rw [Nat.zero_add, List.nil_append] at r1
  have n1' : h.next + 1 ≤ h1.next := n1
  have s1' : ∀ i, i < h.next → h1.blks i = h.blks i := fun i hi => by rw [s1 i (by simp; omega) (by simp [sblk])]; exact blks_alloc_ne _ _ _ (by omega)
  have s1r : h1.blks h.next = some ⟨#[.slice none 0 0, .int .i64 d, .int .i64 o], 1, true⟩ := by rw [s1 _ (by simp) (by simp [sblk])]; exact blks_alloc_eq _ _
  obtain ⟨va1, vc1, rfl⟩ := r1.slice
  have vne : sblk (.slice va1 M.length vc1) ≠ some h.next := fun e => by have := (r1.blk _ e).1; omega
  simp -dsimp (disch := omega) [s1r]
  refine RetF.all (by simp) (hK _ (fun p0 hp0 => ⟨_, blks_set_eq _ _ _, row_sl (r1.set _ _ vne), by omega, by show h.next < h1.next; omega, fun x hx => ?_, q4, q5, q6, q7, row_cap r1⟩) ⟨by show h.next ≤ h1.next; omega, fun i hi => by rw [blks_set_ne _ _ _ _ (by omega)]; exact s1' i hi⟩)
  have := r1.blk x hx
  exact ⟨by show x < h1.next; omega, by omega, by omega⟩
/-- Another queue is changed. -/
theorem RefQ.old {h h' : Hp} {p p0 r : Nat} {M : List ByteArray} {d o : Nat} (A : RefQ h p0 r M d o) (B : RefQ h p r M d o) (hn : h.next ≤ h'.next) (hs : ∀ i, i < h.next → i ≠ p0 → h'.blks i = h.blks i) : RefQ h' p r M d o := by
  obtain ⟨vs, a1, a2, a3, a4, a5, _⟩ := A
  obtain ⟨vs', b1, b2, b3, b4, b5, rest⟩ := B
  rw [a1] at b1
  have e : vs = vs' := by
    have := (Option.some.inj b1)
    have h2 : refC vs d o = refC vs' d o := congrArg Blk.cells this
    have h3 : (refC vs d o)[0]? = (refC vs' d o)[0]? := by rw [h2]
    exact Option.some.inj h3
  subst e
  exact ⟨vs, by rw [hs r a4 a3]; exact a1, a2.mono fun b hb => hs b (a5 b hb).1 (a5 b hb).2.2, b3, by omega, fun b hb => ⟨by have := (a5 b hb).1; omega, (b5 b hb).2⟩, rest⟩
end
end Go.Proofs.Ytggohjlfhomafaa
