/-
  What is dumped is loaded, and what is loaded is dumped so: the plain law; does.
-/
import Derived.Test.YtggohjlfhomafaaL2
set_option linter.unusedSimpArgs false
set_option linter.unusedVariables false
set_option linter.unusedSectionVars false
namespace Go.Proofs.Ytggohjlfhomafaa
open Go Go.Mini Go.Proofs.Try

theorem digs_one (n : Nat) (hn : n < 256) : digs (n : Int) 1 = [UInt8.ofNat n] := by
  have e : ((n : Int) / 256 ^ 0 % 256).toNat = n := by
    rw [Int.pow_zero, Int.ediv_one]; omega
  show [digAt n 0] = _
  unfold digAt
  rw [e]
theorem ofNat_lt (n : Nat) (hn : n < 256) : (UInt8.ofNat n).toNat = n := by
  rw [UInt8.toNat_ofNat']; omega
theorem ldF_tell (o : Nat) (ho : o ≤ 64) (r : List UInt8) : ∀ M : List ByteArray, (∀ s ∈ M, s.size ≤ o) → ldF o M.length (M.flatMap tell ++ r) = .ok (M, r) := by
  intro M
  induction M with
  | nil => intro _; rfl
  | cons s M ih =>
    intro h
    have hs := h s (by simp)
    have ih := ih fun x hx => h x (by simp [hx])
    have hn := ofNat_lt s.size (by omega)
    have hl : s.data.toList.length = s.size := rfl
    rw [List.flatMap_cons, tell, digs_one _ (by omega)]
    simp only [List.cons_append, List.nil_append, List.append_assoc, List.length_cons, ldF, hn]
    rw [if_neg (by omega), if_neg (by simp only [List.length_append, hl]; omega)]
    have e1 : (s.data.toList ++ (M.flatMap tell ++ r)).drop s.size = M.flatMap tell ++ r := by rw [← hl, List.drop_left]
    have e2 : (s.data.toList ++ (M.flatMap tell ++ r)).take s.size = s.data.toList := by rw [← hl, List.take_left]
    rw [e1, e2, ih]
    rfl
theorem load_dump {d o : Nat} (hd : d ≤ 16) (ho : o ≤ 64) {M : List ByteArray} (hM : M.length ≤ d) (h : ∀ s ∈ M, s.size ≤ o) : loadF d o (dumpOf M) = .ok M := by
  have hn := ofNat_lt M.length (by omega)
  have e := ldF_tell o ho [] M h
  rw [List.append_nil] at e
  unfold loadF dumpOf
  rw [digs_one _ (by omega)]
  simp only [List.cons_append, List.nil_append, hdR, toF, hn]
  rw [if_neg (by omega), e]
  rfl
theorem ldF_back (o : Nat) : ∀ (k : Nat) (r : List UInt8) (M : List ByteArray) (r' : List UInt8), ldF o k r = .ok (M, r') → r = M.flatMap tell ++ r' ∧ M.length = k := by
  intro k
  induction k with
  | zero => intro r M r' h; cases h; exact ⟨rfl, rfl⟩
  | succ k ih =>
    intro r M r' h
    cases r with
    | nil => cases h
    | cons n r =>
      simp only [ldF] at h
      split at h
      · cases h
      · split at h
        · cases h
        · rename_i hc
          split at h
          · rename_i L r2 hq
            cases h
            obtain ⟨e1, e2⟩ := ih _ _ _ hq
            refine ⟨?_, by simp [e2]⟩
            have hsz : (txt (r.take n.toNat)).size = n.toNat := by rw [txt_size, List.length_take]; omega
            have hlt := UInt8.toNat_lt n
            rw [List.flatMap_cons, tell, hsz, digs_one _ (by omega), txt_data, List.append_assoc, List.append_assoc, ← e1, List.take_append_drop]
            simp
          · cases h
theorem dump_load {d o : Nat} {L : List UInt8} {M : List ByteArray} (h : loadF d o L = .ok M) : dumpOf M = L := by
  rw [loadF_fin] at h
  split at h
  · cases h
  · cases L with
    | nil => cases h
    | cons m r =>
      have h' : finF (ldF o m.toNat r) = .ok M := h
      cases hq : ldF o m.toNat r with
      | error e => rw [hq] at h'; cases h'
      | ok x =>
        rw [hq] at h'
        obtain ⟨M', r'⟩ := x
        cases r' with
        | cons y l => cases h'
        | nil =>
          cases h'
          obtain ⟨e1, e2⟩ := ldF_back o _ _ _ _ hq
          have hlt := UInt8.toNat_lt m
          rw [List.append_nil] at e1
          unfold dumpOf
          rw [e2, digs_one _ (by omega), e1]
          simp

theorem set_same {h : Hp} {p : Nat} {b : Blk} (hb : h.blks p = some b) : h.set p b = h := by
  have : (h.set p b).blks = h.blks := by
    funext i
    rw [Hp.blks_set]
    split
    · rename_i e; rw [e, hb]
    · rfl
  cases h
  simp only [Hp.set] at this ⊢
  simp [this]
theorem sendW {h : Hp} {K : Value → Hp → Prop} {p d o : Nat} {M : List ByteArray} {S : ByteArray} (q : Que h p M d o) (hS : (S.size : Int) ≤ 9223372036854775807) (hK : ∀ (x : Nat) b' M', Que (h.set p b') p M' d o → K (.int .u8 x) (h.set p b')) : ACall prog 11 [ptr p, .string S] h K := by
  have hq := q
  obtain ⟨rg, f, m, hb, _⟩ := hq
  have e := set_same hb
  have hK0 : ∀ x : Nat, K (.int .u8 x) h := fun x => by have := hK x (qB rg f m d o) M (by rw [e]; exact q); rwa [e] at this
  exact sendQ q hS (fun _ => hK0 3) (fun _ _ => hK0 1) (fun _ _ b' q' => hK 0 b' _ q')
theorem recvW {h : Hp} {K : Value → Hp → Prop} {p d o : Nat} {M : List ByteArray} (q : Que h p M d o) (hK : ∀ s (x : Nat) b' M', Que (h.set p b') p M' d o → K (.tuple #[.string s, .int .u8 x]) (h.set p b')) : ACall prog 12 [ptr p] h K := by
  cases M with
  | nil =>
    have hq := q
    obtain ⟨rg, f, m, hb, _⟩ := hq
    have e := set_same hb
    refine recv0Q q ?_
    have := hK (txt []) 4 (qB rg f m d o) [] (by rw [e]; exact q)
    rwa [e] at this
  | cons s M => exact recvQ q fun b' q' => hK s 0 b' _ q'

section
variable {h : Hp} {K : Value → Hp → Prop} {p d o : Nat} {M : List ByteArray}
theorem does_call {l : List Act} {v : Value} (hok : ∀ e ∈ l, e.ok) (hl : l.length < 9223372036854775808) (hv : Sl h 2 l.length (actsC l) v) (hp : p < h.next) (hvp : sblk v ≠ some p) (q : Que h p M d o) (hK : ∀ h' M', Mod p h h' → Que h' p M' d o → K (.tuple #[]) h') : ACall prog 20 [ptr p, v] h K := by
  refine acallF_of tb0 func20 rfl rfl mixed (by kernel_rfl) fun hwf => ?_
  have hvb := sblk_lt (hwf.args v (by simp))
  obtain ⟨va, vc, rfl⟩ := hv.slice
  simp -dsimp (disch := omega)
  refine awp_loop (fun t h' => Mod p h h' ∧ ∃ (k : Nat) (M : List ByteArray), k ≤ l.length ∧ t 0 = ptr p ∧ t 1 = .slice va l.length vc ∧ t 4 = .int .i64 k ∧ Que h' p M d o) (fun t _ => l.length - ivN (t 4)) ?_ ?_
  · simp -dsimp (disch := omega)
    exact ⟨Mod.refl _ _, 0, by omega, rfl, M, q⟩
  · rintro t h' ⟨hm, k, M, hk, g0, g1, g4, hq⟩
    refine vcF_sound mixed (tb := tb0) _ (by kernel_rfl) ?_
    simp -dsimp (disch := omega) [g1, g4]
    refine CondF_dec (fun hc => ?_) (fun hc => ?_)
    · have hkl : k < l.length := by omega
      obtain ⟨e, hx⟩ : ∃ e, l[k]? = some e := ⟨l[k], List.getElem?_eq_getElem hkl⟩
      obtain ⟨a', c, b', q2, fa, s1, x1, y1⟩ := sl_el (f := actC) (n := 2) actC_len hv hx
      cases q2
      have hab : a'.block < h.next := hvb _ rfl
      have hap : a'.block ≠ p := fun e => hvp (by rw [sblk_some, e])
      rw [← hm.same _ hab hap] at fa
      have eo := hok e (List.mem_of_getElem? hx)
      have y0 : b'.cells[a'.off + k * 2]? = some (.int .u8 e.what) := y1 0 (by omega)
      have y2 : b'.cells[a'.off + k * 2 + 1]? = some (.string (txt e.s)) := y1 1 (by omega)
      clear x1 y1
      obtain ⟨w, s⟩ := e
      have wlt : w < 256 := eo.1
      have slt : s.length ≤ 9223372036854775807 := eo.2
      simp only at y0 y2
      obtain ⟨r, hr⟩ : ∃ r, r = w % 8 := ⟨_, rfl⟩
      have e1 : (w : Int) % 8 = r := by omega
      have e2 : Int.tmod (w : Int) 8 = r := by rw [Int.tmod_eq_emod_of_nonneg (by omega)]; exact e1
      obtain ⟨S, hS⟩ : ∃ S, S = txt s := ⟨_, rfl⟩
      have hSs : S.size ≤ 9223372036854775807 := by rw [hS]; exact slt
      rw [← hS] at y2
      have fin : ∀ {b2 : Blk} , Mod p h (h'.set p b2) := fun {b2} => ⟨hm.le, fun i hi hn => by rw [blks_set_ne _ _ _ _ hn]; exact hm.same i hi hn⟩
      rcases Nat.lt_or_ge r 4 with hr4 | hr4
      · have hr4' : (r : Int) < 4 := by omega
        simp -dsimp (disch := omega) [g0, g1, g4, fa, y0, y2, e1, e2, hr4, hr4', -getElem?_pos]
        refine sendW (S := S) hq (by omega) fun x b2 M2 q2 => ?_
        simp -dsimp (disch := omega) [g0, g1, g4]
        exact ⟨⟨fin, k + 1, by omega, by simp, _, q2⟩, by simp [ivN]; omega⟩
      · have hr4' : ¬ (r : Int) < 4 := by omega
        have hr4n : ¬ r < 4 := by omega
        rcases Nat.lt_or_ge r 7 with hr7 | hr7
        · have hr7' : (r : Int) < 7 := by omega
          simp -dsimp (disch := omega) [g0, g1, g4, fa, y0, y2, e1, e2, hr4n, hr4', hr7, hr7', -getElem?_pos]
          refine recvW hq fun s x b2 M2 q2 => ?_
          simp -dsimp (disch := omega) [g0, g1, g4]
          exact ⟨⟨fin, k + 1, by omega, by simp, _, q2⟩, by simp [ivN]; omega⟩
        · have hr7' : ¬ (r : Int) < 7 := by omega
          have hr7n : ¬ r < 7 := by omega
          simp -dsimp (disch := omega) [g0, g1, g4, fa, y0, y2, e1, e2, hr4n, hr4', hr7n, hr7', -getElem?_pos]
          exact ⟨⟨hm, k + 1, by omega, by simp, _, hq⟩, by simp [ivN]; omega⟩
    · simp -dsimp (disch := omega) [g1, g4]
      exact RetF.all (by simp) (hK h' M hm hq)
end
end Go.Proofs.Ytggohjlfhomafaa
