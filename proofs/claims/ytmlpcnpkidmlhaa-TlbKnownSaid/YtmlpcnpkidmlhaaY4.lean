/-
  Lists of entries: Delete of the first of eight; a TLB's list; lose.
-/
import Derived.Test.YtmlpcnpkidmlhaaY3
set_option linter.unusedSimpArgs false
set_option linter.unusedVariables false
set_option linter.unusedSectionVars false
namespace Go.Proofs.Ytmlpcnpkidmlhaa
set_option maxRecDepth 100000
open Go Go.Mini Go.Proofs.Try

theorem asl_mid {b n L i j : Nat} (hij : i ≤ j) (hi : i < n) (hj : j ≤ n) : asliceRow ⟨b, 0, none⟩ 8 L (2 * n + 1) (some (.int .i64 (i : Nat))) (some (.int .i64 (j : Nat))) none = some (.slice (some ⟨b, i * 8, none⟩) (j - i) (2 * (n - i) + 1)) := by
  unfold asliceRow
  have e3 : (2 * n + 1) / 2 = n := by omega
  have e1 : bndD (some (.int .i64 (j : Nat))) n L = some j := by simp [bndD, bnd]; omega
  have e2 : bndD (some (.int .i64 (i : Nat))) j 0 = some i := by simp [bndD, bnd]; omega
  simp only [e3, e1, e2]
  rw [if_pos (by omega), if_neg (by omega)]
  simp
theorem app_shift {h : Hp} {b n c : Nat} {l R : List Ent} {e0 : Ent} {m : List Ent} {last : Ent} {K : Value → Hp → Prop} {u : Tag K} (hb : h.blks b = some ⟨(entsC (e0 :: l ++ R)).toArray, 8, true⟩) (hl : e0 :: l = m ++ [last]) (hR : (e0 :: l ++ R).length = n) (h0 : 0 < l.length)
    (hK : K (.slice (some ⟨b, 0, none⟩) l.length (2 * n + 1)) (h.set b ⟨(entsC (l ++ ([last] ++ R))).toArray, 8, true⟩)) : OptF (aappend h 8 64 (.slice (some ⟨b, 0, none⟩) 0 (2 * n + 1)) (.slice (some ⟨b, 1 * 8, none⟩) l.length c)) K u := by
  have hm : m.length = l.length := by have := congrArg List.length hl; simp at this; omega
  have hsz : (entsC (e0 :: l ++ R)).toArray.size = n * 8 := by rw [List.size_toArray, entsC_length, hR]
  have hln : l.length + 1 ≤ n := by rw [← hR]; simp
  have hx : srcCells h 8 (.slice (some ⟨b, 1 * 8, none⟩) l.length c) = some (l.length, (entsC l).toArray) := by
    refine src_slice _ _ _ _ _ _ ?_
    unfold Mini.rowAt
    simp only [hb]
    rw [if_pos (by rw [hsz]; omega)]
    congr 1
    apply Array.ext'
    rw [List.cons_append, entsC_cons, entsC_append]
    have q1 : (entL e0).length = 8 := rfl
    have q2 := entsC_length l
    simp [List.extract_eq_take_drop, q1, ← q2]
  unfold aappend
  simp only [hx]
  have e3 : (2 * n + 1) / 2 = n := by omega
  rw [e3, if_pos (by omega), if_neg (by omega), hb]
  simp only
  rw [if_pos ⟨trivial, by rw [hsz]; omega⟩]
  have e4 : Blk.put ⟨(entsC (e0 :: l ++ R)).toArray, 8, true⟩ (0 + 0 * 8) (entsC l).toArray.toList = ⟨(entsC (l ++ ([last] ++ R))).toArray, 8, true⟩ := by
    have := ents_put [] m l ([last] ++ R) hm
    unfold Blk.put
    rw [List.nil_append, List.nil_append] at this
    rw [show e0 :: l ++ R = m ++ ([last] ++ R) from by rw [hl]; simp]
    exact congrArg (fun c => (⟨c, 8, true⟩ : Blk)) this
  rw [e4, Nat.zero_add]
  exact hK
section
variable {h : Hp} {K : Value → Hp → Prop}
theorem delete_call {ob : Option Nat} {l : List Ent} {v : Value} (s : Sli h ob l v) (h8 : l.length = 8) (hK : ∀ h' v', Sli h' ob (l.drop 1) v' → Fb h h' ob → K v' h') : ACall prog 25 [v, .int .i64 0, .int .i64 1] h K := by
  refine acallF_of tb0 func25 rfl rfl mixed (by kernel_rfl) fun hwf => ?_
  rcases s.ex with ⟨rfl, rfl, rfl⟩ | ⟨b, n, rfl, rfl, L, hn⟩
  · cases h8
  · obtain ⟨R, hR, hb⟩ := L.ex
    have hlt := L.lt
    have hle := L.le
    obtain ⟨e0, l', rfl⟩ : ∃ e l', l = e :: l' := by
      cases l with
      | nil => cases h8
      | cons e l' => exact ⟨e, l', rfl⟩
    have h7 : l'.length = 7 := by simpa using h8
    obtain ⟨m, last, hm⟩ : ∃ m x, e0 :: l' = m ++ [x] := ⟨_, _, (List.dropLast_concat_getLast (by simp)).symm⟩
    rw [h8] at hle ⊢
    have s0 : ∃ v, asliceRow ⟨b, 0, none⟩ 8 8 (2 * n + 1) (some (.int .i64 0)) (some (.int .i64 1)) (some (.int .i64 8)) = some v := by
      have e3 : (2 * n + 1) / 2 = n := by omega
      have e1 : bnd (.int .i64 8) n = some 8 := by simp [bnd]; omega
      have e2 : bnd (.int .i64 1) 8 = some 1 := by simp [bnd]
      have e4 : bndD (some (.int .i64 0)) 1 0 = some 0 := by simp [bndD, bnd]
      unfold asliceRow
      simp only [e3, e1, e2, e4]
      exact ⟨_, rfl⟩
    obtain ⟨v0, s0⟩ := s0
    have s1 := asl_head (b := b) (n := n) (L := 8) (i := 0) (by omega)
    have s2 := asl_tail (b := b) (n := n) (L := 8) (i := 1) (by omega) (by omega)
    have s3 := asl_mid (b := b) (n := n) (L := 8) (i := 7) (j := 8) (by omega) (by omega) (by omega)
    have s1' : asliceRow ⟨b, 0, none⟩ 8 8 (2 * n + 1) none (some (.int .i64 0)) none = some (.slice (some ⟨b, 0, none⟩) 0 (2 * n + 1)) := s1
    have s2' : asliceRow ⟨b, 0, none⟩ 8 8 (2 * n + 1) (some (.int .i64 1)) none none = some (.slice (some ⟨b, 1 * 8, none⟩) l'.length (2 * (n - 1) + 1)) := by rw [h7]; exact s2
    simp -dsimp (disch := omega) [s0, s1', s2']
    refine app_shift hb hm hR (by omega) ?_
    rw [h7]
    have s3' : asliceRow ⟨b, 0, none⟩ 8 7 (2 * n + 1) (some (.int .i64 7)) (some (.int .i64 8)) none = some (.slice (some ⟨b, 7 * 8, none⟩) 1 (2 * (n - 7) + 1)) := asl_mid (b := b) (n := n) (L := 7) (i := 7) (j := 8) (by omega) (by omega) (by omega)
    simp -dsimp (disch := omega) [s3']
    refine aclear_ents (i := 7) (m := 1) (A := l') (M := [last]) (C := R) (by rw [blks_set_eq]; rfl) h7 rfl (by omega) ?_
    simp -dsimp (disch := omega)
    refine RetF.all (by simp) (hK _ (.slice (some ⟨b, 0, none⟩) 7 (2 * n + 1)) ⟨.inr ⟨b, n, rfl, by simp [h7], ⟨⟨List.replicate 1 zeroE ++ R, ?_, ?_⟩, by simpa using hlt⟩, hn⟩⟩ ⟨by simp, fun i _ hi => ?_⟩)
    · rw [← hR]; simp; omega
    · rw [blks_set_eq]; rfl
    · have : ¬ i = b := fun q => hi (by rw [q])
      simp [Hp.blks_set, this]
end
/-- A TLB: what it keeps. -/
structure Tl (h : Hp) (tp : Nat) (ob : Option Nat) (l : List Ent) : Prop where
  ex : ∃ v, h.blks tp = some ⟨tlA v, 1, true⟩ ∧ Sli h ob l v
  lt : tp < h.next
  ne : ob ≠ some tp
/-- Where only a TLB and its list changed. -/
structure Ft (h h' : Hp) (tp : Nat) (ob : Option Nat) : Prop where
  le : h.next ≤ h'.next
  same : ∀ i, i < h.next → i ≠ tp → ob ≠ some i → h'.blks i = h.blks i
theorem Ft.refl (h : Hp) (tp : Nat) (ob : Option Nat) : Ft h h tp ob := ⟨Nat.le_refl _, fun _ _ _ _ => rfl⟩
theorem Ft.ext {h h' : Hp} {tp : Nat} {ob : Option Nat} (x : Ext h h') : Ft h h' tp ob := ⟨x.le, fun i hi _ _ => x.same i hi⟩
theorem Tl.mono {h h' : Hp} {tp : Nat} {ob : Option Nat} {l : List Ent} (T : Tl h tp ob l) (hn : h.next ≤ h'.next) (h1 : h'.blks tp = h.blks tp) (h2 : ∀ b, ob = some b → h'.blks b = h.blks b) : Tl h' tp ob l := by
  obtain ⟨v, hv, s⟩ := T.ex
  exact ⟨⟨v, by rw [h1]; exact hv, s.mono hn h2⟩, Nat.lt_of_lt_of_le T.lt hn, T.ne⟩
theorem Tl.ext {h h' : Hp} {tp : Nat} {ob : Option Nat} {l : List Ent} (T : Tl h tp ob l) (x : Ext h h') : Tl h' tp ob l :=
  T.mono x.le (x.same _ T.lt) fun b hb => by obtain ⟨v, _, s⟩ := T.ex; exact x.same b (s.lt b hb)
theorem Tl.bl {h : Hp} {tp : Nat} {ob : Option Nat} {l : List Ent} (T : Tl h tp ob l) : ∀ b, ob = some b → b < h.next := by obtain ⟨v, _, s⟩ := T.ex; exact s.lt
section
variable {h : Hp} {K : Value → Hp → Prop}
theorem is_tl {tp : Nat} {ob : Option Nat} {l : List Ent} (T : Tl h tp ob l) (hK : K (.bool true) h) : ACall prog 21 [ptr tp] h K := by
  obtain ⟨v, hv, _⟩ := T.ex
  exact is_call hv hK
theorem lose_call {p : Ent → Bool} {tp f : Nat} {ob : Option Nat} {l : List Ent} {cs : List Value} (T : Tl h tp ob l) (hl : l.length < 900000) (hc : ∀ b, ob = some b → Clo h b f cs p l) (hK : ∀ h', Tl h' tp ob (l.filter fun e => !p e) → Ft h h' tp ob → K (.int .i64 ((l.length - (l.filter fun e => !p e).length : Nat) : Int)) h') : ACall prog 22 [ptr tp, fnV f cs] h K := by
  refine acallF_of tb0 func22 rfl rfl mixed (by kernel_rfl) fun hwf => ?_
  obtain ⟨v, hv, s⟩ := T.ex
  have hfl := List.length_filter_le (fun e => !p e) l
  have htl := T.lt
  rcases s.ex with ⟨rfl, rfl, rfl⟩ | ⟨b, n, rfl, rfl, L, hn⟩
  · have hss := set_self hv
    simp -dsimp (disch := omega) [hv]
    refine is_call hv ?_
    simp -dsimp (disch := omega) [hv]
    refine del_nil ?_ (fun x hx => by cases hx)
    simp -dsimp (disch := omega) [hv, hss]
    exact RetF.all (by simp) (hK h T (Ft.refl _ _ _))
  · have hbt : b ≠ tp := fun e => T.ne (by rw [e])
    have hbt' : ¬ tp = b := fun e => hbt e.symm
    simp -dsimp (disch := omega) [hv]
    refine is_call hv ?_
    simp -dsimp (disch := omega) [hv]
    refine del_call L hn (hc b rfl) fun h2 L2 n2 s2 => ?_
    have hv2 : h2.blks tp = some ⟨tlA (.slice (some ⟨b, 0, none⟩) l.length (2 * n + 1)), 1, true⟩ := (s2 tp htl hbt').trans hv
    obtain ⟨m, hm⟩ : ∃ m, m = (l.filter fun e => !p e).length := ⟨_, rfl⟩
    have hcast : (l.length : Int) - m = ((l.length - m : Nat) : Int) := by omega
    rw [← hm] at hK hfl ⊢
    simp -dsimp (disch := omega) [hv2, hcast]
    refine RetF.all (by simp) (hK _ ⟨⟨_, blks_set_eq _ _ _, ⟨.inr ⟨b, n, rfl, by rw [hm], L2.mono (by simp) (blks_set_ne _ _ _ _ hbt), hn⟩⟩⟩, by simp; omega, T.ne⟩ ⟨by simp; omega, fun i hi h1 h2 => ?_⟩)
    rw [blks_set_ne _ _ _ _ h1]
    exact s2 i hi (fun e => h2 (by rw [e]))
end
end Go.Proofs.Ytmlpcnpkidmlhaa
