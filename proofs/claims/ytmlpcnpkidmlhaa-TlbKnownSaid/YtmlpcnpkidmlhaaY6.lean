/-
  A TLB of a list: Add.
-/
import Derived.Test.YtmlpcnpkidmlhaaY5
set_option linter.unusedSimpArgs false
set_option linter.unusedVariables false
set_option linter.unusedSectionVars false
namespace Go.Proofs.Ytmlpcnpkidmlhaa
set_option maxRecDepth 100000
open Go Go.Mini Go.Proofs.Try

theorem Sli.slice {h : Hp} {ob : Option Nat} {l : List Ent} {v : Value} (s : Sli h ob l v) : ∃ a c, v = .slice a l.length c := by
  rcases s.ex with ⟨_, rfl, rfl⟩ | ⟨b, n, _, rfl, _⟩
  · exact ⟨_, _, rfl⟩
  · exact ⟨_, _, rfl⟩
def rmL (l : List Ent) (e : Ent) : List Ent := l.filter fun x => !pgE e x
def addL (l : List Ent) (e : Ent) : List Ent := (if (rmL l e).length = 8 then (rmL l e).drop 1 else rmL l e) ++ [e]
section
variable {h : Hp} {K : Value → Hp → Prop}
theorem tadd_call {e : Ent} {tp : Nat} {ob : Option Nat} {l : List Ent} (T : Tl h tp ob l) (hm : mayB e = true) (hl : l.length ≤ 8)
    (hK : ∀ h' ob', Tl h' tp ob' (addL l e) → Ft h h' tp ob → (ob' = ob ∨ ∃ b, ob' = some b ∧ h.next ≤ b) → K (.int .i64 0) h') : ACall prog 11 [ptr tp, .agg (entA e)] h K := by
  refine acallF_of tb0 func11 rfl rfl mixed (by kernel_rfl) fun hwf => ?_
  have htl := T.lt
  obtain ⟨H, hH⟩ : ∃ H, H = h.alloc ⟨entA e, 1, true⟩ := ⟨_, rfl⟩
  have xH : Ext h H := by rw [hH]; exact Ext.alloc h _
  have hB : H.blks h.next = some ⟨entA e, 1, true⟩ := by rw [hH]; exact blks_alloc_eq _ _
  have hN : H.next = h.next + 1 := by rw [hH]; rfl
  have TH := T.ext xH
  have key := @may_call
  have hclo : ∀ b, ob = some b → Clo H b 23 [ptr h.next] (pgE e) l := fun b hb h' n' s' x _ K' k => by
    have hbl := T.bl b hb
    exact add1_call (by rw [s' _ (by omega) (by omega)]; exact hB) (by omega) k
  have hlm : (rmL l e).length ≤ l.length := List.length_filter_le _ _
  have hA : (entA e).extract 0 8 = entA e := rfl
  have hone : oneAll (entA e).toList = true := rfl
  obtain ⟨E, hE⟩ : ∃ E, E = entA e := ⟨_, rfl⟩
  have hEs : E.size = 8 := by rw [hE]; rfl
  have hput : putL #[.int .u64 0, .int .u64 0, .int .u64 0, .int .i64 0, .int .u64 0, .int .u64 0, .int .u64 0, .int .i64 0] 0 E.toList = E := by rw [hE]; exact put_none8 e
  have k1 := fun K' hk => key (h := H) (K := K') (e := e) hk
  rw [hm] at k1
  rw [← hE] at hB hA hone k1 hH ⊢
  simp -dsimp (disch := omega) [hone, hput, hEs]
  rw [← hH]
  refine is_tl TH ?_
  simp -dsimp (disch := omega) [hB, hA, hEs]
  refine k1 _ ?_
  simp -dsimp (disch := omega) [hB, hA, hEs]
  refine lose_call (f := 23) (cs := [ptr h.next]) TH (by omega) hclo fun h2 T2 F2 => ?_
  rw [show (l.filter fun x => !pgE e x) = rmL l e from rfl] at T2 ⊢
  have n2 := F2.le
  have hB2 : h2.blks h.next = some ⟨E, 1, true⟩ := (F2.same _ (by omega) (by omega) (fun q => by have := T.bl _ q; omega)).trans hB
  unfold addL at hK
  obtain ⟨m, hmm⟩ : ∃ m, m = rmL l e := ⟨_, rfl⟩
  rw [← hmm] at T2 hlm hK ⊢
  obtain ⟨v2, hv2, s2⟩ := T2.ex
  have tl2 := T2.lt
  have bl2 := T2.bl
  obtain ⟨a2, c2, rfl⟩ := s2.slice
  simp -dsimp (disch := omega) [hv2]
  by_cases h8 : m.length = 8
  · rw [if_pos h8] at hK
    have h8' : (m.length : Int) = 8 := by omega
    simp -dsimp (disch := omega) [h8, h8', hv2]
    rw [h8] at s2 hv2
    refine delete_call s2 h8 fun h3 v3 s3 F3 => ?_
    have n3 := F3.le
    have hv3 : h3.blks tp = some ⟨tlA (.slice a2 8 c2), 1, true⟩ := (F3.same _ tl2 T.ne).trans hv2
    have hB3 : h3.blks h.next = some ⟨E, 1, true⟩ := (F3.same _ (by omega) (fun q => by have := T.bl _ q; omega)).trans hB2
    obtain ⟨m1, hm1⟩ : ∃ m1, m1 = m.drop 1 := ⟨_, rfl⟩
    rw [← hm1] at s3 hK
    obtain ⟨a3, c3, rfl⟩ := s3.slice
    have hne : ¬ h.next = tp := by omega
    obtain ⟨h4, hh4⟩ : ∃ h4, h4 = h3.set tp ⟨tlA (.slice a3 m1.length c3), 1, true⟩ := ⟨_, rfl⟩
    have s4 : Sli h4 ob m1 (.slice a3 m1.length c3) := by rw [hh4]; exact s3.mono (by simp) fun b q => blks_set_ne _ _ _ _ fun z => T.ne (by rw [q, z])
    have hv4 : h4.blks tp = some ⟨tlA (.slice a3 m1.length c3), 1, true⟩ := by rw [hh4]; exact blks_set_eq _ _ _
    have hB4 : h4.blks h.next = some ⟨E, 1, true⟩ := by rw [hh4, blks_set_ne _ _ _ _ hne]; exact hB3
    have n4 : h4.next = h3.next := by rw [hh4]; simp
    have hh4' : h3.set tp ⟨#[.bool true, .slice a3 m1.length c3], 1, true⟩ = h4 := hh4.symm
    simp -dsimp (disch := omega) [hv3, hh4', hB3, hv4, hB4, hne, hA, hEs, hput, hone]
    refine app_ent (e := e) (s4.mono (by simp) fun b q => blks_alloc_ne _ _ _ (by have := s4.lt b q; omega)) (src_slice _ _ _ _ _ (entA e) (by simp (disch := omega) [hE, entA])) (by rw [hm1, List.length_drop]; omega) fun h6 ob6 v6 s6 F6 o6 => ?_
    have n6 := F6.le
    simp only [Hp.next_alloc] at n6
    obtain ⟨a6, c6, rfl⟩ := s6.slice
    have s6' : Sli h6 ob6 (m1 ++ [e]) (.slice a6 (m1.length + 1) c6) := by simpa using s6
    have hv6 : h6.blks tp = some ⟨tlA (.slice a3 m1.length c3), 1, true⟩ := by
      rw [F6.same _ (by simp; omega) T.ne, blks_alloc_ne _ _ _ (by omega)]
      exact hv4
    have hne6 : ob6 ≠ some tp := by
      rcases o6 with o6 | o6
      · rw [o6]; exact T.ne
      · rw [o6]; simp; omega
    simp -dsimp (disch := omega) [hv6]
    refine RetF.all (by simp) (hK _ ob6 ⟨⟨_, blks_set_eq _ _ _, s6'.mono (by simp) fun b q => blks_set_ne _ _ _ _ fun z => hne6 (by rw [q, z])⟩, by simp; omega, hne6⟩ ⟨by simp; omega, fun i i1 i2 i3 => ?_⟩ ?_)
    · rw [blks_set_ne _ _ _ _ i2, F6.same i (by simp; omega) i3, blks_alloc_ne _ _ _ (by omega)]
      rw [hh4, blks_set_ne _ _ _ _ i2, F3.same i (by omega) i3]
      exact (F2.same i (by omega) i2 i3).trans (xH.same i i1)
    · rcases o6 with o6 | o6
      · exact .inl o6
      · exact .inr ⟨_, o6, by simp; omega⟩
  · rw [if_neg h8] at hK
    have h8' : ¬ (m.length : Int) = 8 := by omega
    simp -dsimp (disch := omega) [h8, h8', hv2, hB2, hA, hEs, hput, hone]
    refine app_ent (e := e) (s2.mono (by simp) fun b q => blks_alloc_ne _ _ _ (by have := s2.lt b q; omega)) (src_slice _ _ _ _ _ (entA e) (by simp (disch := omega) [hE, entA])) (by omega) fun h6 ob6 v6 s6 F6 o6 => ?_
    have n6 := F6.le
    simp only [Hp.next_alloc] at n6
    obtain ⟨a6, c6, rfl⟩ := s6.slice
    have s6' : Sli h6 ob6 (m ++ [e]) (.slice a6 (m.length + 1) c6) := by simpa using s6
    have hv6 : h6.blks tp = some ⟨tlA (.slice a2 m.length c2), 1, true⟩ := by
      rw [F6.same _ (by simp; omega) T.ne, blks_alloc_ne _ _ _ (by omega)]
      exact hv2
    have hne6 : ob6 ≠ some tp := by
      rcases o6 with o6 | o6
      · rw [o6]; exact T.ne
      · rw [o6]; simp; omega
    simp -dsimp (disch := omega) [hv6]
    refine RetF.all (by simp) (hK _ ob6 ⟨⟨_, blks_set_eq _ _ _, s6'.mono (by simp) fun b q => blks_set_ne _ _ _ _ fun z => hne6 (by rw [q, z])⟩, by simp; omega, hne6⟩ ⟨by simp; omega, fun i i1 i2 i3 => ?_⟩ ?_)
    · rw [blks_set_ne _ _ _ _ i2, F6.same i (by simp; omega) i3, blks_alloc_ne _ _ _ (by omega)]
      exact (F2.same i (by omega) i2 i3).trans (xH.same i i1)
    · rcases o6 with o6 | o6
      · exact .inl o6
      · exact .inr ⟨_, o6, by simp; omega⟩
end
end Go.Proofs.Ytmlpcnpkidmlhaa
