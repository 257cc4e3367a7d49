/-
  A device with its memory, and the document's: what they have in common stays.
-/
import Derived.Test.YtkbiadobkheafaaX4
set_option linter.unusedSimpArgs false
set_option linter.unusedVariables false
set_option linter.unusedSectionVars false
namespace Go.Proofs.Ytkbiadobkheafaa
open Go Go.Mini Go.Proofs.Try
set_option maxRecDepth 100000

structure Rel (d : Dev) (r : Rd) (M : Nat → Nat) (L : Rm.By) : Prop where
  rs : d.rs = r.se
  rc : d.rc = r.cm
  ra : d.ra = r.ad
  st : d.st = r.st
  dl : d.dl = r.dl
  run : d.st = 1 → d.us = r.wh ∧ d.uc = r.wt ∧ d.ua = r.we ∧ d.lf = max r.lf 1
  sec : ∀ n, n < 32 → bytesM d.S (n * 64) 64 = rbytes r n
  mem : ∀ i, i < 4096 → M i = Rm.look L i
theorem Rel.read {d : Dev} {r : Rd} {M : Nat → Nat} {L : Rm.By} (e : Rel d r M L) (off : Nat) (w : Int) : rreadR r off w = readD d off w := by
  unfold rreadR readD
  rw [e.rs, e.ra, e.rc, e.st]
theorem rbytes_congr {r r' : Rd} (h : r'.L = r.L) (n : Nat) : rbytes r' n = rbytes r n := by unfold rbytes; rw [h]
theorem Rel.write {d : Dev} {r : Rd} {M : Nat → Nat} {L : Rm.By} (e : Rel d r M L) (hd : d.st < 4) (off v : Nat) : Rel (writeD d off v) (rwriteR r off v) M L := by
  unfold writeD rwriteR
  split
  · exact ⟨rfl, e.rc, e.ra, e.st, e.dl, e.run, e.sec, e.mem⟩
  · split
    · exact ⟨e.rs, e.rc, rfl, e.st, e.dl, e.run, e.sec, e.mem⟩
    · split
      · unfold beginD rbeginR
        by_cases h : d.st = 1
        · rw [if_pos h, if_pos (e.st ▸ h)]; exact e
        · rw [if_neg h, if_neg (fun q => h (e.st.trans q))]
          exact ⟨e.rs, rfl, e.ra, rfl, e.dl, fun _ => ⟨e.rs, rfl, e.ra, by show max d.dl 1 = max r.dl 1; rw [e.dl]⟩, e.sec, e.mem⟩
      · split
        · unfold ackD rackR
          have hst := e.st
          by_cases h : d.st = 1
          · rw [if_pos h, if_neg (by omega)]; exact e
          · rw [if_neg h]
            by_cases h2 : r.st = 2 ∨ r.st = 3
            · rw [if_pos h2]
              exact ⟨e.rs, e.rc, e.ra, rfl, e.dl, fun q => by have : (0 : Nat) = 1 := q; omega, e.sec, e.mem⟩
            · rw [if_neg h2]
              exact ⟨e.rs, e.rc, e.ra, by show 0 = r.st; omega, e.dl, fun q => by have : (0 : Nat) = 1 := q; omega, e.sec, e.mem⟩
        · exact e
theorem Rel.write' {d : Dev} {r : Rd} {M : Nat → Nat} {L : Rm.By} (e : Rel d r M L) (hd : d.st < 4) (off v : Nat) (n : Int) : Rel (if mayD off n = true then writeD d off v else d) (if mayD off n = true then rwriteR r off v else r) M L := by
  split
  · exact e.write hd off v
  · exact e
theorem rwrite_ok {r : Rd} (h : r.ok) {off v : Nat} (hv : v < 18446744073709551616) : (rwriteR r off v).ok := by
  have hm : v % 4294967296 < 4294967296 := Nat.mod_lt _ (by omega)
  unfold rwriteR
  split
  · exact ⟨hm, h.cm, h.ad, h.st, h.wh, h.wt, h.we, h.lf, h.dl, h.L⟩
  · split
    · exact ⟨h.se, h.cm, hv, h.st, h.wh, h.wt, h.we, h.lf, h.dl, h.L⟩
    · split
      · unfold rbeginR
        split
        · exact h
        · exact ⟨h.se, hm, h.ad, by show 1 < 4; omega, h.se, hm, h.ad, h.dl, h.dl, h.L⟩
      · split
        · unfold rackR
          split
          · exact ⟨h.se, h.cm, h.ad, by show 0 < 4; omega, h.wh, h.wt, h.we, h.lf, h.dl, h.L⟩
          · exact h
        · exact h
theorem rwrite_ok' {r : Rd} (h : r.ok) {off v : Nat} {n : Int} (hv : v < 18446744073709551616) : (if mayD off n = true then rwriteR r off v else r).ok := by
  split
  · exact rwrite_ok h hv
  · exact h
theorem Rel.reset {d : Dev} {r : Rd} {M : Nat → Nat} {L : Rm.By} (e : Rel d r M L) : Rel (resetD d) (rresetR r) M L := ⟨rfl, rfl, rfl, rfl, e.dl, fun q => by have : (0 : Nat) = 1 := q; omega, e.sec, e.mem⟩
theorem rreset_ok {r : Rd} (h : r.ok) : (rresetR r).ok := ⟨by show 0 < 4294967296; omega, by show 0 < 4294967296; omega, by show 0 < 18446744073709551616; omega, by show 0 < 4; omega, by show 0 < 4294967296; omega, by show 0 < 4294967296; omega, by show 0 < 18446744073709551616; omega, by show 0 < 4294967296; omega, h.dl, h.L⟩
theorem Rel.delay {d : Dev} {r : Rd} {M : Nat → Nat} {L : Rm.By} (e : Rel d r M L) (n : Nat) : Rel { d with dl := n } { r with dl := n } M L := ⟨e.rs, e.rc, e.ra, e.st, rfl, e.run, e.sec, e.mem⟩
theorem rdelay_ok {r : Rd} (h : r.ok) {n : Nat} (hn : n < 4294967296) : ({ r with dl := n } : Rd).ok := ⟨h.se, h.cm, h.ad, h.st, h.wh, h.wt, h.we, h.lf, hn, h.L⟩
/-! Ticks. -/
theorem Rel.ends {d : Dev} {r : Rd} {M : Nat → Nat} {L : Rm.By} (e : Rel d r M L) : endsB d ↔ r.st = 1 ∧ ¬ 1 < r.lf := by
  unfold endsB
  rw [← e.st]
  constructor
  · rintro ⟨h1, h2⟩; have := (e.run h1).2.2.2; exact ⟨h1, by omega⟩
  · rintro ⟨h1, h2⟩; have := (e.run h1).2.2.2; exact ⟨h1, by omega⟩
theorem Rel.idle {d : Dev} {r : Rd} {M : Nat → Nat} {L : Rm.By} (e : Rel d r M L) (h : r.st ≠ 1) (N : Nat) : tickD d M N = d ∧ tickM d M N = M ∧ tickN d = d := by
  have h' : d.st ≠ 1 := by rw [e.st]; exact h
  refine ⟨tick_idle h', ?_, by unfold tickN; rw [if_pos h']⟩
  unfold tickM
  rw [if_neg (fun q => h' q.1)]
theorem Rel.go {d : Dev} {r : Rd} {M : Nat → Nat} {L : Rm.By} (e : Rel d r M L) (h : r.st = 1) (hl : 1 < r.lf) (N : Nat) : Rel (tickD d M N) (r.wlf (r.lf - 1)) M L ∧ tickM d M N = M ∧ tickN d = tickD d M N := by
  have h' : d.st = 1 := by rw [e.st]; exact h
  obtain ⟨r1, r2, r3, r4⟩ := e.run h'
  have hl' : 1 < d.lf := by omega
  rw [tick_go h' hl']
  refine ⟨⟨e.rs, e.rc, e.ra, e.st, e.dl, fun _ => ⟨r1, r2, r3, by show d.lf - 1 = max (r.lf - 1) 1; omega⟩, e.sec, e.mem⟩, ?_, by unfold tickN; rw [if_neg (by omega), if_pos hl']⟩
  unfold tickM
  rw [if_neg (fun q => by have := q.2; omega)]
theorem Rel.endN {d : Dev} {r : Rd} {M : Nat → Nat} {L : Rm.By} (e : Rel d r M L) (h : r.st = 1) (hl : ¬ 1 < r.lf) : Rel (tickN d) ((r.wlf 0).wst 3) M L := by
  have h' : d.st = 1 := by rw [e.st]; exact h
  have r4 := (e.run h').2.2.2
  unfold tickN
  rw [if_neg (by omega), if_neg (by omega)]
  exact ⟨e.rs, e.rc, e.ra, rfl, e.dl, fun q => by have : (3 : Nat) = 1 := q; omega, e.sec, e.mem⟩
theorem Rel.fits {d : Dev} {r : Rd} {M : Nat → Nat} {L : Rm.By} (e : Rel d r M L) (h : r.st = 1) (N : Nat) : Ytkbiadobkheafaa.fits d N ↔ rfits r N := by
  obtain ⟨r1, r2, r3, r4⟩ := e.run (e.st.trans h)
  unfold Ytkbiadobkheafaa.fits rfits
  rw [r1, r3]
theorem bytes_takeO {S : Nat → Nat} {s n : Nat} {M : Nat → Nat} {x : Nat} (h : n ≠ s) : bytesM (takeS S s M x) (n * 64) 64 = bytesM S (n * 64) 64 := by
  apply List.ext_getElem?
  intro i
  rcases Nat.lt_or_ge i 64 with hi | hi
  · rw [bytesM_at _ _ _ _ hi, bytesM_at _ _ _ _ hi]
    unfold takeS
    rw [if_neg (by omega)]
  · rw [List.getElem?_eq_none (by rw [bytesM_length]; omega), List.getElem?_eq_none (by rw [bytesM_length]; omega)]
theorem bytes_eq {M M' : Nat → Nat} {x n : Nat} (h : ∀ i, i < n → M (x + i) = M' (x + i)) : bytesM M x n = bytesM M' x n := by
  unfold bytesM
  apply List.map_congr_left
  intro i hi
  rw [h i (List.mem_range.1 hi)]
theorem Rel.end1 {d : Dev} {r : Rd} {M : Nat → Nat} {L : Rm.By} (e : Rel d r M L) (h : r.st = 1) (hl : ¬ 1 < r.lf) (h1 : r.wt = 1) (hf : rfits r 4096) : Rel (tickD d M 4096) ((r.wlf 0).wst 2) (tickM d M 4096) (Rm.setN L r.we (fun j => (((rbytes r r.wh)[j]?).getD 0).toNat) 64) := by
  have hE := e.ends.2 ⟨h, hl⟩
  have hf' := (e.fits h 4096).2 hf
  obtain ⟨r1, r2, r3, r4⟩ := e.run hE.1
  rw [tick_end hE.1 (by have := hE.2; omega)]
  unfold tickM endD endM
  rw [if_pos hE, if_neg (fun q => by omega), if_pos ⟨by omega, hf'⟩, if_pos ⟨by omega, hf'⟩]
  refine ⟨e.rs, e.rc, e.ra, rfl, e.dl, fun q => by have : (2 : Nat) = 1 := q; omega, e.sec, fun i hi => ?_⟩
  rw [Rm.look_setN, r3, r1, e.sec _ hf.1]
  unfold lay
  have hl64 : (rbytes r r.wh).length = 64 := by rw [← e.sec _ hf.1, bytesM_length]
  rw [hl64]
  split
  · rfl
  · exact e.mem i hi
theorem Rel.end2 {d : Dev} {r : Rd} {M : Nat → Nat} {L : Rm.By} (e : Rel d r M L) (h : r.st = 1) (hl : ¬ 1 < r.lf) (h2 : r.wt = 2) (hf : rfits r 4096) : Rel (tickD d M 4096) (((r.wlf 0).wL r.wh (bytesM (Rm.look L) r.we 64)).wst 2) M L ∧ tickM d M 4096 = M := by
  have hE := e.ends.2 ⟨h, hl⟩
  have hf' := (e.fits h 4096).2 hf
  obtain ⟨r1, r2, r3, r4⟩ := e.run hE.1
  rw [tick_end hE.1 (by have := hE.2; omega)]
  unfold tickM endD endM
  rw [if_pos hE, if_pos ⟨by omega, hf'⟩, if_neg (fun q => by omega)]
  refine ⟨⟨e.rs, e.rc, e.ra, rfl, e.dl, fun q => by have : (2 : Nat) = 1 := q; omega, fun n hn => ?_, e.mem⟩, rfl⟩
  show bytesM (takeS d.S d.us M d.ua) (n * 64) 64 = rbytes _ n
  unfold rbytes
  show _ = if updL r.L r.wh (bytesM (Rm.look L) r.we 64) n = [] then List.replicate 64 0 else updL r.L r.wh (bytesM (Rm.look L) r.we 64) n
  unfold updL
  have hx := hf.2
  by_cases hns : n = r.wh
  · rw [hns, if_pos rfl, ← r1, bytes_take, if_neg (fun q => by have := congrArg List.length q; rw [bytesM_length] at this; simp at this), r3]
    exact bytes_eq fun i hi => e.mem _ (by omega)
  · rw [if_neg hns, bytes_takeO (by rw [r1]; exact hns), e.sec n hn]
    rfl
theorem Rel.end3 {d : Dev} {r : Rd} {M : Nat → Nat} {L : Rm.By} (e : Rel d r M L) (h : r.st = 1) (hl : ¬ 1 < r.lf) (hn : ¬ ((r.wt = 1 ∨ r.wt = 2) ∧ rfits r 4096)) : Rel (tickD d M 4096) ((r.wlf 0).wst 3) M L ∧ tickM d M 4096 = M := by
  have hE := e.ends.2 ⟨h, hl⟩
  have hf' := e.fits h 4096
  obtain ⟨r1, r2, r3, r4⟩ := e.run hE.1
  rw [tick_end hE.1 (by have := hE.2; omega)]
  unfold tickM endD endM
  have n1 : ¬ (d.uc = 1 ∧ Ytkbiadobkheafaa.fits d 4096) := fun q => hn ⟨.inl (by omega), hf'.1 q.2⟩
  have n2 : ¬ (d.uc = 2 ∧ Ytkbiadobkheafaa.fits d 4096) := fun q => hn ⟨.inr (by omega), hf'.1 q.2⟩
  rw [if_pos hE, if_neg n2, if_neg n1, if_neg n1]
  exact ⟨⟨e.rs, e.rc, e.ra, rfl, e.dl, fun q => by have : (3 : Nat) = 1 := q; omega, e.sec, e.mem⟩, rfl⟩
theorem wlf_ok {r : Rd} (h : r.ok) {n : Nat} (hn : n < 4294967296) : (r.wlf n).ok := ⟨h.se, h.cm, h.ad, h.st, h.wh, h.wt, h.we, hn, h.dl, h.L⟩
theorem wst_ok {r : Rd} (h : r.ok) {n : Nat} (hn : n < 4) : (r.wst n).ok := ⟨h.se, h.cm, h.ad, hn, h.wh, h.wt, h.we, h.lf, h.dl, h.L⟩
theorem wL_ok {r : Rd} (h : r.ok) {n : Nat} {t : List UInt8} (ht : t.length = 64) : (r.wL n t).ok := ⟨h.se, h.cm, h.ad, h.st, h.wh, h.wt, h.we, h.lf, h.dl, fun k => by
  show updL r.L n t k = [] ∨ _
  unfold Rd.wL updL
  by_cases hk : k = n
  · rw [if_pos hk]; exact .inr (by simp only [hk, if_true]; exact ht)
  · rw [if_neg hk]; simp only [hk, if_false]; exact h.L k⟩
end Go.Proofs.Ytkbiadobkheafaa
