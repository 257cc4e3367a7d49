/-
  A block device: given, works.
-/
import Derived.Test.YtkbiadobkheafaaU9
set_option linter.unusedSimpArgs false
set_option linter.unusedVariables false
set_option linter.unusedSectionVars false
namespace Go.Proofs.Ytkbiadobkheafaa
open Go Go.Mini Go.Proofs.Try
set_option maxRecDepth 100000

theorem beginD_ok {d : Dev} (h : d.ok) {c : Nat} (hc : c < 4294967296) : (beginD d c).ok := by
  unfold beginD
  split
  · exact h
  · exact ⟨h.rs, hc, h.ra, h.rs, hc, h.ra, by show 1 < 4; omega, by have := h.dl; show max d.dl 1 < 4294967296; omega, h.dl, h.S, fun _ => by show 0 < max d.dl 1; omega⟩
theorem ackD_ok {d : Dev} (h : d.ok) : (ackD d).ok := by
  unfold ackD
  split
  · exact h
  · exact ⟨h.rs, h.rc, h.ra, h.us, h.uc, h.ua, by show 0 < 4; omega, h.lf, h.dl, h.S, fun q => by have : (0 : Nat) = 1 := q; omega⟩
theorem writeD_ok {d : Dev} (h : d.ok) {off v : Nat} (hv : v < 18446744073709551616) : (writeD d off v).ok := by
  have hm : v % 4294967296 < 4294967296 := Nat.mod_lt _ (by omega)
  unfold writeD
  split
  · exact ⟨hm, h.rc, h.ra, h.us, h.uc, h.ua, h.st, h.lf, h.dl, h.S, h.run⟩
  · split
    · exact ⟨h.rs, h.rc, hv, h.us, h.uc, h.ua, h.st, h.lf, h.dl, h.S, h.run⟩
    · split
      · exact beginD_ok h hm
      · split
        · exact ackD_ok h
        · exact h
theorem dl_ok {d : Dev} (h : d.ok) {n : Nat} (hn : n < 4294967296) : ({ d with dl := n } : Dev).ok := ⟨h.rs, h.rc, h.ra, h.us, h.uc, h.ua, h.st, h.lf, hn, h.S, h.run⟩
theorem resetD_ok {d : Dev} (h : d.ok) : (resetD d).ok := ⟨by show 0 < 4294967296; omega, by show 0 < 4294967296; omega, by show 0 < 18446744073709551616; omega, by show 0 < 4294967296; omega, by show 0 < 4294967296; omega, by show 0 < 18446744073709551616; omega, by show 0 < 4; omega, by show 0 < 4294967296; omega, h.dl, h.S, fun q => by have : (0 : Nat) = 1 := q; omega⟩

def M128 : Nat → Nat := lay (fun _ => 0) 0 (lett 128)
def gD0 : Dev := writeD dev0 0 3
def gD1 : Dev := writeD gD0 8 1
def gD2 : Dev := writeD gD1 16 2
/-- The chapter's device. -/
def givenD : Dev := ⟨3, 2, 1, 3, 2, 1, 2, 0, 0, takeS (fun _ => 0) 3 M128 1⟩
theorem gD2_eq : gD2 = ⟨3, 2, 1, 3, 2, 1, 1, 1, 0, fun _ => 0⟩ := rfl
theorem gD2_ok : gD2.ok := writeD_ok (writeD_ok (writeD_ok dev0_ok (by omega)) (by omega)) (by omega)
theorem given_tick : tickD gD2 M128 4096 = givenD := by
  rw [gD2_eq]
  unfold tickD
  rw [if_neg (by show ¬ (1 ≠ 1); omega), if_neg (by show ¬ (1 < 1); omega)]
  unfold endD
  rw [if_pos ⟨rfl, by show 3 < 32; omega, by show 1 + 64 ≤ 4096; omega⟩]
  rfl
theorem given_tickM : tickM gD2 M128 4096 = M128 := by
  rw [gD2_eq]
  unfold tickM
  rw [if_pos ⟨rfl, by show 1 ≤ 1; omega⟩]
  unfold endM
  rw [if_neg (fun q => by have : (2 : Nat) = 1 := q.1; omega)]
section
variable {h : Hp} {K : Value → Hp → Prop} {p : Nat} {d : Dev} {pm b N C : Nat} {M : Nat → Nat} {a : Nat} {w : Int}
/-- A write that is taken. -/
theorem wr_call {off v : Nat} {n : Int} (m : Dm h p d pm b N C M a w) (ho : off < 18446744073709551616) (hv : v < 18446744073709551616) (h1 : mayD off n = false → K (.bool false) h) (h2 : mayD off n = true → ∀ h', Dm h' p (writeD d off v) pm b N C M a w → Fr h h' (fun i => i = p) → K (.bool true) h') : ACall prog 16 [ptr p, .int .u64 off, .int .u64 v, .int .i64 n] h K :=
  write_call m.dev m.ok ho hv h1 fun c => h2 c _ (m.setd (writeD_ok m.ok hv)) (Fr.set h _ rfl)
/-- A device and a memory of its own. -/
structure Ow (h0 h : Hp) (p : Nat) (d : Dev) (pm b N C : Nat) (M : Nat → Nat) (a : Nat) (w : Int) : Prop where
  dm : Dm h p d pm b N C M a w
  ext : Ext h0 h
  np : h0.next ≤ p
  nm : h0.next ≤ pm
  nb : h0.next ≤ b
theorem Ow.fr {h0 h' : Hp} {d' : Dev} {M' : Nat → Nat} {a' : Nat} {w' : Int} (o : Ow h0 h p d pm b N C M a w) (m : Dm h' p d' pm b N C M' a' w') {S : Nat → Prop} (f : Fr h h' S) (hS : ∀ i, S i → h0.next ≤ i) : Ow h0 h' p d' pm b N C M' a' w' :=
  ⟨m, ⟨Nat.le_trans o.ext.le f.le, fun i hi => by rw [f.same i (Nat.lt_of_lt_of_le hi o.ext.le) (fun q => by have := hS i q; omega)]; exact o.ext.same i hi⟩, o.np, o.nm, o.nb⟩
theorem Ow.np' {h0 : Hp} (o : Ow h0 h p d pm b N C M a w) : ∀ i, i = p → h0.next ≤ i := fun i e => e ▸ o.np
theorem Ow.n3 {h0 : Hp} (o : Ow h0 h p d pm b N C M a w) : ∀ i, three p pm b i → h0.next ≤ i := fun i e => e.elim (fun e => e ▸ o.np) fun e => e.elim (fun e => e ▸ o.nm) fun e => e ▸ o.nb
/-- New devices with new memories. -/
theorem ramNew_one (hK : ∀ h' pm b, Ext h h' → h.next ≤ pm → h.next ≤ b → Rm.Ram h' pm b 4096 4096 (fun _ => 0) 0 0 → K (ptr pm) h') : ACall prog 7 [.int .i64 1] h K :=
  Rm.ramNew_call (n := 1) (by omega) (by omega) fun h' pm b e h1 h2 r => hK h' pm b e h1 h2 r
theorem given_call (hK : ∀ h' p pm b a w, Ow h h' p givenD pm b 4096 4096 M128 a w → K (.tuple #[ptr p, ptr pm]) h') : ACall prog 25 [] h K := by
  refine acallF_of tb0 func25 rfl rfl mixed (by kernel_rfl) fun hwf => ?_
  simp -dsimp (disch := omega)
  refine new_call ?_
  simp -dsimp (disch := omega)
  have q0 := Ext.alloc h ⟨devC dev0, 1, true⟩
  have b0 := blks_alloc_eq h ⟨devC dev0, 1, true⟩
  obtain ⟨H0, hH0⟩ : ∃ H, H = h.alloc ⟨devC dev0, 1, true⟩ := ⟨_, rfl⟩
  have n0 : H0.next = h.next + 1 := by rw [hH0]; rfl
  rw [← hH0] at q0 b0 ⊢
  refine ramNew_one fun h1 pm b e1 k1 k2 r1 => ?_
  have le1 := e1.le
  have m1 : Dm h1 h.next dev0 pm b 4096 4096 (fun _ => 0) 0 0 := ⟨by rw [e1.same _ (by omega)]; exact b0, dev0_ok, by omega, r1, by omega, by omega⟩
  have o1 : Ow h h1 h.next dev0 pm b 4096 4096 (fun _ => 0) 0 0 := ⟨m1, q0.trans e1, by omega, by omega, by omega⟩
  obtain ⟨p, hp⟩ : ∃ p, p = h.next := ⟨_, rfl⟩
  rw [← hp] at o1 ⊢
  clear m1 r1
  simp -dsimp (disch := omega)
  refine letters_call (n := 128) (by omega) ?_
  simp -dsimp (disch := omega)
  refine mput_call (x := 0) o1.dm.ram (lett_length 128) (by omega) (fun hx h2 r2 c2 => ?_) (fun hx => absurd (by omega) hx)
  have f2 : Fr h1 h2 (fun i => i = pm ∨ i = b) := Fr.ch c2 (.inl rfl) (.inr rfl)
  have o2 : Ow h h2 p dev0 pm b 4096 4096 M128 _ _ := o1.fr ⟨by rw [f2.same _ o1.dm.plt (fun q => q.elim o1.dm.p1 o1.dm.p2)]; exact o1.dm.dev, dev0_ok, Nat.lt_of_lt_of_le o1.dm.plt f2.le, r2, o1.dm.p1, o1.dm.p2⟩ f2 (fun i q => q.elim (fun e => e ▸ o1.nm) fun e => e ▸ o1.nb)
  clear r2 c2
  simp -dsimp (disch := omega)
  refine wr_call (off := 0) (v := 3) (n := 4) o2.dm (by omega) (by omega) (fun q => by cases q) fun _ h3 m3 f3 => ?_
  have o3 := o2.fr m3 f3 o2.np'
  simp -dsimp (disch := omega)
  refine wr_call (off := 8) (v := 1) (n := 8) o3.dm (by omega) (by omega) (fun q => by cases q) fun _ h4 m4 f4 => ?_
  have o4 := o3.fr m4 f4 o3.np'
  simp -dsimp (disch := omega)
  refine wr_call (off := 16) (v := 2) (n := 4) o4.dm (by omega) (by omega) (fun q => by cases q) fun _ h5 m5 f5 => ?_
  have o5 : Ow h h5 p gD2 pm b 4096 4096 M128 _ _ := o4.fr m5 f5 o4.np'
  clear m3 m4 m5
  simp -dsimp (disch := omega)
  refine reads_call (off := 20) (w := 4) (want := 1) o5.dm.dev o5.dm.ok (by omega) ?_
  rw [show (mayD 20 4 && decide (readD gD2 20 4 = 1)) = true from rfl]
  simp -dsimp (disch := omega)
  refine level_call o5.dm.dev o5.dm.ok ?_
  rw [show decide (1 < gD2.st) = false from rfl]
  simp -dsimp (disch := omega)
  refine tick_call o5.dm fun h6 a6 w6 m6 f6 => ?_
  have o6 := o5.fr m6 f6 o5.n3
  rw [given_tick, given_tickM] at o6
  rw [show decide (endsB gD2) = true from rfl]
  clear m6
  simp -dsimp (disch := omega)
  refine reads_call (off := 20) (w := 4) (want := 2) o6.dm.dev o6.dm.ok (by omega) ?_
  rw [show (mayD 20 4 && decide (readD givenD 20 4 = 2)) = true from rfl]
  simp -dsimp (disch := omega)
  refine level_call o6.dm.dev o6.dm.ok ?_
  rw [show decide (1 < givenD.st) = true from rfl]
  simp -dsimp (disch := omega)
  exact RetF.all (r := .tuple #[ptr p, ptr pm]) (by simp) (hK _ _ _ _ _ _ o6)
end
end Go.Proofs.Ytkbiadobkheafaa
