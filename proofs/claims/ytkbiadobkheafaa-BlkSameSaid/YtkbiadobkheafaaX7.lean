/-
  A device with its memory, and the document's: one call of both.
-/
import Derived.Test.YtkbiadobkheafaaX6
set_option linter.unusedSimpArgs false
set_option linter.unusedVariables false
set_option linter.unusedSectionVars false
namespace Go.Proofs.Ytkbiadobkheafaa
open Go Go.Mini Go.Proofs.Try
set_option maxRecDepth 100000

section
variable {h0 : Hp} {T : Nat → Prop} {h : Hp} {x : Nm} {d : Dev} {r : Rd} {M : Nat → Nat} {a : Nat} {w : Int} {v : Value} {L : Rm.By} {a' : Nat} {w' : Int} {K : Value → Hp → Prop}
theorem mwrite_ow {p pm b : Nat} {y u : Nat} {n : Int} (o : Ow h0 h p d pm b 4096 4096 M a w) (hu : u < 18446744073709551616) (hy : y < 18446744073709551616) (hK1 : Rm.wok n ∧ y + n.toNat ≤ 4096 → ∀ h' a2 w2, Ow h0 h' p d pm b 4096 4096 (Rm.wr M y u n.toNat) a2 w2 → Fr h h' (three p pm b) → K (.bool true) h') (hK2 : ¬ (Rm.wok n ∧ y + n.toNat ≤ 4096) → K (.bool false) h) : ACall prog 39 [ptr pm, .int .u64 y, .int .u64 u, .int .i64 n] h K :=
  Rm.write_call o.dm.ram hu hy (fun hc => by
    have r2 := (o.dm.ram.fill (Rm.wr_lt (x := y) (v := u) (n := n.toNat) o.dm.ram.M8)).claim (w' := Rm.toW a w y n.toNat) (Rm.toA_lt (x := y) (n := n.toNat) o.dm.ram.a1)
    have c2 : Rm.Ch h _ pm b := (Rm.Ch.setb h pm b ⟨mem 4096 (Rm.wr M y u n.toNat), 1, true⟩).trans (Rm.Ch.setp _ pm b ⟨Rm.ramC b 4096 4096 (Rm.toA a y n.toNat) (Rm.toW a w y n.toNat), 1, true⟩)
    have f2 := Fr.ch c2 (S := fun i => i = pm ∨ i = b) (.inl rfl) (.inr rfl)
    exact hK1 hc _ _ _ (o.fr ⟨by rw [f2.same _ o.dm.plt (fun q => q.elim o.dm.p1 o.dm.p2)]; exact o.dm.dev, o.dm.ok, Nat.lt_of_lt_of_le o.dm.plt f2.le, r2, o.dm.p1, o.dm.p2⟩ f2 (fun i q => q.elim (fun e => e ▸ o.nm) fun e => e ▸ o.nb)) ⟨f2.le, fun i h1 h2 => f2.same i h1 fun q => h2 (.inr q)⟩) hK2
theorem Rel.mwrite (E : Rel d r M L) (y u n : Nat) : Rel d r (Rm.wr M y u n) (Rm.setN L y (fun j => u / 256 ^ j % 256) n) :=
  ⟨E.rs, E.rc, E.ra, E.st, E.dl, E.run, E.sec, fun i hi => by
    rw [Rm.look_setN]
    unfold Rm.wr
    split
    · rfl
    · exact E.mem i hi⟩
theorem setN_zero (L : Rm.By) (y : Nat) (f : Nat → Nat) : Rm.setN L y f 0 = L := rfl
abbrev actV (e : Act) : Value := .agg #[.int .u8 e.what, .int .u64 e.x, .int .u64 e.v, .int .i64 e.w]
set_option maxHeartbeats 1000000 in
theorem one_call {e : Act} (P : PrM h0 T h x d r M a w v L a' w') (E : Rel d r M L) (he : e.ok) (hK : ∀ h' d' r', Pr h0 T h' x d' r' → FT T h h' → K (.bool true) h') : ACall prog 21 [pairV x, actV e] h K := by
  refine acallF_of tb0 func21 rfl rfl mixed (by kernel_rfl) fun hwf => ?_
  obtain ⟨p1, p2, p3⟩ := he
  obtain ⟨ew, ex, ev, en⟩ := e
  simp only at p1 p2 p3
  obtain ⟨H1, hH1⟩ : ∃ H, H = h.alloc ⟨#[ptr x.p, ptr x.pm, ptr x.q, ptr x.mr], 1, true⟩ := ⟨_, rfl⟩
  have e1 : Ext h H1 := by rw [hH1]; exact Ext.alloc _ _
  have hn1 : H1.next = h.next + 1 := by rw [hH1]; rfl
  obtain ⟨H, hH⟩ : ∃ H, H = H1.alloc ⟨#[.int .u8 ew, .int .u64 ex, .int .u64 ev, .int .i64 en], 1, true⟩ := ⟨_, rfl⟩
  have e2 : Ext H1 H := by rw [hH]; exact Ext.alloc _ _
  have hX : H.blks h.next = some ⟨#[ptr x.p, ptr x.pm, ptr x.q, ptr x.mr], 1, true⟩ := by rw [e2.same _ (by omega), hH1]; exact blks_alloc_eq _ _
  have hA : H.blks (h.next + 1) = some ⟨#[.int .u8 ew, .int .u64 ex, .int .u64 ev, .int .i64 en], 1, true⟩ := by rw [hH, ← hn1]; exact blks_alloc_eq _ _
  have hn : H.next = h.next + 2 := by rw [hH, Hp.next_alloc, hn1]
  have lp := P.ow.dm.plt
  have lm := P.ow.dm.ram.plt
  have lb := P.ow.dm.ram.blt
  have lq := P.qlt
  have n3 : ∀ i, h.next ≤ i → ¬ three x.p x.pm x.b i := fun i hi z => z.elim (fun e => by omega) fun z => z.elim (fun e => by omega) fun e => by omega
  have nq : ∀ i, h.next ≤ i → ¬ i = x.q := fun i hi z => by omega
  obtain ⟨P1, f1⟩ := P.ext (e1.trans e2)
  have keep : ∀ {G : Hp} {S : Nat → Prop}, Fr H G S → (∀ i, h.next ≤ i → ¬ S i) → G.blks h.next = some ⟨#[ptr x.p, ptr x.pm, ptr x.q, ptr x.mr], 1, true⟩ ∧ G.blks (h.next + 1) = some ⟨#[.int .u8 ew, .int .u64 ex, .int .u64 ev, .int .i64 en], 1, true⟩ := fun f hs => ⟨(f.same _ (by omega) (hs _ (Nat.le_refl _))).trans hX, (f.same _ (by omega) (hs _ (by omega))).trans hA⟩
  obtain ⟨c, hcd⟩ : ∃ c, c = ew % 15 := ⟨_, rfl⟩
  have hci : (ew : Int) % 15 = c := by omega
  have hc15 : c < 15 := by omega
  have hst := P.ow.dm.ok.st
  by_cases z01 : c = 0 ∨ c = 1
  · have hrd := E.read ex en
    rcases z01 with z | z
    all_goals
      rw [z] at hci
      simp -dsimp (disch := omega) [← hH1, ← hH, hn1, hX, hA, hci]
      refine read_call P1.ow.dm.dev P1.ow.dm.ok p2 ?_
      simp -dsimp (disch := omega) [hX, hA]
      refine rRead_call P1.rb P1.rok p2 ?_
      rw [hrd]
      have hbb : (mayD ex en == mayD ex en) = true := by cases mayD ex en <;> rfl
      simp -dsimp (disch := omega) [hbb]
      exact RetF.all (r := .bool true) (by simp) (hK _ _ _ (P1.pr E) f1)
  by_cases z26 : 2 ≤ c ∧ c ≤ 6
  · rcases (by omega : c = 2 ∨ c = 3 ∨ c = 4 ∨ c = 5 ∨ c = 6) with z | z | z | z | z
    all_goals
      rw [z] at hci
      simp -dsimp (disch := omega) [← hH1, ← hH, hn1, hX, hA, hci]
      refine write_ow P1.ow p2 p3 fun h2 o2 f2 => ?_
      obtain ⟨x2, a2⟩ := keep f2 (fun i hi z => n3 i hi (.inl z))
      obtain ⟨P2, f2'⟩ := P1.real o2 (one3 f2)
      simp -dsimp (disch := omega) [x2, a2]
      refine rWrite_call P2.rb P2.rok p2 p3 ?_
      have hbb : (mayD ex en == mayD ex en) = true := by cases mayD ex en <;> rfl
      obtain ⟨P3, f3⟩ := P2.refD (blks_set_eq h2 x.q ⟨refC (if mayD ex en = true then rwriteR r ex ev else r), 1, true⟩) (rwrite_ok' P.rok p3) (Fr.set h2 _ rfl)
      simp -dsimp (disch := omega) [hbb]
      exact RetF.all (r := .bool true) (by simp) (hK _ _ _ (P3.pr (E.write' hst ex ev en)) ((f1.trans' f2').trans' f3))
  by_cases z7a : 7 ≤ c ∧ c ≤ 10
  · have hv7 : ((ev : Int) = 7 ∨ ¬ (ev : Int) = 7) := by omega
    rcases (by omega : c = 7 ∨ c = 8 ∨ c = 9 ∨ c = 10) with z | z | z | z
    all_goals
      rw [z] at hci
      simp -dsimp (disch := omega) [← hH1, ← hH, hn1, hX, hA, hci]
      refine pairTick_call P1 E fun h2 d2 r2 P2 f2 => ?_
      simp -dsimp (disch := omega)
      exact RetF.all (r := .bool true) (by simp) (hK _ _ _ P2 (f1.trans' f2))
  by_cases z11 : c = 11
  · have hci : (ew : Int) % 15 = 11 := by omega
    have e32 := wrap32 ev
    have hm : ev % 4294967296 < 4294967296 := Nat.mod_lt _ (by omega)
    obtain ⟨m, hm'⟩ : ∃ m, m = ev % 4294967296 := ⟨_, rfl⟩
    rw [← hm'] at e32 hm
    simp -dsimp (disch := omega) [← hH1, ← hH, hn1, hX, hA, hci, e32]
    refine setDelay_ow P1.ow hm fun h2 o2 f2 => ?_
    obtain ⟨x2, a2⟩ := keep f2 (fun i hi z => n3 i hi (.inl z))
    obtain ⟨P2, f2'⟩ := P1.real o2 (one3 f2)
    have hs8 := refC_s8 r m
    have cs := refC_size r
    have g2 := P2.rb
    obtain ⟨P3, f3⟩ := P2.refD (blks_set_eq h2 x.q ⟨refC { r with dl := m }, 1, true⟩) (rdelay_ok P.rok hm) (Fr.set h2 _ rfl)
    obtain ⟨cc, hcc⟩ : ∃ c, c = refC r := ⟨_, rfl⟩
    rw [← hcc] at g2 hs8 cs
    clear hcc
    simp -dsimp (disch := omega) [x2, a2, e32, g2, hs8, cs]
    exact RetF.all (r := .bool true) (by simp) (hK _ _ _ (P3.pr (E.delay m)) ((f1.trans' f2').trans' f3))
  by_cases z12 : c = 12
  · have hci : (ew : Int) % 15 = 12 := by omega
    by_cases odd : ev % 2 = 1
    · have odd' : (ev : Int) % 2 = 1 := by omega
      simp -dsimp (disch := omega) [← hH1, ← hH, hn1, hX, hA, hci, odd']
      refine reset_ow P1.ow fun h2 o2 f2 => ?_
      obtain ⟨x2, a2⟩ := keep f2 (fun i hi z => n3 i hi (.inl z))
      obtain ⟨P2, f2'⟩ := P1.real o2 (one3 f2)
      simp -dsimp (disch := omega) [x2, a2]
      refine rReset_call P2.rb ?_
      obtain ⟨P3, f3⟩ := P2.refD (blks_set_eq h2 x.q ⟨refC (rresetR r), 1, true⟩) (rreset_ok P.rok) (Fr.set h2 _ rfl)
      simp -dsimp (disch := omega)
      exact RetF.all (r := .bool true) (by simp) (hK _ _ _ (P3.pr E.reset) ((f1.trans' f2').trans' f3))
    · have odd' : ¬ (ev : Int) % 2 = 1 := by omega
      simp -dsimp (disch := omega) [← hH1, ← hH, hn1, hX, hA, hci, odd']
      exact RetF.all (r := .bool true) (by simp) (hK _ _ _ (P1.pr E) f1)
  by_cases z14 : c = 14
  · have hci : (ew : Int) % 15 = 14 := by omega
    simp -dsimp (disch := omega) [← hH1, ← hH, hn1, hX, hA, hci]
    refine mwrite_ow (n := 1) P1.ow p3 p2 (fun hc h2 a2 w2 o2 f2 => ?_) (fun hc => ?_)
    · obtain ⟨x2, a2'⟩ := keep f2 n3
      obtain ⟨P2, f2'⟩ := P1.real o2 f2
      have hl := P2.len
      simp -dsimp (disch := omega) [x2, a2']
      refine Rm.rfWrite_call (n := 1) P2.rf (by omega) p2 p3 (fun _ h3 v3 r3 c3 vc3 => ?_) (fun hc' => absurd hc hc')
      have f3 := RCh_fr c3
      have g3 : h3.blks x.q = some ⟨refC r, 1, true⟩ := (f3.same _ P2.qlt (fun z => z.elim P.qr P2.vq)).trans P2.rb
      obtain ⟨P3, f3'⟩ := P2.refM g3 P.rok r3 ⟨f3.le, fun i h1 h2 => f3.same i h1 fun z => h2 (.inr z)⟩ vc3
      simp -dsimp (disch := omega)
      exact RetF.all (r := .bool true) (by simp) (hK _ _ _ (P3.pr (E.mwrite ex ev 1)) ((f1.trans' f2').trans' f3'))
    · have hl := P1.len
      simp -dsimp (disch := omega) [hX, hA]
      refine Rm.rfWrite_call (n := 1) P1.rf (by omega) p2 p3 (fun hc' => absurd hc' hc) (fun _ => ?_)
      simp -dsimp (disch := omega)
      exact RetF.all (r := .bool true) (by simp) (hK _ _ _ (P1.pr E) f1)
  · have z13 : c = 13 := by omega
    have hci : (ew : Int) % 15 = 13 := by omega
    simp -dsimp (disch := omega) [← hH1, ← hH, hn1, hX, hA, hci]
    exact RetF.all (r := .bool true) (by simp) (hK _ _ _ (P1.pr E) f1)
end
end Go.Proofs.Ytkbiadobkheafaa
