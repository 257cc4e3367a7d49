/-
  A block device: given, works. A block device: works; acts that come in. BlkEnds. BlkMoves: order; what stands in a memory as a text.
-/
import Derived.Test.YtkbiadobkheafaaDoorU9
import Derived.Test.YtkbiadobkheafaaDoorM19
set_option linter.unusedSimpArgs false
set_option linter.unusedVariables false
set_option linter.unusedSectionVars false

namespace Go.Proofs.YtkbiadobkheafaaDoor
open Go Go.Mini Go.Proofs.Tryd
set_option maxRecDepth 100000

theorem beginD_ok {d : Dev} (h : d.ok) {c : Nat} (hc : c < 4294967296) : (beginD d c).ok := by
  unfold beginD
  split
  · exact h
  · exact ⟨h.rs, hc, h.ra, h.rs, hc, h.ra, by show 1 < 4; omega, by have := h.dl; show max d.dl 1 < 4294967296; omega, h.dl, h.S, fun _ => by show 0 < max d.dl 1; omega⟩
theorem ackD_ok {d : Dev} (h : d.ok) : (ackD d).ok := by
  unfold ackD
  split
  · exact h
  · exact ⟨h.rs, h.rc, h.ra, h.us, h.uc, h.ua, by show 0 < 4; omega, h.lf, h.dl, h.S, fun q => by have : (0 : Nat) = 1 := q; omega⟩
theorem writeD_ok {d : Dev} (h : d.ok) {off v : Nat} (hv : v < 18446744073709551616) : (writeD d off v).ok := by
  have hm : v % 4294967296 < 4294967296 := Nat.mod_lt _ (by omega)
  unfold writeD
  split
  · exact ⟨hm, h.rc, h.ra, h.us, h.uc, h.ua, h.st, h.lf, h.dl, h.S, h.run⟩
  · split
    · exact ⟨h.rs, h.rc, hv, h.us, h.uc, h.ua, h.st, h.lf, h.dl, h.S, h.run⟩
    · split
      · exact beginD_ok h hm
      · split
        · exact ackD_ok h
        · exact h
theorem dl_ok {d : Dev} (h : d.ok) {n : Nat} (hn : n < 4294967296) : ({ d with dl := n } : Dev).ok := ⟨h.rs, h.rc, h.ra, h.us, h.uc, h.ua, h.st, h.lf, hn, h.S, h.run⟩
theorem resetD_ok {d : Dev} (h : d.ok) : (resetD d).ok := ⟨by show 0 < 4294967296; omega, by show 0 < 4294967296; omega, by show 0 < 18446744073709551616; omega, by show 0 < 4294967296; omega, by show 0 < 4294967296; omega, by show 0 < 18446744073709551616; omega, by show 0 < 4; omega, by show 0 < 4294967296; omega, h.dl, h.S, fun q => by have : (0 : Nat) = 1 := q; omega⟩

def M128 : Nat → Nat := lay (fun _ => 0) 0 (lett 128)
def gD0 : Dev := writeD dev0 0 3
def gD1 : Dev := writeD gD0 8 1
def gD2 : Dev := writeD gD1 16 2
/-- The chapter's device. -/
def givenD : Dev := ⟨3, 2, 1, 3, 2, 1, 2, 0, 0, takeS (fun _ => 0) 3 M128 1⟩
theorem gD2_eq : gD2 = ⟨3, 2, 1, 3, 2, 1, 1, 1, 0, fun _ => 0⟩ := rfl
theorem gD2_ok : gD2.ok := writeD_ok (writeD_ok (writeD_ok dev0_ok (by omega)) (by omega)) (by omega)
theorem given_tick : tickD gD2 M128 4096 = givenD := by
  rw [gD2_eq]
  unfold tickD
  rw [if_neg (by show ¬ (1 ≠ 1); omega), if_neg (by show ¬ (1 < 1); omega)]
  unfold endD
  rw [if_pos ⟨rfl, by show 3 < 32; omega, by show 1 + 64 ≤ 4096; omega⟩]
  rfl
theorem given_tickM : tickM gD2 M128 4096 = M128 := by
  rw [gD2_eq]
  unfold tickM
  rw [if_pos ⟨rfl, by show 1 ≤ 1; omega⟩]
  unfold endM
  rw [if_neg (fun q => by have : (2 : Nat) = 1 := q.1; omega)]
section
variable {h : Hp} {K : Value → Hp → Prop} {p : Nat} {d : Dev} {pm b N C : Nat} {M : Nat → Nat} {a : Nat} {w : Int}
/-- A write that is taken. -/
theorem wr_call {off v : Nat} {n : Int} (m : Dm h p d pm b N C M a w) (ho : off < 18446744073709551616) (hv : v < 18446744073709551616) (h1 : mayD off n = false → K (.bool false) h) (h2 : mayD off n = true → ∀ h', Dm h' p (writeD d off v) pm b N C M a w → Fr h h' (fun i => i = p) → K (.bool true) h') : ACall prog 7 [ptr p, .int .u64 off, .int .u64 v, .int .i64 n] h K :=
  write_call m.dev m.ok ho hv h1 fun c => h2 c _ (m.setd (writeD_ok m.ok hv)) (Fr.set h _ rfl)
/-- A device and a memory of its own. -/
structure Ow (h0 h : Hp) (p : Nat) (d : Dev) (pm b N C : Nat) (M : Nat → Nat) (a : Nat) (w : Int) : Prop where
  dm : Dm h p d pm b N C M a w
  ext : Ext h0 h
  np : h0.next ≤ p
  nm : h0.next ≤ pm
  nb : h0.next ≤ b
theorem Ow.fr {h0 h' : Hp} {d' : Dev} {M' : Nat → Nat} {a' : Nat} {w' : Int} (o : Ow h0 h p d pm b N C M a w) (m : Dm h' p d' pm b N C M' a' w') {S : Nat → Prop} (f : Fr h h' S) (hS : ∀ i, S i → h0.next ≤ i) : Ow h0 h' p d' pm b N C M' a' w' :=
  ⟨m, ⟨Nat.le_trans o.ext.le f.le, fun i hi => by rw [f.same i (Nat.lt_of_lt_of_le hi o.ext.le) (fun q => by have := hS i q; omega)]; exact o.ext.same i hi⟩, o.np, o.nm, o.nb⟩
theorem Ow.np' {h0 : Hp} (o : Ow h0 h p d pm b N C M a w) : ∀ i, i = p → h0.next ≤ i := fun i e => e ▸ o.np
theorem Ow.n3 {h0 : Hp} (o : Ow h0 h p d pm b N C M a w) : ∀ i, three p pm b i → h0.next ≤ i := fun i e => e.elim (fun e => e ▸ o.np) fun e => e.elim (fun e => e ▸ o.nm) fun e => e ▸ o.nb
/-- New devices with new memories. -/
theorem ramNew_one (hK : ∀ h' pm b, Ext h h' → h.next ≤ pm → h.next ≤ b → Rm.Ram h' pm b 4096 4096 (fun _ => 0) 0 0 → K (ptr pm) h') : ACall prog 21 [.int .i64 1] h K :=
  Rm.ramNew_call (n := 1) (by omega) (by omega) fun h' pm b e h1 h2 r => hK h' pm b e h1 h2 r
theorem given_call (hK : ∀ h' p pm b a w, Ow h h' p givenD pm b 4096 4096 M128 a w → K (.tuple #[ptr p, ptr pm]) h') : ACall prog 5 [] h K := by
  refine acallF_of tb0 func5 rfl rfl mixed (by kernel_rfl) fun hwf => ?_
  simp -dsimp (disch := omega)
  refine new_call ?_
  simp -dsimp (disch := omega)
  have q0 := Ext.alloc h ⟨devC dev0, 1, true⟩
  have b0 := blks_alloc_eq h ⟨devC dev0, 1, true⟩
  obtain ⟨H0, hH0⟩ : ∃ H, H = h.alloc ⟨devC dev0, 1, true⟩ := ⟨_, rfl⟩
  have n0 : H0.next = h.next + 1 := by rw [hH0]; rfl
  rw [← hH0] at q0 b0 ⊢
  refine ramNew_one fun h1 pm b e1 k1 k2 r1 => ?_
  have le1 := e1.le
  have m1 : Dm h1 h.next dev0 pm b 4096 4096 (fun _ => 0) 0 0 := ⟨by rw [e1.same _ (by omega)]; exact b0, dev0_ok, by omega, r1, by omega, by omega⟩
  have o1 : Ow h h1 h.next dev0 pm b 4096 4096 (fun _ => 0) 0 0 := ⟨m1, q0.trans e1, by omega, by omega, by omega⟩
  obtain ⟨p, hp⟩ : ∃ p, p = h.next := ⟨_, rfl⟩
  rw [← hp] at o1 ⊢
  clear m1 r1
  simp -dsimp (disch := omega)
  refine letters_call (n := 128) (by omega) ?_
  simp -dsimp (disch := omega)
  refine mput_call (x := 0) o1.dm.ram (lett_length 128) (by omega) (fun hx h2 r2 c2 => ?_) (fun hx => absurd (by omega) hx)
  have f2 : Fr h1 h2 (fun i => i = pm ∨ i = b) := Fr.ch c2 (.inl rfl) (.inr rfl)
  have o2 : Ow h h2 p dev0 pm b 4096 4096 M128 _ _ := o1.fr ⟨by rw [f2.same _ o1.dm.plt (fun q => q.elim o1.dm.p1 o1.dm.p2)]; exact o1.dm.dev, dev0_ok, Nat.lt_of_lt_of_le o1.dm.plt f2.le, r2, o1.dm.p1, o1.dm.p2⟩ f2 (fun i q => q.elim (fun e => e ▸ o1.nm) fun e => e ▸ o1.nb)
  clear r2 c2
  simp -dsimp (disch := omega)
  refine wr_call (off := 0) (v := 3) (n := 4) o2.dm (by omega) (by omega) (fun q => by cases q) fun _ h3 m3 f3 => ?_
  have o3 := o2.fr m3 f3 o2.np'
  simp -dsimp (disch := omega)
  refine wr_call (off := 8) (v := 1) (n := 8) o3.dm (by omega) (by omega) (fun q => by cases q) fun _ h4 m4 f4 => ?_
  have o4 := o3.fr m4 f4 o3.np'
  simp -dsimp (disch := omega)
  refine wr_call (off := 16) (v := 2) (n := 4) o4.dm (by omega) (by omega) (fun q => by cases q) fun _ h5 m5 f5 => ?_
  have o5 : Ow h h5 p gD2 pm b 4096 4096 M128 _ _ := o4.fr m5 f5 o4.np'
  clear m3 m4 m5
  simp -dsimp (disch := omega)
  refine reads_call (off := 20) (w := 4) (want := 1) o5.dm.dev o5.dm.ok (by omega) ?_
  rw [show (mayD 20 4 && decide (readD gD2 20 4 = 1)) = true from rfl]
  simp -dsimp (disch := omega)
  refine level_call o5.dm.dev o5.dm.ok ?_
  rw [show decide (1 < gD2.st) = false from rfl]
  simp -dsimp (disch := omega)
  refine tick_call o5.dm fun h6 a6 w6 m6 f6 => ?_
  have o6 := o5.fr m6 f6 o5.n3
  rw [given_tick, given_tickM] at o6
  rw [show decide (endsB gD2) = true from rfl]
  clear m6
  simp -dsimp (disch := omega)
  refine reads_call (off := 20) (w := 4) (want := 2) o6.dm.dev o6.dm.ok (by omega) ?_
  rw [show (mayD 20 4 && decide (readD givenD 20 4 = 2)) = true from rfl]
  simp -dsimp (disch := omega)
  refine level_call o6.dm.dev o6.dm.ok ?_
  rw [show decide (1 < givenD.st) = true from rfl]
  simp -dsimp (disch := omega)
  exact RetF.all (r := .tuple #[ptr p, ptr pm]) (by simp) (hK _ _ _ _ _ _ o6)
end
end Go.Proofs.YtkbiadobkheafaaDoor
namespace Go.Proofs.YtkbiadobkheafaaDoor
open Go Go.Mini Go.Proofs.Tryd
set_option maxRecDepth 100000

theorem bytesM_at (M : Nat → Nat) (x n i : Nat) (hi : i < n) : (bytesM M x n)[i]? = some (UInt8.ofNat (M (x + i))) := by
  unfold bytesM
  simp [hi]
theorem given_sec : (List.range 64).map (fun i => UInt8.ofNat (secM givenD 3 i)) = (lett 65).drop 1 := by
  apply List.ext_getElem?
  intro i
  by_cases hi : i < 64
  · rw [List.getElem?_map, List.getElem?_range hi, List.getElem?_drop, lett_at (show 1 + i < 65 by omega)]
    show some (UInt8.ofNat (takeS (fun _ => 0) 3 M128 1 (3 * 64 + i))) = _
    unfold takeS
    rw [if_pos (by omega)]
    show some (UInt8.ofNat (lay (fun _ => 0) 0 (lett 128) (1 + (3 * 64 + i - 3 * 64)))) = _
    unfold lay
    rw [lett_length, if_pos (by omega), show 1 + (3 * 64 + i - 3 * 64) - 0 = 1 + i by omega, lett_at (show 1 + i < 128 by omega)]
    have h26 : (1 + i) % 26 < abc.length := by rw [abc_length]; omega
    rw [List.getElem?_eq_getElem h26]
    simp
  · rw [List.getElem?_eq_none (by simp; omega), List.getElem?_eq_none (by simp [lett_length]; omega)]
section
variable {h : Hp} {K : Value → Hp → Prop}
theorem works_call (hK : ∀ h', Ext h h' → K (.bool true) h') : ACall prog 6 [] h K := by
  refine acallF_of tb0 func6 rfl rfl mixed (by kernel_rfl) fun hwf => ?_
  simp -dsimp (disch := omega)
  refine given_call fun h1 p pm b a w o => ?_
  simp -dsimp (disch := omega)
  refine sector_call (n := 3) o.dm.dev o.dm.ok (by omega) ?_
  rw [given_sec]
  simp -dsimp (disch := omega)
  refine letters_call (n := 65) (by omega) ?_
  have l65 : (txt (lett 65)).size = 65 := by rw [txt_size, lett_length]
  have hx : (txt (lett 65)).extract 1 65 = txt ((lett 65).drop 1) := by rw [txt_extract, List.take_of_length_le (by rw [lett_length]; omega)]
  simp -dsimp (disch := omega) [l65, hx]
  exact RetF.all (r := .bool true) (by simp) (hK _ o.ext)
end

theorem flat_at {α : Type} {f : α → List Value} {n : Nat} (hf : ∀ x, (f x).length = n) (l : List α) : ∀ (k : Nat) (e : α), l[k]? = some e → ∀ j, j < n → (l.flatMap f)[k * n + j]? = (f e)[j]? := by
  induction l with
  | nil => intro k e h; simp at h
  | cons x l ih =>
    intro k e h j hj
    have hx := hf x
    cases k with
    | zero =>
      simp only [List.getElem?_cons_zero, Option.some.injEq] at h
      subst h
      rw [List.flatMap_cons, Nat.zero_mul, Nat.zero_add, List.getElem?_append_left (by omega)]
    | succ k =>
      have := ih k e (by simpa using h) j hj
      rw [List.flatMap_cons, List.getElem?_append_right (by rw [hx, Nat.succ_mul]; omega), hx, Nat.succ_mul, show k * n + n + j - n = k * n + j from by omega, this]
theorem sl_el {α : Type} {f : α → List Value} {n : Nat} {h : Hp} {l : List α} {v : Value} {k : Nat} {e : α} (hf : ∀ x, (f x).length = n) (hv : Sl h n l.length (l.flatMap f) v) (hk : l[k]? = some e) :
    ∃ a c b, v = .slice (some a) l.length c ∧ h.blks a.block = some b ∧ a.off + k * n + n ≤ b.cells.size ∧ b.cells.extract (a.off + k * n) (a.off + k * n + n) = (f e).toArray ∧ ∀ j, j < n → b.cells[a.off + k * n + j]? = (f e)[j]? := by
  have hlt : k < l.length := (List.getElem?_eq_some_iff.1 hk).1
  obtain ⟨h0, ⟨_, _, _, h1⟩ | ⟨a, c, b, rfl, h2, h3, h4⟩⟩ := hv
  · omega
  · have hm : k * n + n ≤ l.length * n := by rw [← Nat.succ_mul]; exact Nat.mul_le_mul_right n hlt
    have hat : ∀ j, j < n → b.cells[a.off + k * n + j]? = (f e)[j]? := fun j hj => by
      have := h4 (k * n + j) (by omega)
      rw [← Nat.add_assoc] at this
      rw [this]
      exact flat_at hf l k e hk j hj
    refine ⟨a, c, b, rfl, h2, by omega, ?_, hat⟩
    apply Array.ext_getElem?
    intro i
    rw [Array.getElem?_extract]
    by_cases hi : i < n
    · rw [if_pos (by omega), hat i hi]; simp
    · rw [if_neg (by omega)]
      symm
      simp [hf]
      omega
structure Act where
  what : Nat
  x : Nat
  v : Nat
  w : Int
def actC (a : Act) : List Value := [.int .u8 a.what, .int .u64 a.x, .int .u64 a.v, .int .i64 a.w]
def actsC (l : List Act) : List Value := l.flatMap actC
def Act.ok (a : Act) : Prop := a.what < 256 ∧ a.x < 18446744073709551616 ∧ a.v < 18446744073709551616
theorem actC_len (a : Act) : (actC a).length = 4 := rfl
theorem leaves4 {a b c d : Leaf} {r : List Value} (h : leavesIn [a, b, c, d] r) : ∃ x y z u, r = [x, y, z, u] ∧ leafIn a x ∧ leafIn b y ∧ leafIn c z ∧ leafIn d u := by
  match r, h with
  | [x, y, z, u], ⟨h1, h2, h3, h4, _⟩ => exact ⟨x, y, z, u, rfl, h1, h2, h3, h4⟩
theorem acts_of (rows : List (List Value)) : (∀ r ∈ rows, leavesIn [.int .u8, .int .u64, .int .u64, .int .i64] r) → ∃ l : List Act, rows.flatten = actsC l ∧ l.length = rows.length ∧ ∀ e ∈ l, e.ok := by
  induction rows with
  | nil => intro _; exact ⟨[], rfl, rfl, fun e he => by cases he⟩
  | cons r rows ih =>
    intro h
    obtain ⟨l, h1, h2, h3⟩ := ih fun r hr => h r (by simp [hr])
    obtain ⟨x0, x1, x2, x3, rfl, q0, q1, q2, q3⟩ := leaves4 (h r (by simp))
    obtain ⟨a, rfl, ha⟩ := leaf_u8 q0
    obtain ⟨b, rfl, hb⟩ := leaf_u64 q1
    obtain ⟨c, rfl, hc⟩ := leaf_u64 q2
    obtain ⟨d, rfl, hd⟩ := leaf_i64 q3
    obtain ⟨a, rfl⟩ := Int.eq_ofNat_of_zero_le ha.1
    obtain ⟨b, rfl⟩ := Int.eq_ofNat_of_zero_le hb.1
    obtain ⟨c, rfl⟩ := Int.eq_ofNat_of_zero_le hc.1
    refine ⟨⟨a, b, c, d⟩ :: l, by rw [List.flatten_cons, h1]; rfl, by simp [h2], fun e he => ?_⟩
    rcases List.mem_cons.1 he with rfl | he
    · exact ⟨by show a < 256; omega, by show b < 18446744073709551616; omega, by show c < 18446744073709551616; omega⟩
    · exact h3 e he
theorem lt63 {a b : Nat} (h : a = b) (h2 : b ≤ maxLen) : a < 9223372036854775808 := by
  have : maxLen < 9223372036854775808 := by decide
  omega
end Go.Proofs.YtkbiadobkheafaaDoor
namespace Go.Proofs.YtkbiadobkheafaaDoor
open Go Go.Mini Go.Proofs.Tryd
set_option maxRecDepth 100000

def Bz (d : Dev) : Bool := decide (d.st = 1)
def Hg (d : Dev) : Bool := decide (1 < d.st)
theorem reads20 (d : Dev) : (mayD 20 4 && decide (readD d 20 4 = 1)) = Bz d := rfl
theorem Bz_iff {d d' : Dev} (h : d'.st = 1 ↔ d.st = 1) : Bz d' = Bz d := by unfold Bz; rw [decide_eq_decide]; exact h
theorem Bz_t {d : Dev} (h : d.st = 1) : Bz d = true := decide_eq_true h
theorem Bz_f {d : Dev} (h : ¬ d.st = 1) : Bz d = false := decide_eq_false h
theorem Hg_iff {d d' : Dev} (h : 1 < d'.st ↔ 1 < d.st) : Hg d' = Hg d := by unfold Hg; rw [decide_eq_decide]; exact h
theorem Hg_t {d : Dev} (h : 1 < d.st) : Hg d = true := decide_eq_true h
theorem Hg_f {d : Dev} (h : ¬ 1 < d.st) : Hg d = false := decide_eq_false h
theorem Ow.alloc {h0 h : Hp} {p : Nat} {d : Dev} {pm b N C : Nat} {M : Nat → Nat} {a : Nat} {w : Int} (o : Ow h0 h p d pm b N C M a w) (c : Blk) : Ow h0 (h.alloc c) p d pm b N C M a w :=
  o.fr (o.dm.fr (Fr.alloc h c fun _ => False) id id id) (Fr.alloc h c fun _ => False) fun _ q => q.elim
theorem Ow.then {h0 h h' : Hp} {p : Nat} {d d' : Dev} {pm b N C : Nat} {M : Nat → Nat} {a : Nat} {w : Int} (o : Ow h0 h p d pm b N C M a w) (m : Dm h' p d' pm b N C M a w) (f : Fr h h' fun i => i = p) : Ow h0 h' p d' pm b N C M a w := o.fr m f o.np'
theorem setDelay_ow {h0 h : Hp} {K : Value → Hp → Prop} {p : Nat} {d : Dev} {pm b N C : Nat} {M : Nat → Nat} {a : Nat} {w : Int} {n : Nat} (o : Ow h0 h p d pm b N C M a w) (hn : n < 4294967296) (hK : ∀ h', Ow h0 h' p { d with dl := n } pm b N C M a w → Fr h h' (fun i => i = p) → K (.tuple #[]) h') : ACall prog 10 [ptr p, .int .u32 n] h K :=
  setDelay_call o.dm.dev (hK _ (o.then (o.dm.setd (dl_ok o.dm.ok hn)) (Fr.set h _ rfl)) (Fr.set h _ rfl))
theorem reset_ow {h0 h : Hp} {K : Value → Hp → Prop} {p : Nat} {d : Dev} {pm b N C : Nat} {M : Nat → Nat} {a : Nat} {w : Int} (o : Ow h0 h p d pm b N C M a w) (hK : ∀ h', Ow h0 h' p (resetD d) pm b N C M a w → Fr h h' (fun i => i = p) → K (.tuple #[]) h') : ACall prog 19 [ptr p] h K :=
  reset_call o.dm.dev (hK _ (o.then (o.dm.setd (resetD_ok o.dm.ok)) (Fr.set h _ rfl)) (Fr.set h _ rfl))
theorem write_ow {h0 h : Hp} {K : Value → Hp → Prop} {p : Nat} {d : Dev} {pm b N C : Nat} {M : Nat → Nat} {a : Nat} {w : Int} {off v : Nat} {n : Int} (o : Ow h0 h p d pm b N C M a w) (ho : off < 18446744073709551616) (hv : v < 18446744073709551616) (hK : ∀ h', Ow h0 h' p (if mayD off n = true then writeD d off v else d) pm b N C M a w → Fr h h' (fun i => i = p) → K (.bool (mayD off n)) h') : ACall prog 7 [ptr p, .int .u64 off, .int .u64 v, .int .i64 n] h K :=
  wr_call o.dm ho hv (fun c => by have := hK h (by rw [c]; exact o) (Fr.refl _ _); rwa [c] at this) (fun c h' m f => by have := hK h' (by rw [if_pos c]; exact o.then m f) f; rwa [c] at this)
theorem tick_ow {h0 h : Hp} {K : Value → Hp → Prop} {p : Nat} {d : Dev} {pm b N C : Nat} {M : Nat → Nat} {a : Nat} {w : Int} (o : Ow h0 h p d pm b N C M a w) (hK : ∀ h' a' w', Ow h0 h' p (tickD d M N) pm b N C (tickM d M N) a' w' → Fr h h' (three p pm b) → K (.bool (decide (endsB d))) h') : ACall prog 12 [ptr p, memV pm] h K :=
  tick_call o.dm fun h' a' w' m f => hK h' a' w' (o.fr m f o.n3) f
theorem new_ow {h0 h : Hp} {K : Value → Hp → Prop} : True := trivial
/-- What an act makes of the state. -/
theorem beg_st {d : Dev} {c : Nat} (h : d.st ≠ 1) : (beginD d c).st = 1 ∧ (beginD d c).lf = max d.dl 1 ∧ (beginD d c).dl = d.dl := by unfold beginD; rw [if_neg h]; exact ⟨rfl, rfl, rfl⟩
theorem beg_busy {d : Dev} {c : Nat} (h : d.st = 1) : beginD d c = d := by unfold beginD; rw [if_pos h]
theorem wr_other {d : Dev} {x v : Nat} (h1 : x ≠ 16) (h2 : x ≠ 24) : (writeD d x v).st = d.st ∧ (writeD d x v).lf = d.lf ∧ (writeD d x v).dl = d.dl := by
  unfold writeD
  split
  · exact ⟨rfl, rfl, rfl⟩
  · split
    · exact ⟨rfl, rfl, rfl⟩
    · (repeat' split) <;> first | exact ⟨rfl, rfl, rfl⟩ | (exfalso; omega)
theorem ack_st (d : Dev) : ((ackD d).st = 1 ↔ d.st = 1) ∧ ¬ 1 < (ackD d).st ∧ (ackD d).dl = d.dl ∧ (ackD d).lf = d.lf := by
  unfold ackD
  split
  · rename_i h; exact ⟨Iff.rfl, by omega, rfl, rfl⟩
  · rename_i h; exact ⟨⟨fun q => by have : (0 : Nat) = 1 := q; omega, fun q => absurd q h⟩, by show ¬ 1 < 0; omega, rfl, rfl⟩
theorem end_st (d : Dev) (M : Nat → Nat) (N : Nat) : 1 < (endD d M N).st ∧ (endD d M N).dl = d.dl := by
  unfold endD
  split
  · exact ⟨by show 1 < 2; omega, rfl⟩
  · split
    · exact ⟨by show 1 < 2; omega, rfl⟩
    · exact ⟨by show 1 < 3; omega, rfl⟩
theorem tick_idle {d : Dev} {M : Nat → Nat} {N : Nat} (h : d.st ≠ 1) : tickD d M N = d := by unfold tickD; rw [if_pos h]
theorem tick_go {d : Dev} {M : Nat → Nat} {N : Nat} (h : d.st = 1) (h2 : 1 < d.lf) : tickD d M N = { d with lf := d.lf - 1 } := by unfold tickD; rw [if_neg (by omega), if_pos h2]
theorem tick_end {d : Dev} {M : Nat → Nat} {N : Nat} (h : d.st = 1) (h2 : ¬ 1 < d.lf) : tickD d M N = endD d M N := by unfold tickD; rw [if_neg (by omega), if_neg h2]

end Go.Proofs.YtkbiadobkheafaaDoor
namespace Go.Proofs.YtkbiadobkheafaaDoor
open Go Go.Mini Go.Proofs.Tryd
set_option maxRecDepth 100000

theorem leaves5 {a b c d g : Leaf} {r : List Value} (h : leavesIn [a, b, c, d, g] r) : ∃ x y z u v, r = [x, y, z, u, v] ∧ leafIn a x ∧ leafIn b y ∧ leafIn c z ∧ leafIn d u ∧ leafIn g v := by
  match r, h with
  | [x, y, z, u, v], ⟨h1, h2, h3, h4, h5, _⟩ => exact ⟨x, y, z, u, v, rfl, h1, h2, h3, h4, h5⟩
/-- A command with its registers. -/
def ordD (d : Dev) (s x c : Nat) : Dev := { d with rs := s, ra := x, rc := c, us := s, uc := c, ua := x, st := 1, lf := max d.dl 1 }
theorem ordD_eq {d : Dev} {s x c : Nat} (hs : s < 4294967296) (hc : c < 4294967296) (h : d.st ≠ 1) : writeD (writeD (writeD d 0 s) 8 x) 16 c = ordD d s x c := by
  have e1 : writeD d 0 s = { d with rs := s } := by unfold writeD; rw [if_pos rfl, Nat.mod_eq_of_lt hs]
  have e2 : writeD { d with rs := s } 8 x = { d with rs := s, ra := x } := by unfold writeD; rw [if_neg (by omega), if_pos rfl]
  have e3 : writeD { d with rs := s, ra := x } 16 c = beginD { d with rs := s, ra := x } c := by unfold writeD; rw [if_neg (by omega), if_neg (by omega), if_pos rfl, Nat.mod_eq_of_lt hc]
  rw [e1, e2, e3]
  unfold beginD
  rw [if_neg (by exact h)]
  rfl
section
variable {h0 h : Hp} {K : Value → Hp → Prop} {p : Nat} {d : Dev} {pm b N C : Nat} {M : Nat → Nat} {a : Nat} {w : Int}
theorem mbytes_ow {x n : Nat} (o : Ow h0 h p d pm b N C M a w) (hx : x + n ≤ N) (hK : K (.tuple #[.string (txt (bytesM M x n)), .int .i64 0]) h) : ACall prog 13 [ptr pm, .int .u64 x, .int .u64 n] h K :=
  Rm.bytes_call o.dm.ram (fun _ => hK) fun q => absurd hx q
theorem mput_ow {x n : Nat} {l : List UInt8} (o : Ow h0 h p d pm b N C M a w) (hl : l.length = n) (hn : n < 9223372036854775808) (hx : x + n ≤ N) (hK : ∀ h' a' w', Ow h0 h' p d pm b N C (lay M x l) a' w' → Fr h h' (three p pm b) → K (.int .i64 0) h') : ACall prog 27 [ptr pm, .int .u64 x, .string (txt l)] h K :=
  mput_call o.dm.ram hl hn (fun _ h2 r2 c2 => by
    have f2 : Fr h h2 (fun i => i = pm ∨ i = b) := Fr.ch c2 (.inl rfl) (.inr rfl)
    exact hK h2 _ _ (o.fr ⟨by rw [f2.same _ o.dm.plt (fun q => q.elim o.dm.p1 o.dm.p2)]; exact o.dm.dev, o.dm.ok, Nat.lt_of_lt_of_le o.dm.plt f2.le, r2, o.dm.p1, o.dm.p2⟩ f2 (fun i q => q.elim (fun e => e ▸ o.nm) fun e => e ▸ o.nb)) ⟨f2.le, fun i h1 h2 => f2.same i h1 fun q => h2 (.inr q)⟩) fun q => absurd hx q
end
theorem bytes_take (S0 : Nat → Nat) (n : Nat) (M : Nat → Nat) (x : Nat) : bytesM (takeS S0 n M x) (n * 64) 64 = bytesM M x 64 := by
  apply List.ext_getElem?
  intro i
  by_cases hi : i < 64
  · rw [bytesM_at _ _ _ _ hi, bytesM_at _ _ _ _ hi]
    unfold takeS
    rw [if_pos (by omega), show n * 64 + i - n * 64 = i by omega]
  · rw [List.getElem?_eq_none (by rw [bytesM_length]; omega), List.getElem?_eq_none (by rw [bytesM_length]; omega)]
theorem bytes_lay (M : Nat → Nat) (x n : Nat) (l : List UInt8) (hl : l.length = n) : bytesM (lay M x l) x n = l := by
  apply List.ext_getElem?
  intro i
  by_cases hi : i < n
  · rw [bytesM_at _ _ _ _ hi]
    unfold lay
    rw [if_pos (by omega), show x + i - x = i by omega, List.getElem?_eq_getElem (by omega)]
    simp
  · rw [List.getElem?_eq_none (by rw [bytesM_length]; omega), List.getElem?_eq_none (by omega)]
theorem bytes_put (M : Nat → Nat) (x n N : Nat) (l : List UInt8) (hl : l.length = n) (hx : x + n ≤ N) : bytesM (lay M x l) 0 N = (bytesM M 0 N).take x ++ l ++ (bytesM M 0 N).drop (x + n) := by
  apply List.ext_getElem?
  intro i
  have hL : (bytesM M 0 N).length = N := bytesM_length _ _ _
  have ht : ((bytesM M 0 N).take x).length = x := by rw [List.length_take, hL]; omega
  by_cases hi : i < N
  · rw [bytesM_at _ _ _ _ hi]
    unfold lay
    by_cases c1 : i < x
    · rw [if_neg (by omega), List.append_assoc, List.getElem?_append_left (by omega), List.getElem?_take, if_pos c1, bytesM_at _ _ _ _ hi]
    · by_cases c2 : i < x + n
      · rw [if_pos (by omega), List.append_assoc, List.getElem?_append_right (by omega), ht, List.getElem?_append_left (by omega), Nat.zero_add, List.getElem?_eq_getElem (by omega)]
        simp
      · rw [if_neg (by omega), List.getElem?_append_right (by rw [List.length_append]; omega), List.length_append, ht, hl, List.getElem?_drop, show x + n + (i - (x + n)) = i by omega, bytesM_at _ _ _ _ hi]
  · rw [List.getElem?_eq_none (by rw [bytesM_length]; omega), List.getElem?_eq_none (by simp only [List.length_append, List.length_drop, ht, hL]; omega)]
end Go.Proofs.YtkbiadobkheafaaDoor
