/-
  A block device: a sector into the memory, and out of it.
-/
import Derived.Test.YtkbiadobkheafaaDoorUA
import Derived.Test.YtkbiadobkheafaaDoorGA
set_option linter.unusedSimpArgs false
set_option linter.unusedVariables false
set_option linter.unusedSectionVars false
namespace Go.Proofs.YtkbiadobkheafaaDoor
open Go Go.Mini Go.Proofs.Tryd
set_option maxRecDepth 100000

/-- Only these are changed, and what is new. -/
structure Fr (h h' : Hp) (S : Nat → Prop) : Prop where
  le : h.next ≤ h'.next
  same : ∀ i, i < h.next → ¬ S i → h'.blks i = h.blks i
theorem Fr.refl (h : Hp) (S : Nat → Prop) : Fr h h S := ⟨Nat.le_refl _, fun _ _ _ => rfl⟩
theorem Fr.trans {h h' h'' : Hp} {S S' : Nat → Prop} (x : Fr h h' S) (y : Fr h' h'' S') (hs : ∀ i, i < h.next → S' i → S i) : Fr h h'' S :=
  ⟨Nat.le_trans x.le y.le, fun i h1 h2 => by rw [y.same i (Nat.lt_of_lt_of_le h1 x.le) fun h => h2 (hs i h1 h), x.same i h1 h2]⟩
theorem Fr.alloc (h : Hp) (c : Blk) (S : Nat → Prop) : Fr h (h.alloc c) S := ⟨by simp, fun i hi _ => blks_alloc_ne _ _ _ (by omega)⟩
theorem Fr.of_ext {h h' : Hp} (e : Ext h h') (S : Nat → Prop) : Fr h h' S := ⟨e.le, fun i hi _ => e.same i hi⟩
theorem Fr.set (h : Hp) {p : Nat} (c : Blk) {S : Nat → Prop} (hp : S p) : Fr h (h.set p c) S := ⟨Nat.le_refl _, fun i _ hi => blks_set_ne _ _ _ _ fun e => hi (e ▸ hp)⟩
theorem Fr.ch {h h' : Hp} {p b : Nat} (c : Rm.Ch h h' p b) {S : Nat → Prop} (hp : S p) (hb : S b) : Fr h h' S := ⟨Nat.le_of_eq c.next.symm, fun i _ hi => c.same i (fun e => hi (e ▸ hp)) (fun e => hi (e ▸ hb))⟩
theorem Ram_fr {h h' : Hp} {p b N C : Nat} {M : Nat → Nat} {a : Nat} {w : Int} {S : Nat → Prop} (r : Rm.Ram h p b N C M a w) (f : Fr h h' S) (hp : ¬ S p) (hb : ¬ S b) : Rm.Ram h' p b N C M a w :=
  r.mono f.le (f.same _ r.plt hp) (f.same _ r.blt hb)
abbrev memV (pm : Nat) : Value := .iface 23 (ptr pm)
abbrev ordV (s c a : Nat) : Value := .agg #[.int .u32 s, .int .u32 c, .int .u64 a]
section
variable {h : Hp} {K : Value → Hp → Prop} {p : Nat} {d : Dev} {pm b N C : Nat} {M : Nat → Nat} {a : Nat} {w : Int}
theorem mput_call {x n : Nat} {l : List UInt8} (r : Rm.Ram h pm b N C M a w) (hl : l.length = n) (hn : n < 9223372036854775808) (hK1 : x + n ≤ N → ∀ h', Rm.Ram h' pm b N C (lay M x l) (Rm.toA a x n) (Rm.toW a w x n) → Rm.Ch h h' pm b → K (.int .i64 0) h') (hK2 : ¬ x + n ≤ N → K (.int .i64 6) h) : ACall prog 27 [ptr pm, .int .u64 x, .string (txt l)] h K := by
  subst hl
  exact Rm.put_call r hn (fun h => hK1 h _ ((r.fill (Rm.lay_lt r.M8)).claim (Rm.toA_lt r.a1)) ((Rm.Ch.setb _ _ _ _).trans (Rm.Ch.setp _ _ _ _))) hK2
theorem of_call {c : Nat} (hK1 : c = 1 → K (.func (.func 69) #[] #[]) h) (hK2 : c = 2 → K (.func (.func 70) #[] #[]) h) (hK3 : c ≠ 1 → c ≠ 2 → K .nilFunc h) : ACall prog 53 [.int .u32 c] h K := by
  refine acallF_of tb0 func53 rfl rfl mixed (by kernel_rfl) fun hwf => ?_
  by_cases c1 : c = 1
  · have := hK1 c1
    subst c1
    simp -dsimp (disch := omega)
    exact RetF.same hwf (by simp) (by simp [vtop_func, fnTop]) (fun _ _ => rfl) this
  by_cases c2 : c = 2
  · have := hK2 c2
    subst c2
    simp -dsimp (disch := omega)
    exact RetF.same hwf (by simp) (by simp [vtop_func, fnTop]) (fun _ _ => rfl) this
  have c1' : ¬ (c : Int) = 1 := by omega
  have c2' : ¬ (c : Int) = 2 := by omega
  simp -dsimp (disch := omega) [c1, c2, c1', c2']
  exact RetF.same hwf (by simp) (by simp [vtop]) (fun _ _ => rfl) (hK3 c1 c2)
theorem put_call {s c x : Nat} (hb : h.blks p = some ⟨devC d, 1, true⟩) (hd : ∀ i, d.S i < 256) (r : Rm.Ram h pm b N C M a w) (hp : p < h.next) (hs : s < 32)
    (hK1 : x + 64 ≤ N → ∀ h', Rm.Ram h' pm b N C (lay M x (bytesM d.S (s * 64) 64)) (Rm.toA a x 64) (Rm.toW a w x 64) → Fr h h' (fun i => i = pm ∨ i = b) → K (.int .i64 0) h')
    (hK2 : ¬ x + 64 ≤ N → ∀ h', Fr h h' (fun _ => False) → K (.int .i64 6) h') : ACall prog 69 [ptr p, memV pm, ordV s c x] h K := by
  refine acallF_of tb0 func69 rfl rfl mixed (by kernel_rfl) fun hwf => ?_
  obtain ⟨cc, hc⟩ : ∃ c, c = devC d := ⟨_, rfl⟩
  have cs : cc.size = 2058 := by rw [hc]; simp
  have ce : cc.extract (10 + s * 64) (10 + s * 64 + 64) = mem 64 (secM d s) := by rw [hc]; exact devC_sec d hs
  rw [← hc] at hb
  clear hc
  obtain ⟨e, he⟩ : ∃ e, e = mem 64 (secM d s) := ⟨_, rfl⟩
  have es : e.size = 64 := by rw [he]; simp
  have S8 := hd
  have el : e = ((bytesM d.S (s * 64) 64).map byteV).toArray := by
    rw [he, mem_bytes (M := secM d s) fun i => S8 _]
    congr 2
  have eo : oneAll e.toList = true := by
    rw [el]
    have h : ∀ l : List UInt8, oneAll (l.map byteV) = true := by
      intro l
      induction l with
      | nil => rfl
      | cons v l ih => rw [List.map_cons, oneAll_cons, ih]; rfl
    exact h _
  obtain ⟨t, ht⟩ : ∃ t, t = bytesM d.S (s * 64) 64 := ⟨_, rfl⟩
  have tl : t.length = 64 := by rw [ht, bytesM_length]
  rw [← ht] at el hK1
  have eS : strOf e.toList = some t := by rw [el]; simp only [strOf_bytes]
  have ee : e.extract 0 64 = e := by have := Array.extract_size (xs := e); rwa [es] at this
  have sl : ∀ b, asliceRow ⟨b, 0, none⟩ 1 64 128 none none none = some (.slice (some ⟨b, 0, none⟩) 64 128) := fun b => rfl
  have ep : putL (repV 64 (Value.int IntKind.u8 0)) 0 e.toList = e := putL_full (by rw [es]; simp [repV])
  have er : (repV 64 (Value.int IntKind.u8 0)).size = 64 := by simp [repV]
  rw [← he] at ce
  clear he el
  simp -dsimp (disch := omega) [hb, cs, ce, es, eo, ep, er, eS, ee, sl]
  refine ACallF.gen fun G hG => ?_
  have e0 : Ext h G := by rw [hG]; exact (Ext.alloc _ _).then_alloc _
  clear hG
  have r' := Ram_fr r (Fr.of_ext e0 fun _ => False) id id
  refine mput_call r' tl (by omega) (fun hx h1 r1 c1 => ?_) (fun hx => ?_)
  · have hk := hK1 hx h1 r1 ((Fr.of_ext e0 _).trans (Fr.ch c1 (S := fun i => i = pm ∨ i = b) (.inl rfl) (.inr rfl)) fun _ _ h => h)
    simp -dsimp (disch := omega)
    exact RetF.all (r := .int .i64 0) (by simp) hk
  · have hk := hK2 hx G (Fr.of_ext e0 _)
    simp -dsimp (disch := omega)
    exact RetF.all (r := .int .i64 6) (by simp) hk
theorem cell_S (d : Dev) {i : Nat} (h : 10 ≤ i) : cell d i = .int .u8 (d.S (i - 10)) := by
  unfold cell
  rw [if_neg (by omega), if_neg (by omega), if_neg (by omega), if_neg (by omega), if_neg (by omega), if_neg (by omega), if_neg (by omega), if_neg (by omega), if_neg (by omega), if_neg (by omega)]
/-- The bytes of all sectors, one of them laid anew. -/
def takeS (S : Nat → Nat) (s : Nat) (M : Nat → Nat) (x : Nat) : Nat → Nat := fun i => if s * 64 ≤ i ∧ i < s * 64 + 64 then M (x + (i - s * 64)) else S i
theorem devC_take (d : Dev) {s x : Nat} (hs : s < 32) (hM : ∀ i, M i < 256) : putL (devC d) (10 + s * 64) ((bytesM M x 64).map byteV) = devC { d with S := takeS d.S s M x } := by
  refine devC_ext (by simp) fun i hi => ?_
  rw [getElem?_putL]
  by_cases c : 10 + s * 64 ≤ i ∧ i < 10 + s * 64 + 64
  · rw [if_pos ⟨c.1, by simp [bytesM_length]; omega, by simp; omega⟩, List.getElem?_map]
    have e1 : (bytesM M x 64)[i - (10 + s * 64)]? = some (UInt8.ofNat (M (x + (i - (10 + s * 64))))) := by
      unfold bytesM
      rw [List.getElem?_map, List.getElem?_range (by omega)]; rfl
    have hm := hM (x + (i - (10 + s * 64)))
    rw [e1]
    rw [cell_S _ (by omega)]
    show Option.map byteV (some (UInt8.ofNat (M (x + (i - (10 + s * 64)))))) = some (.int .u8 ((takeS d.S s M x (i - 10) : Nat) : Int))
    unfold takeS
    rw [if_pos (by omega), show i - 10 - s * 64 = i - (10 + s * 64) by omega]
    simp only [Option.map_some, byteV]
    congr 2
    simp
    omega
  · rw [if_neg (by simp [bytesM_length]; omega), devC_at d hi]
    by_cases c2 : 10 ≤ i
    · rw [cell_S _ c2, cell_S _ c2]
      show some (Value.int .u8 (d.S (i - 10) : Nat)) = some (.int .u8 ((takeS d.S s M x (i - 10) : Nat) : Int))
      unfold takeS
      rw [if_neg (by omega)]
    · rcases (by omega : i = 0 ∨ i = 1 ∨ i = 2 ∨ i = 3 ∨ i = 4 ∨ i = 5 ∨ i = 6 ∨ i = 7 ∨ i = 8 ∨ i = 9) with rfl | rfl | rfl | rfl | rfl | rfl | rfl | rfl | rfl | rfl <;> rfl
theorem take_call {s c x : Nat} (hb : h.blks p = some ⟨devC d, 1, true⟩) (r : Rm.Ram h pm b N C M a w) (hp : p < h.next) (hs : s < 32)
    (hK1 : x + 64 ≤ N → ∀ h', h'.blks p = some ⟨devC { d with S := takeS d.S s M x }, 1, true⟩ → Fr h h' (fun i => i = p) → K (.int .i64 0) h')
    (hK2 : ¬ x + 64 ≤ N → ∀ h', Fr h h' (fun _ => False) → K (.int .i64 6) h') : ACall prog 70 [ptr p, memV pm, ordV s c x] h K := by
  refine acallF_of tb0 func70 rfl rfl mixed (by kernel_rfl) fun hwf => ?_
  have cs : (devC d).size = 2058 := by simp
  have hz := devC_take d (x := x) hs r.M8
  simp -dsimp (disch := omega)
  refine ACallF.gen fun G hG => ?_
  have e0 : Ext h G := by rw [hG]; exact Ext.alloc _ _
  have r' := Ram_fr r (Fr.of_ext e0 fun _ => False) id id
  have hb' : G.blks p = some ⟨devC d, 1, true⟩ := by rw [e0.same _ hp]; exact hb
  have hbx : G.blks h.next = some ⟨#[.int .u32 s, .int .u32 c, .int .u64 x], 1, true⟩ := by rw [hG]; exact blks_alloc_eq _ _
  clear hG
  refine Rm.bytes_call r' (fun hx => ?_) (fun hx => ?_)
  · have tl := bytesM_length M x 64
    obtain ⟨t, ht⟩ : ∃ t, t = bytesM M x 64 := ⟨_, rfl⟩
    rw [← ht] at hz tl ⊢
    have ts : (txt t).size = 64 := tl
    obtain ⟨cc, hc⟩ : ∃ c, c = devC d := ⟨_, rfl⟩
    rw [← hc] at hz cs hb'
    have sl2 : asliceRow ⟨p, 10 + s * 64, none⟩ 1 64 128 none none none = some (.slice (some ⟨p, 10 + s * 64, none⟩) 64 128) := by simp [asliceRow, bndD]
    have ecopy : acopy G 1 (.slice (some ⟨p, 10 + s * 64, none⟩) 64 128) (.string (txt t)) = some (.int .i64 64, G.set p ⟨devC { d with S := takeS d.S s M x }, 1, true⟩) := by
      have es : srcCells G 1 (.string (txt t)) = some (t.length, (t.map byteV).toArray) := by unfold srcCells; simp; rfl
      unfold acopy
      rw [es]
      simp only [hb', cs, tl]
      rw [if_pos ⟨trivial, by omega⟩, Blk.put_def, List.take_of_length_le (by simp [tl]), ← hz]
      rfl
    have hk := hK1 hx _ (blks_set_eq G p _) ((Fr.of_ext e0 _).trans (Fr.set G ⟨devC { d with S := takeS d.S s M x }, 1, true⟩ (S := fun i => i = p) rfl) fun _ _ h => h)
    clear hz hc ht
    simp -dsimp (disch := omega) [ts, hb', hbx, cs, sl2, ecopy]
    exact RetF.all (r := .int .i64 0) (by simp) hk
  · have hk := hK2 hx G (Fr.of_ext e0 _)
    simp -dsimp (disch := omega)
    exact RetF.all (r := .int .i64 6) (by simp) hk
end
end Go.Proofs.YtkbiadobkheafaaDoor
