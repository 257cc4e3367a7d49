/-
  Rows that a function appends to, and texts as lists of bytes.
-/
import Derived.Test.YtmnemfeofhinaaaDoorM17
import Derived.Laws.Strings
set_option linter.unusedSimpArgs false
set_option linter.unusedVariables false
set_option linter.unusedSectionVars false
namespace Go.Mini
open Go
variable [E : REnv]

/-- A heap that goes on from another. -/
structure Ext (h h' : Hp) : Prop where
  le : h.next ≤ h'.next
  same : ∀ i, i < h.next → h'.blks i = h.blks i
theorem Ext.refl (h : Hp) : Ext h h := ⟨Nat.le_refl _, fun _ _ => rfl⟩
theorem Ext.trans {h h' h'' : Hp} (a : Ext h h') (b : Ext h' h'') : Ext h h'' := ⟨Nat.le_trans a.le b.le, fun i hi => (b.same i (Nat.lt_of_lt_of_le hi a.le)).trans (a.same i hi)⟩
theorem Ext.alloc (h : Hp) (b : Blk) : Ext h (h.alloc b) := ⟨by simp, fun i hi => by simp [Hp.blks_alloc, Nat.ne_of_lt hi]⟩
theorem Ext.then_alloc {h h' : Hp} (a : Ext h h') (b : Blk) : Ext h (h'.alloc b) := a.trans (Ext.alloc _ _)
theorem Ext.then_set {h h' : Hp} (a : Ext h h') {i : Nat} (b : Blk) (hi : h.next ≤ i) : Ext h (h'.set i b) := ⟨a.le, fun j hj => by rw [blks_set_ne _ _ _ _ (by omega)]; exact a.same j hj⟩
theorem Ext.set {h h' : Hp} (a : Ext h h') (i : Nat) (b : Blk) : Ext (h.set i b) (h'.set i b) := ⟨a.le, fun j hj => by
  simp only [Hp.next_set] at hj
  by_cases hji : j = i
  · subst hji; simp [blks_set_eq]
  · rw [blks_set_ne _ _ _ _ hji, blks_set_ne _ _ _ _ hji]; exact a.same j hj⟩
/-- The result, and what there was. -/
theorem RetF.ext {P : Program} {rs : List ResultVar} {args : List Value} {h h1 : Hp} {K : Value → Hp → Prop} {t : Tm} {u1 : Tag rs} {u2 : Tag h} {u3 : Tag K} {u4 : Tag t} {u5 : Tag h1} {r : Value} (hwf : Wf h args) (he : Ext h h1) (hr : aresult P rs t h1 = Option.some r) (hv : vtop r ≤ h.next) (hK : K r h) (hc : E.can = false := by rfl) : RetF P rs h K t h1 u1 u2 u3 u4 u5 := RetF.same hwf hr hv he.same hK hc

/-- The block of a slice. -/
def sblk : Value → Option Nat
  | .slice (some a) _ _ => some a.block
  | _ => none
theorem sblk_some (a : Addr) (k c : Nat) : sblk (.slice (some a) k c) = some a.block := _root_.id rfl
theorem sblk_none (k c : Nat) : sblk (.slice none k c) = none := _root_.id rfl

/-- A row of this call's own, with n elements; nil where it has none. -/
def Row (m : Nat) (h : Hp) (esz n : Nat) (cs : List Value) (v : Value) : Prop :=
  cs.length = n * esz ∧ ((v = .slice none 0 0 ∧ n = 0) ∨ ∃ b, m ≤ b ∧ b < h.next ∧ v = .slice (some ⟨b, 0, none⟩) n (2 * n + 1) ∧ h.blks b = some ⟨cs.toArray, esz, true⟩)

theorem Row.nil (m : Nat) (h : Hp) (esz : Nat) : Row m h esz 0 [] (.slice none 0 0) := ⟨by simp, .inl ⟨rfl, rfl⟩⟩
theorem Row.slice {m : Nat} {h : Hp} {esz n : Nat} {cs : List Value} {v : Value} (hr : Row m h esz n cs v) : ∃ a c, v = .slice a n c := by
  obtain ⟨_, ⟨rfl, rfl⟩ | ⟨b, _, _, rfl, _⟩⟩ := hr
  · exact ⟨_, _, rfl⟩
  · exact ⟨_, _, rfl⟩
theorem Row.blk {m : Nat} {h : Hp} {esz n : Nat} {cs : List Value} {v : Value} (hr : Row m h esz n cs v) : ∀ b, sblk v = some b → m ≤ b ∧ b < h.next := by
  obtain ⟨_, ⟨rfl, rfl⟩ | ⟨b, h1, h2, rfl, _⟩⟩ := hr
  · intro b hb; simp [sblk] at hb
  · intro b' hb; simp only [sblk, Option.some.injEq] at hb; subst hb; exact ⟨h1, h2⟩
theorem Row.mono {m : Nat} {h h' : Hp} {esz n : Nat} {cs : List Value} {v : Value} (hr : Row m h esz n cs v) (hn : h.next ≤ h'.next) (hs : ∀ b, sblk v = some b → h'.blks b = h.blks b) : Row m h' esz n cs v := by
  obtain ⟨h0, ⟨rfl, rfl⟩ | ⟨b, h1, h2, rfl, h3⟩⟩ := hr
  · exact ⟨h0, .inl ⟨rfl, rfl⟩⟩
  · exact ⟨h0, .inr ⟨b, h1, by omega, rfl, by rw [hs b rfl]; exact h3⟩⟩
theorem Row.alloc {m : Nat} {h : Hp} {esz n : Nat} {cs : List Value} {v : Value} (hr : Row m h esz n cs v) (b : Blk) : Row m (h.alloc b) esz n cs v :=
  hr.mono (by simp) fun c hc => by have := (hr.blk c hc).2; simp [Hp.blks_alloc, Nat.ne_of_lt this]
theorem Row.set {m : Nat} {h : Hp} {esz n : Nat} {cs : List Value} {v : Value} (hr : Row m h esz n cs v) (i : Nat) (b : Blk) (hi : sblk v ≠ some i) : Row m (h.set i b) esz n cs v :=
  hr.mono (by simp) fun c hc => by
    have : c ≠ i := fun e => hi (by rw [hc, e])
    simp [Hp.blks_set, this]

theorem app_row {m : Nat} {h : Hp} {esz bytes n : Nat} {cs : List Value} {v x : Value} {k : Nat} {new : Array Value} {K : Value → Hp → Prop} {u : Tag K} (hr : Row m h esz n cs v) (hm : m ≤ h.next) (hx : srcCells h esz x = some (k, new)) (hk : 0 < k) (hsz : new.size = k * esz) (room : (n + k) * bytes ≤ ROOM ∧ n + k ≤ ROOM)
    (hK : ∀ v' h', Row m h' esz (n + k) (cs ++ new.toList) v' → h'.next = h.next + 1 → sblk v' = some h.next → (∀ i, i < h.next → sblk v ≠ some i → h'.blks i = h.blks i) → K v' h') : OptF (aappend h esz bytes v x) K u := by
  have hne : k ≠ 0 := by omega
  obtain ⟨h0, ⟨rfl, rfl⟩ | ⟨b, h1, h2, rfl, h3⟩⟩ := hr
  · have hcs : cs = [] := List.length_eq_zero_iff.1 (by simpa using h0)
    subst hcs
    unfold aappend
    simp only [hx]
    rw [if_pos ⟨trivial, trivial⟩, if_neg hne]
    unfold agrown
    rw [if_pos (by simpa using room)]
    refine hK _ _ ⟨by simp [hsz], .inr ⟨h.next, hm, by simp, by simp, by simp [Hp.blks_alloc]⟩⟩ rfl rfl ?_
    intro i hi _
    simp [Hp.blks_alloc, Nat.ne_of_lt hi]
  · unfold aappend
    simp only [hx]
    rw [if_neg (by omega), if_neg (by omega), h3]
    simp only
    rw [if_pos ⟨trivial, trivial, trivial, by simp [h0], by omega⟩]
    unfold agrown
    rw [if_pos room]
    refine hK _ _ ⟨by simp [hsz, h0, Nat.add_mul], .inr ⟨h.next, hm, by simp, by simp, by simp [Hp.blks_alloc]⟩⟩ rfl rfl ?_
    intro i hi hs
    have : i ≠ b := fun e => hs (by rw [e]; rfl)
    simp [Hp.blks_alloc, Hp.blks_kill, Nat.ne_of_lt hi, this]

/-! ### Texts -/
def txt (l : List UInt8) : ByteArray := ⟨l.toArray⟩
theorem txt_size (l : List UInt8) : (txt l).size = l.length := rfl
theorem txt_append (l l' : List UInt8) : txt l ++ txt l' = txt (l ++ l') := by
  apply ByteArray.ext
  simp [txt]
theorem txt_data (l : List UInt8) : (txt l).data.toList = l := rfl
theorem txt_of (s : ByteArray) : txt s.data.toList = s := rfl
theorem txt_inj {l l' : List UInt8} : txt l = txt l' ↔ l = l' := by
  constructor
  · intro h; have := congrArg (fun s => s.data.toList) h; simpa [txt] using this
  · intro h; rw [h]
theorem strOf_bytes (l : List UInt8) : strOf (l.map byteV) = some l := by
  induction l with
  | nil => rfl
  | cons b l ih => simp only [List.map_cons, byteV, strOf]; rw [show List.map byteV l = List.map byteV l from rfl] at ih; simp [ih]
theorem bAt_txt (l : List UInt8) (k : Nat) : bAt (txt l) k = ((l[k]?).getD 0).toNat := rfl
theorem ofBytes_row (l : List UInt8) (h : Hp) : ofBytes (some (l.map byteV).toArray) h = some (.string (txt l), h) := by
  simp [ofBytes, strOf_bytes, txt]
theorem abin_str_eql {P : Program} (ty : TypeId) (xo yo : Operand) (a b : ByteArray) : abin P .eql ty xo yo (.string a) (.string b) = some (.bool (decide (a = b))) := by
  simp only [abin, vtop, eqGuard, binOp, Op.stringOp]
  have : (a.toList == b.toList) = decide (a = b) := by
    rw [ByteArray.toList_eq, ByteArray.toList_eq, Bool.eq_iff_iff]
    simp only [beq_iff_eq, decide_eq_true_eq]
    constructor
    · intro h; rw [← txt_of a, ← txt_of b, h]
    · intro h; rw [h]
  simp [vtop, this]
theorem abin_str_neq {P : Program} (ty : TypeId) (xo yo : Operand) (a b : ByteArray) : abin P .neq ty xo yo (.string a) (.string b) = some (.bool (!decide (a = b))) := by
  simp only [abin, vtop, eqGuard, binOp, Op.stringOp]
  have : (a.toList == b.toList) = decide (a = b) := by
    rw [ByteArray.toList_eq, ByteArray.toList_eq, Bool.eq_iff_iff]
    simp only [beq_iff_eq, decide_eq_true_eq]
    constructor
    · intro h; rw [← txt_of a, ← txt_of b, h]
    · intro h; rw [h]
  simp [vtop, this]
def strR (r : Option (List UInt8)) (h : Hp) : Option (Value × Hp) := match r with | some l => some (.string (txt l), h) | none => none
theorem strR_some (l : List UInt8) (h : Hp) : strR (some l) h = some (.string (txt l), h) := _root_.id rfl
theorem ofBytes_some (cs : Array Value) (h : Hp) : ofBytes (some cs) h = strR (strOf cs.toList) h := by
  unfold ofBytes strR; simp only; cases strOf cs.toList <;> rfl
theorem txt_mk (l : List UInt8) : ByteArray.mk l.toArray = txt l := _root_.id rfl
attribute [simp] abin_str_eql abin_str_neq ofBytes_some strR_some strOf_bytes txt_size txt_append txt_mk txt_inj

/-! ### Slices and structs that are built -/
theorem foldl_putL (l : List Value) : ∀ (cs : Array Value) (off j : Nat), (l.zipIdx j).foldl (fun cs (p : Value × Nat) => cs.setIfInBounds (off + p.2) p.1) cs = putL cs (off + j) l := by
  induction l with
  | nil => intro cs off j; rfl
  | cons v l ih => intro cs off j; simp only [List.zipIdx_cons, List.foldl_cons, putL_cons]; rw [ih]; rfl
def fillC (pl : Option (Nat × Nat)) (place : Nat → Option (Nat × Nat)) (cells : Array Value) (v : Value) (rest : List (Nat × Value)) : Option (Array Value) := match pl with
  | some (off, size) => if v.cells.size = size ∧ off + v.cells.size ≤ cells.size then Instr.fill place (putL cells off v.cells.toList) rest else none
  | none => none
theorem fill_cons (place : Nat → Option (Nat × Nat)) (cells : Array Value) (i : Nat) (v : Value) (rest : List (Nat × Value)) : Instr.fill place cells ((i, v) :: rest) = fillC (place i) place cells v rest := by
  unfold Instr.fill fillC
  cases place i with
  | none => rfl
  | some p =>
    obtain ⟨off, size⟩ := p
    simp only
    have : (v.cells.zipIdx.foldl (fun cs (x : Value × Nat) => match x with | (c, j) => cs.setIfInBounds (off + j) c) cells) = putL cells off v.cells.toList := by
      rw [← Array.foldl_toList, Array.toList_zipIdx]
      exact foldl_putL v.cells.toList cells off 0
    by_cases h1 : v.cells.size = size ∧ off + v.cells.size ≤ cells.size
    · rw [if_pos h1, if_neg (by simp; omega)]
      exact congrArg (fun c => Instr.fill place c rest) this
    · rw [if_neg h1, if_pos (by simp; omega)]
theorem fillC_some (off size : Nat) (place : Nat → Option (Nat × Nat)) (cells : Array Value) (v : Value) (rest : List (Nat × Value)) : fillC (some (off, size)) place cells v rest = if v.cells.size = size ∧ off + v.cells.size ≤ cells.size then Instr.fill place (putL cells off v.cells.toList) rest else none := _root_.id rfl
theorem fill_nil (place : Nat → Option (Nat × Nat)) (cells : Array Value) : Instr.fill place cells [] = some cells := _root_.id rfl
/-- So many zeros. -/
def zrowL (l : List Value) : Nat → List Value
  | 0 => []
  | n + 1 => l ++ zrowL l n
theorem zrowL_zero (l : List Value) : zrowL l 0 = [] := _root_.id rfl
theorem zrowL_succ (l : List Value) (n : Nat) : zrowL l (n + 1) = l ++ zrowL l n := _root_.id rfl
theorem zrowL_at (l : List Value) (n : Nat) : ∀ i, i < n * l.length → (zrowL l n)[i]? = l[i % l.length]? := by
  induction n with
  | zero => intro i hi; omega
  | succ n ih =>
    intro i hi
    rw [zrowL_succ]
    rw [Nat.succ_mul] at hi
    by_cases h : i < l.length
    · rw [List.getElem?_append_left h, Nat.mod_eq_of_lt h]
    · rw [List.getElem?_append_right (by omega), ih _ (by omega), Nat.mod_eq_sub_mod (by omega : l.length ≤ i)]
theorem zrowL_length (l : List Value) (n : Nat) : (zrowL l n).length = n * l.length := by
  induction n with
  | zero => simp [zrowL]
  | succ n ih => rw [zrowL_succ, List.length_append, ih, Nat.succ_mul]; omega
theorem zeroRow_zrow (z : Array Value) (n : Nat) : zeroRow z (n * z.size) = (zrowL z.toList n).toArray := by
  unfold zeroRow
  apply Array.ext'
  apply List.ext_getElem?
  intro i
  by_cases h : i < n * z.size
  · rw [zrowL_at z.toList n i (by simpa using h)]
    have hz : 0 < z.size := by
      rcases Nat.eq_zero_or_pos z.size with h0 | h0
      · rw [h0] at h; simp at h
      · exact h0
    have : i % z.size < z.size := Nat.mod_lt _ hz
    simp [h, this]
  · rw [List.getElem?_eq_none, List.getElem?_eq_none]
    · rw [zrowL_length]; simpa using h
    · simp; omega
def bslC (r : Option (Array Value)) (esz len : Nat) (h : Hp) : Option (Value × Hp) := match r with
  | some cs => if cs.all (·.oneCell') = true then some (.slice (some ⟨h.next, 0, none⟩) len (2 * len), h.alloc ⟨cs, esz, true⟩) else none
  | none => none
theorem bslC_some (cs : Array Value) (esz len : Nat) (h : Hp) : bslC (some cs) esz len h = if oneAll cs.toList = true then some (.slice (some ⟨h.next, 0, none⟩) len (2 * len), h.alloc ⟨cs, esz, true⟩) else none := by unfold bslC; simp only [all_one]
def bslR (e : Option (Nat × Nat × Array Value)) (len : Nat) (parts : List (Nat × Value)) (h : Hp) : Option (Value × Hp) := match e with
  | some (esz, _, z) => if len * esz ≤ 16777216 then bslC (Instr.fill (fun i => some (i * esz, esz)) (zrowL z.toList len).toArray parts) esz len h else none
  | none => none
theorem elInfo_size {P : Program} {ty : TypeId} {esz b : Nat} {z : Array Value} (h : elInfo P ty = some (esz, b, z)) : z.size = esz := by
  unfold elInfo at h
  split at h
  · split at h
    · split at h
      · rename_i hc; cases h; exact hc.1
      · cases h
    · cases h
  · cases h
theorem abuildSlice_def {P : Program} (ty : TypeId) (len : Nat) (parts : List (Nat × Value)) (h : Hp) : abuildSlice P ty len parts h = bslR (elInfo P ty) len parts h := by
  unfold abuildSlice bslR
  cases he : elInfo P ty with
  | none => rfl
  | some r =>
    obtain ⟨esz, b, z⟩ := r
    have := elInfo_size he
    subst this
    simp only [zeroRow_zrow]
    rfl
theorem bslR_some (esz b : Nat) (z : Array Value) (len : Nat) (parts : List (Nat × Value)) (h : Hp) : bslR (some (esz, b, z)) len parts h = if len * esz ≤ 16777216 then bslC (Instr.fill (fun i => some (i * esz, esz)) (zrowL z.toList len).toArray parts) esz len h else none := _root_.id rfl
/-- Where the parts of a struct or an array lie. -/
inductive Plc where
  | st (l : Array (Nat × Nat))
  | arr (s : Nat)
  | no
def plc (P : Program) (ty : TypeId) : Plc :=
  match P.underlying ty with
  | some (.struct fs) => match pureRun P (fs.mapM fun f => do pure (f.offset, ← sizeOf f.type)) with
    | some l => .st l
    | none => .no
  | some (.array _ e) => match szOf P e with
    | some s => .arr s
    | none => .no
  | _ => .no
def plcF : Plc → Option (Nat → Option (Nat × Nat))
  | .st l => some fun i => l[i]?
  | .arr s => some fun i => some (i * s, s)
  | .no => none
theorem plcF_st (l : Array (Nat × Nat)) : plcF (.st l) = some fun i => l[i]? := _root_.id rfl
theorem plcF_arr (s : Nat) : plcF (.arr s) = some fun i => some (i * s, s) := _root_.id rfl
theorem placesOf_plc (P : Program) (ty : TypeId) : placesOf P ty = plcF (plc P ty) := by
  unfold placesOf plc
  cases P.underlying ty with
  | none => rfl
  | some d =>
    cases d
    case struct fs => simp only; generalize pureRun P _ = r; cases r <;> rfl
    case array k e => simp only; generalize szOf P e = r; cases r <;> rfl
    all_goals rfl
def bldR (z : Option (Array Value)) (pl : Option (Nat → Option (Nat × Nat))) (parts : List (Nat × Value)) : Option Value := match z, pl with
  | some z, some pl => (Instr.fill pl z parts).map .agg
  | _, _ => none
theorem abuild_def {P : Program} (ty : TypeId) (parts : List (Nat × Value)) : abuild P ty parts = bldR (zeroOf P ty) (plcF (plc P ty)) parts := by rw [← placesOf_plc]; rfl
theorem bldR_some (z : Array Value) (pl : Nat → Option (Nat × Nat)) (parts : List (Nat × Value)) : bldR (some z) (some pl) parts = (Instr.fill pl z parts).map .agg := _root_.id rfl
attribute [simp] fill_cons fillC_some fill_nil zrowL_zero zrowL_succ plcF_st plcF_arr bslC_some abuildSlice_def bslR_some abuild_def bldR_some strOf

/-- Where a slice's cells are. -/
theorem src_slice (h : Hp) (esz k c : Nat) (a : Addr) (cs : Array Value) (hr : rowAt h a (k * esz) = some cs) : srcCells h esz (.slice (some a) k c) = some (k, cs) := by
  unfold srcCells
  by_cases hk : k = 0
  · subst hk
    simp only [if_true]
    unfold rowAt at hr
    split at hr
    · split at hr
      · rw [Nat.zero_mul] at hr
        simp only [Option.some.injEq] at hr
        subst hr
        simp
        omega
      · cases hr
    · cases hr
  · simp only [hk, if_false, hr]
theorem src_zero (h : Hp) (esz c : Nat) (a : Option Addr) : srcCells h esz (.slice a 0 c) = some (0, #[]) := by
  unfold srcCells
  cases a <;> simp

theorem conv_row {m : Nat} {h : Hp} {l : List UInt8} {v : Value} {K : Value → Hp → Prop} {u : Tag K} (hr : Row m h 1 l.length (l.map byteV) v) (hK : K (.string (txt l)) h) : OptF (aconv .ofBytes v h) K u := by
  obtain ⟨_, ⟨rfl, h0⟩ | ⟨b, _, _, rfl, hb⟩⟩ := hr
  · have : l = [] := List.length_eq_zero_iff.1 h0
    subst this; exact hK
  · have : rowAt h ⟨b, 0, none⟩ l.length = some (l.map byteV).toArray := by
      rw [rowAt_def, hb, rowB_some, if_pos (by simp)]
      congr 1
      apply Array.ext'
      simp [List.take_of_length_le]
    rw [aconv_ofBytes, this]
    simp only [ofBytes_some, strOf_bytes, strR_some]
    exact hK

/-! ### Slices that are read -/
def Sl (h : Hp) (esz n : Nat) (cs : List Value) (v : Value) : Prop :=
  cs.length = n * esz ∧ ((∃ a c, v = .slice a 0 c ∧ n = 0) ∨ ∃ a c b, v = .slice (some a) n c ∧ h.blks a.block = some b ∧ a.off + n * esz ≤ b.cells.size ∧ ∀ j, j < n * esz → b.cells[a.off + j]? = cs[j]?)
theorem Sl.slice {h : Hp} {esz n : Nat} {cs : List Value} {v : Value} (hv : Sl h esz n cs v) : ∃ a c, v = .slice a n c := by
  obtain ⟨_, ⟨a, c, rfl, h0⟩ | ⟨a, c, b, rfl, _⟩⟩ := hv
  · exact ⟨a, c, by rw [h0]⟩
  · exact ⟨_, _, rfl⟩
theorem sblk_lt {v : Value} {n : Nat} (h : vtop v ≤ n) : ∀ b, sblk v = some b → b < n := by
  intro b hb
  unfold sblk at hb
  split at hb
  · simp only [Option.some.injEq] at hb; subst hb; simp only [vtop] at h; omega
  · cases hb
theorem Sl.mono {h h' : Hp} {esz n : Nat} {cs : List Value} {v : Value} (hv : Sl h esz n cs v) (hs : ∀ b, sblk v = some b → h'.blks b = h.blks b) : Sl h' esz n cs v := by
  obtain ⟨h0, h1 | ⟨a, c, b, rfl, h2, h3⟩⟩ := hv
  · exact ⟨h0, .inl h1⟩
  · exact ⟨h0, .inr ⟨a, c, b, rfl, by rw [hs _ rfl]; exact h2, h3⟩⟩
theorem extract2 {cs : Array Value} {o : Nat} {x y : Value} (hx : cs[o]? = some x) (hy : cs[o + 1]? = some y) : cs.extract o (o + 2) = #[x, y] := by
  have h1 := (Array.getElem?_eq_some_iff.1 hx)
  have h2 := (Array.getElem?_eq_some_iff.1 hy)
  apply Array.ext'
  apply List.ext_getElem?
  intro i
  obtain ⟨q1, q2⟩ := h1
  obtain ⟨q3, q4⟩ := h2
  rw [Array.getElem?_toList, Array.getElem?_extract]
  by_cases h0 : i = 0
  · subst h0; rw [if_pos (by omega)]; simpa using hx
  · by_cases h1 : i = 1
    · subst h1; rw [if_pos (by omega)]; simpa using hy
    · rw [if_neg (by omega)]; symm; simp; omega

end Go.Mini
