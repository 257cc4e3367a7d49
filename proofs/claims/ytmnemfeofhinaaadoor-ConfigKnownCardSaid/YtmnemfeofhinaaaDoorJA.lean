/-
  What an error tells: Code, Where. Guests; check; Check. check, Check, bad. The document's bad, Check. Build: the fields of a configuration. Build. The document's bytes of a configuration.
-/
import Derived.Test.YtmnemfeofhinaaaDoorHA
import Derived.Test.YtmnemfeofhinaaaDoorEA
import Derived.Test.YtmnemfeofhinaaaDoorM30
set_option linter.unusedSimpArgs false
set_option linter.unusedVariables false
set_option linter.unusedSectionVars false

namespace Go.Proofs.YtmnemfeofhinaaaDoor
set_option maxRecDepth 100000
open Go Go.Mini Go.Proofs.Tryd

/-- What Parse and others give as an error: none, a number, a fault. -/
inductive Er where
  | nil
  | num (n : Int)
  | flt (f : ByteArray) (at_ n : Int)
def IsEr (h : Hp) : Er → Value → Prop
  | .nil, v => v = .nilIface
  | .num n, v => v = .iface 51 (.int .i64 n)
  | .flt f a n, v => ∃ p, v = .iface 70 (.pointer (some ⟨p, 0, none⟩)) ∧ h.blks p = some (faultB f a n) ∧ p < h.next
def Er.code : Er → Int
  | .nil => 0
  | .num n => n
  | .flt _ _ n => n
theorem code_call {e : Er} {v : Value} {h : Hp} {K : Value → Hp → Prop} (he : IsEr h e v) (hE : HasErr h) (h100 : 100 < h.next) (hK : K (.int .i64 e.code) h) : ACall prog 20 [v] h K := by
  refine acallF_of tb0 func20 rfl rfl mixed (by kernel_rfl) fun hwf => ?_
  cases e with
  | nil =>
    obtain rfl := he
    simp -dsimp (disch := omega)
    exact RetF.same hwf (by simp [Er.code]) (Nat.zero_le _) (fun i hi => by simp [Hp.blks_alloc, Nat.ne_of_lt hi]) hK
  | num n =>
    obtain rfl := he
    simp -dsimp (disch := omega)
    refine as_num_call (t := h.next) (by unfold HasErr; rw [blks_alloc_ne _ _ _ (by omega)]; exact hE) (blks_alloc_eq _ _) ?_
    simp -dsimp (disch := omega)
    exact RetF.same hwf (by simp [Er.code]) (Nat.zero_le _) (fun i hi => by simp [Hp.blks_alloc, Nat.ne_of_lt hi]) hK
  | flt f a n =>
    obtain ⟨p, rfl, hp, hpn⟩ := he
    simp -dsimp (disch := omega)
    have hp' : (h.alloc ⟨#[.int .i64 0], 1, true⟩).blks p = some (faultB f a n) := by rw [blks_alloc_ne _ _ _ (by omega)]; exact hp
    refine as_wrap_call (t := h.next) (by unfold HasErr; rw [blks_alloc_ne _ _ _ (by omega)]; exact hE) hp' (blks_alloc_eq _ _) ?_
    simp -dsimp (disch := omega)
    exact RetF.same hwf (by simp [Er.code]) (Nat.zero_le _) (fun i hi => by simp [Hp.blks_alloc, Nat.ne_of_lt hi]) hK
end Go.Proofs.YtmnemfeofhinaaaDoor
namespace Go.Proofs.YtmnemfeofhinaaaDoor
set_option maxRecDepth 100000
open Go Go.Mini Go.Proofs.Tryd

def Er.field : Er → ByteArray
  | .flt f _ _ => f
  | _ => txt []
def Er.place : Er → Int
  | .flt _ a _ => a
  | _ => -1
theorem where_call {e : Er} {v : Value} {h : Hp} {K : Value → Hp → Prop} (he : IsEr h e v) (hE : HasErr h) (h100 : 100 < h.next) (hK : K (.tuple #[.string e.field, .int .i64 e.place]) h) : ACall prog 16 [v] h K := by
  refine acallF_of tb0 func16 rfl rfl mixed (by kernel_rfl) fun hwf => ?_
  cases e with
  | nil =>
    obtain rfl := he
    simp -dsimp (disch := omega)
    exact RetF.same hwf (by simp [Er.field, Er.place]) (by simp [vtop, vtopL]) (fun i hi => by simp [Hp.blks_alloc, Nat.ne_of_lt hi]) hK
  | num n =>
    obtain rfl := he
    simp -dsimp (disch := omega)
    refine as_num_not_call (t := h.next) (by unfold HasErr; rw [blks_alloc_ne _ _ _ (by omega)]; exact hE) (blks_alloc_eq _ _) ?_
    simp -dsimp (disch := omega)
    exact RetF.same hwf (by simp [Er.field, Er.place]) (by simp [vtop, vtopL]) (fun i hi => by simp [Hp.blks_alloc, Nat.ne_of_lt hi]) hK
  | flt f a n =>
    obtain ⟨p, rfl, hp, hpn⟩ := he
    simp -dsimp (disch := omega)
    have hp' : (h.alloc ⟨#[.pointer none], 1, true⟩).blks p = some (faultB f a n) := by rw [blks_alloc_ne _ _ _ (by omega)]; exact hp
    refine as_fault_call (t := h.next) (by unfold HasErr; rw [blks_alloc_ne _ _ _ (by omega)]; exact hE) (by simp; omega) (blks_alloc_eq _ _) ?_
    have hp2 : h.blks p = some ⟨#[.string f, .int .i64 a, .int .i64 n], 1, true⟩ := hp
    have hne : ¬ p = h.next := by omega
    simp -dsimp (disch := omega) [hp2, hne]
    exact RetF.same hwf (by simp [Er.field, Er.place]) (by simp [vtop, vtopL]) (fun i hi => by simp [Hp.blks_alloc, Nat.ne_of_lt hi]) hK
end Go.Proofs.YtmnemfeofhinaaaDoor
namespace Go.Proofs.YtmnemfeofhinaaaDoor
open Go Go.Mini Go.Proofs.Tryd
set_option maxRecDepth 100000

/-- A guest: pages, limit, restart, actions. -/
structure Gu where
  p : Nat
  l : Nat
  r : Nat
  ac : List Nat
def Gu.ok (g : Gu) : Prop := g.p < 256 ∧ g.l < 4294967296 ∧ g.r < 256 ∧ g.ac.length = 17 ∧ ∀ a ∈ g.ac, a < 256
def u8L (l : List Nat) : List Value := l.map fun a => .int .u8 (a : Nat)
def guC (g : Gu) : List Value := .int .u8 g.p :: .int .u32 g.l :: .int .u8 g.r :: u8L g.ac
theorem u8L_len (l : List Nat) : (u8L l).length = l.length := by simp [u8L]
theorem u8L_at {l : List Nat} {k a : Nat} (h : l[k]? = some a) : (u8L l)[k]? = some (.int .u8 a) := by simp [u8L, h]
theorem u8L_one (l : List Nat) : oneAll (u8L l) = true := by
  induction l with
  | nil => rfl
  | cons a l ih => rw [u8L, List.map_cons, ← u8L, oneAll_cons, ih]; rfl
theorem Gu.len {g : Gu} (h : g.ok) : (guC g).length = 20 := by
  obtain ⟨_, _, _, h4, _⟩ := h
  simp [guC, u8L_len, h4]
theorem guC_one (g : Gu) : oneAll (guC g) = true := by
  simp only [guC, oneAll_cons, u8L_one]; rfl
theorem guC_ext (g : Gu) (h : g.ok) : (guC g).toArray.extract 3 20 = (u8L g.ac).toArray := by
  apply Array.ext'
  have := u8L_len g.ac
  rw [h.2.2.2.1] at this
  simp [guC, List.take_of_length_le, this]
def checkG (g : Gu) : Nat := if g.p = 0 ∨ 16 < g.p then 6 else if g.ac.any (fun a => decide (4 < a)) = true then 3 else 0

section
variable {h : Hp} {K : Value → Hp → Prop}
set_option maxHeartbeats 1000000 in
theorem guest_call {g : Gu} (hok : g.ok) (hK : K (.int .i64 (checkG g)) h) : ACall prog 67 [.agg (guC g).toArray] h K := by
  refine acallF_of tb0 func67 rfl rfl mixed (by kernel_rfl) fun hwf => ?_
  obtain ⟨A, hA⟩ : ∃ A, A = (guC g).toArray := ⟨_, rfl⟩
  obtain ⟨B, hB⟩ : ∃ B, B = (u8L g.ac).toArray := ⟨_, rfl⟩
  have hx : A.extract 3 20 = B := by rw [hA, hB]; exact guC_ext g hok
  have hone : oneAll A.toList = true := by rw [hA]; exact guC_one g
  have hsz : A.size = 20 := by rw [hA]; simpa using Gu.len hok
  have h0 : A[0]? = some (.int .u8 g.p) := by rw [hA]; rfl
  have hBs : B.size = 17 := by rw [hB]; simp [u8L_len, hok.2.2.2.1]
  have hBa : ∀ k a, g.ac[k]? = some a → B[k]? = some (Value.int .u8 (a : Nat)) := fun k a hk => by rw [hB, List.getElem?_toArray]; exact u8L_at hk
  rw [← hA]
  have hlen := hok.2.2.2.1
  have hp := hok.1
  unfold checkG at hK
  by_cases c1 : g.p = 0
  · rw [if_pos (.inl c1)] at hK
    rw [c1] at h0
    simp -dsimp (disch := omega) [h0, hone, hsz, -getElem?_pos]
    exact RetF.same hwf (by simp) (Nat.zero_le _) (fun i hi => by simp [Hp.blks_alloc, Nat.ne_of_lt hi]) hK
  have c1' : ¬ (g.p : Int) < 1 := by omega
  by_cases c2 : 16 < g.p
  · have c2' : (16 : Int) < g.p := by omega
    rw [if_pos (.inr c2)] at hK
    simp -dsimp (disch := omega) [h0, hone, hsz, c1, c1', c2, c2', -getElem?_pos]
    exact RetF.same hwf (by simp) (Nat.zero_le _) (fun i hi => by simp [Hp.blks_alloc, Nat.ne_of_lt hi]) hK
  have c2' : ¬ (16 : Int) < g.p := by omega
  rw [if_neg (by omega)] at hK
  simp -dsimp (disch := omega) [h0, hx, hone, hsz, c1, c1', c2, c2', -getElem?_pos]
  refine awp_loop (fun t h' => h' = h.alloc ⟨A, 1, true⟩ ∧ ∃ k : Nat, k ≤ 17 ∧ t 14 = .agg B ∧ t 15 = .int .i64 k ∧ ∀ i, i < k → ∀ a, g.ac[i]? = some a → ¬ 4 < a) (fun t _ => 17 - ivN (t 15)) ?_ ?_
  · simp -dsimp (disch := omega)
    exact ⟨0, by omega, rfl, fun i hi => by omega⟩
  · rintro t h' ⟨rfl, k, hk, g14, g15, hall⟩
    refine vcF_sound (tb := tb0) mixed _ (by kernel_rfl) ?_
    simp -dsimp (disch := omega) [g14, g15]
    refine CondF_dec (fun hc => ?_) (fun hc => ?_)
    · obtain ⟨a, hxa⟩ : ∃ a, g.ac[k]? = some a := ⟨g.ac[k]'(by omega), List.getElem?_eq_getElem (by omega)⟩
      have hb := hBa k a hxa
      by_cases d1 : 4 < a
      · have d1' : (4 : Int) < a := by omega
        rw [if_pos (List.any_eq_true.2 ⟨a, List.mem_of_getElem? hxa, by simpa using d1⟩)] at hK
        simp -dsimp (disch := omega) [g14, g15, hBs, hb, d1, d1', -getElem?_pos]
        exact RetF.same hwf (by simp) (Nat.zero_le _) (fun i hi => by simp [Hp.blks_alloc, Nat.ne_of_lt hi]) hK
      · have d1' : ¬ (4 : Int) < a := by omega
        simp -dsimp (disch := omega) [g14, g15, hBs, hb, d1, d1', -getElem?_pos]
        refine ⟨⟨k + 1, by omega, by simp, fun i hi x he => ?_⟩, by simp [ivN]; omega⟩
        rcases Nat.lt_or_ge i k with h | h
        · exact Nat.le_of_not_lt (hall i h x he)
        · obtain rfl : i = k := by omega
          rw [hxa] at he
          cases he
          omega
    · have hany : g.ac.any (fun a => decide (4 < a)) = false := by
        rw [List.any_eq_false]
        intro e he
        obtain ⟨i, hi⟩ := List.getElem?_of_mem he
        have := (List.getElem?_eq_some_iff.1 hi).1
        simpa using hall i (by omega) e hi
      rw [if_neg (by rw [hany]; simp)] at hK
      simp -dsimp (disch := omega) [g14, g15]
      exact RetF.same hwf (by simp) (Nat.zero_le _) (fun i hi => by simp [Hp.blks_alloc, Nat.ne_of_lt hi]) hK
end
end Go.Proofs.YtmnemfeofhinaaaDoor
namespace Go.Proofs.YtmnemfeofhinaaaDoor
open Go Go.Mini Go.Proofs.Tryd
set_option maxRecDepth 100000

theorem flat_at' {α : Type} {f : α → List Value} {n : Nat} (l : List α) (hf : ∀ x ∈ l, (f x).length = n) : ∀ (k : Nat) (e : α), l[k]? = some e → ∀ j, j < n → (l.flatMap f)[k * n + j]? = (f e)[j]? := by
  induction l with
  | nil => intro k e h; simp at h
  | cons x l ih =>
    intro k e h j hj
    have hx := hf x (by simp)
    cases k with
    | zero =>
      simp only [List.getElem?_cons_zero, Option.some.injEq] at h
      subst h
      rw [List.flatMap_cons, Nat.zero_mul, Nat.zero_add, List.getElem?_append_left (by omega)]
    | succ k =>
      have := ih (fun y hy => hf y (by simp [hy])) k e (by simpa using h) j hj
      rw [List.flatMap_cons, List.getElem?_append_right (by rw [hx, Nat.succ_mul]; omega), hx, Nat.succ_mul, show k * n + n + j - n = k * n + j from by omega, this]
theorem sl_el' {α : Type} {f : α → List Value} {n : Nat} {h : Hp} {l : List α} {v : Value} {k : Nat} {e : α} (hf : ∀ x ∈ l, (f x).length = n) (hv : Sl h n l.length (l.flatMap f) v) (hk : l[k]? = some e) :
    ∃ a c b, v = .slice (some a) l.length c ∧ h.blks a.block = some b ∧ a.off + k * n + n ≤ b.cells.size ∧ b.cells.extract (a.off + k * n) (a.off + k * n + n) = (f e).toArray ∧ ∀ j, j < n → b.cells[a.off + k * n + j]? = (f e)[j]? := by
  have hlt : k < l.length := (List.getElem?_eq_some_iff.1 hk).1
  obtain ⟨h0, ⟨_, _, _, h1⟩ | ⟨a, c, b, rfl, h2, h3, h4⟩⟩ := hv
  · omega
  · have hm : k * n + n ≤ l.length * n := by rw [← Nat.succ_mul]; exact Nat.mul_le_mul_right n hlt
    have hat : ∀ j, j < n → b.cells[a.off + k * n + j]? = (f e)[j]? := fun j hj => by
      have := h4 (k * n + j) (by omega)
      rw [← Nat.add_assoc] at this
      rw [this]
      exact flat_at' l hf k e hk j hj
    refine ⟨a, c, b, rfl, h2, by omega, ?_, hat⟩
    apply Array.ext_getElem?
    intro i
    rw [Array.getElem?_extract]
    have hfe := hf e (List.mem_of_getElem? hk)
    by_cases hi : i < n
    · rw [if_pos (by omega), hat i hi]; simp
    · rw [if_neg (by omega)]
      symm
      simp [hfe]
      omega

abbrev Flt := ByteArray × Int × Int
def FltV (h : Hp) : Option Flt → Value → Prop
  | none, v => v = .pointer none
  | some (f, a, e), v => ∃ d, v = .pointer (some ⟨d, 0, none⟩) ∧ h.blks d = some (faultB f a e) ∧ d < h.next
theorem FltV.keep {h h' : Hp} {o : Option Flt} {v : Value} (x : FltV h o v) (hn : h.next ≤ h'.next) (hs : ∀ d f a e, h.blks d = some (faultB f a e) → h'.blks d = h.blks d) : FltV h' o v := by
  cases o with
  | none => exact x
  | some z =>
    obtain ⟨d, rfl, hd, hl⟩ := x
    exact ⟨d, rfl, by rw [hs d _ _ _ hd]; exact hd, by omega⟩
theorem FltV.ext {h h' : Hp} {o : Option Flt} {v : Value} (hf : FltV h o v) (x : Ext h h') : FltV h' o v := by
  cases o with
  | none => exact hf
  | some z =>
    obtain ⟨d, rfl, hd, hl⟩ := hf
    exact ⟨d, rfl, by rw [x.same _ hl]; exact hd, Nat.lt_of_lt_of_le hl x.le⟩
def sGuests : ByteArray := txt [103, 117, 101, 115, 116, 115]
def sGuest : ByteArray := txt [103, 117, 101, 115, 116]
def sWindows : ByteArray := txt [119, 105, 110, 100, 111, 119, 115]
def sChannels : ByteArray := txt [99, 104, 97, 110, 110, 101, 108, 115]
def guesC (l : List Gu) : List Value := l.flatMap guC
def firstG : List Gu → Nat → Option (Nat × Nat)
  | [], _ => none
  | g :: l, i => if checkG g ≠ 0 then some (i, checkG g) else firstG l (i + 1)
theorem firstG_step {l : List Gu} {k : Nat} {g : Gu} (hx : l[k]? = some g) (i : Nat) : firstG (l.drop k) i = if checkG g ≠ 0 then some (i, checkG g) else firstG (l.drop (k + 1)) (i + 1) := by
  obtain ⟨h1, h2⟩ := List.getElem?_eq_some_iff.1 hx
  rw [List.drop_eq_getElem_cons h1, h2]
  rfl
def chkC (gs : List Gu) (ws : List Win) (cs : List Ch) : Option Flt :=
  if gs.length = 0 ∨ 16 < gs.length then some (sGuests, 0, 6) else match firstG gs 0 with
    | some (i, e) => some (sGuest, (i : Nat), (e : Nat))
    | none => if checkW ws gs.length ≠ 0 then some (sWindows, 0, (checkW ws gs.length : Nat)) else if checkC cs gs.length ≠ 0 then some (sChannels, 0, (checkC cs gs.length : Nat)) else none
/-- A configuration as it lies. -/
structure CfV (h : Hp) (gs : List Gu) (ws : List Win) (L : List (Ch × Value)) (vg vw vc : Value) : Prop where
  g : Sl h 20 gs.length (guesC gs) vg
  w : Sl h 2 ws.length (winsC ws) vw
  c : ChV h L vc
  gok : ∀ g ∈ gs, g.ok
  wok : ∀ w ∈ ws, w.ok
  lg : gs.length < 9223372036854775808
  lw : ws.length < 9223372036854775808
  lc : L.length < 9223372036854775808
theorem ChV.ext {h h' : Hp} {L : List (Ch × Value)} {v : Value} (c : ChV h L v) (x : Ext h h') (hv : ∀ b, sblk v = some b → b < h.next) (hl : ∀ e ∈ L, ∀ b, sblk e.2 = some b → b < h.next) : ChV h' L v :=
  ⟨c.sl.mono fun b hb => x.same _ (hv b hb), fun e he => ⟨(c.ok e he).1, (c.ok e he).2.mono fun b hb => x.same _ (hl e he b hb)⟩⟩
theorem sl_tops {h : Hp} {L : List (Ch × Value)} {v : Value} {args : List Value} (hwf : Wf h args) (c : Sl h 7 L.length (chsC L) v) : ∀ e ∈ L, ∀ b, sblk e.2 = some b → b < h.next := by
  intro e he
  obtain ⟨k, hk⟩ := List.getElem?_of_mem he
  obtain ⟨a', cc, b', q2, fa, s1, x1, y1⟩ := sl_el (f := fun x : Ch × Value => chC x.1 x.2) (n := 7) chC_len c hk
  exact sblk_lt (hwf.top _ _ fa e.2 (Array.mem_of_getElem? (y1 3 (by omega))))

section
variable {h : Hp} {K : Value → Hp → Prop}
theorem guestA_call {g : Gu} {A : Array Value} (hok : g.ok) (hA : A = (guC g).toArray) (hK : K (.int .i64 (checkG g)) h) : ACall prog 67 [.agg A] h K := by
  subst hA
  exact guest_call hok hK
set_option maxHeartbeats 2000000 in
theorem check42_call {gs : List Gu} {ws : List Win} {L : List (Ch × Value)} {vg vw vc : Value} (hv : CfV h gs ws L vg vw vc) (hK : ∀ h' v, Ext h h' → FltV h' (chkC gs ws (L.map (·.1))) v → K v h') : ACall prog 42 [.agg #[vg, vw, vc]] h K := by
  refine acallF_of tb0 func42 rfl rfl mixed (by kernel_rfl) fun hwf => ?_
  have ht := hwf.args _ (List.mem_cons_self ..)
  have htg := sblk_lt (Nat.le_trans (show vtop vg ≤ vtop (.agg #[vg, vw, vc]) by simp [vtop, vtopL]; omega) ht)
  have htw := sblk_lt (Nat.le_trans (show vtop vw ≤ vtop (.agg #[vg, vw, vc]) by simp [vtop, vtopL]; omega) ht)
  have htc := sblk_lt (Nat.le_trans (show vtop vc ≤ vtop (.agg #[vg, vw, vc]) by simp [vtop, vtopL]; omega) ht)
  have hto := sl_tops hwf hv.c.sl
  obtain ⟨ag, cg, rfl⟩ := hv.g.slice
  obtain ⟨aw, cw, rfl⟩ := hv.w.slice
  obtain ⟨ac, cc, rfl⟩ := hv.c.sl.slice
  unfold chkC at hK
  obtain ⟨n, hn⟩ : ∃ n, n = gs.length := ⟨_, rfl⟩
  have hlg := hv.lg
  have hvg := hv.g
  rw [← hn] at hlg
  rw [← hn] at hK
  by_cases c1 : n = 0
  · rw [if_pos (.inl c1)] at hK
    simp -dsimp (disch := omega) [← hn, c1]
    exact RetF.all (by simp) (hK _ _ ⟨by simp; omega, fun i hi => by simp (disch := omega)⟩ ⟨h.next + 1, rfl, by simp (disch := omega); rfl, by simp⟩)
  have c1' : ¬ (n : Int) < 1 := by omega
  by_cases c2 : 16 < n
  · have c2' : (16 : Int) < n := by omega
    rw [if_pos (.inr c2)] at hK
    simp -dsimp (disch := omega) [← hn, c1, c1', c2, c2']
    exact RetF.all (by simp) (hK _ _ ⟨by simp; omega, fun i hi => by simp (disch := omega)⟩ ⟨h.next + 1, rfl, by simp (disch := omega); rfl, by simp⟩)
  have c2' : ¬ (16 : Int) < n := by omega
  rw [if_neg (by omega)] at hK
  simp -dsimp (disch := omega) [← hn, c1, c1', c2, c2']
  refine awp_loop (fun t h' => Ext (h.alloc ⟨#[.slice ag n cg, .slice aw ws.length cw, .slice ac L.length cc], 1, true⟩) h' ∧ ∃ k : Nat, k ≤ n ∧ t 1 = ptr h.next ∧ t 3 = .int .i64 n ∧ t 21 = .slice ag n cg ∧ t 22 = .int .i64 n ∧ t 23 = .int .i64 k ∧ firstG gs 0 = firstG (gs.drop k) k) (fun t _ => n - ivN (t 23)) ?_ ?_
  · simp -dsimp (disch := omega)
    exact ⟨Ext.refl _, 0, by omega, rfl, rfl⟩
  · rintro t h' ⟨hs, k, hk, g1, g3, g21, g22, g23, hrun⟩
    refine vcF_sound (tb := tb0) mixed _ (by kernel_rfl) ?_
    simp -dsimp (disch := omega) [g21, g22, g23]
    have hsn := hs.le
    have hsn : h.next + 1 ≤ h'.next := by simpa using hsn
    have hE : Ext h h' := (Ext.alloc _ _).trans hs
    have hb : h'.blks h.next = some ⟨#[.slice ag n cg, .slice aw ws.length cw, .slice ac L.length cc], 1, true⟩ := by rw [hs.same _ (by simp)]; exact blks_alloc_eq _ _
    refine CondF_dec (fun hc => ?_) (fun hc => ?_)
    · obtain ⟨g, hx⟩ : ∃ w, gs[k]? = some w := ⟨gs[k]'(by omega), List.getElem?_eq_getElem (by omega)⟩
      obtain ⟨a', cc', b', q2, fa, s1, x1, y1⟩ := sl_el' (f := guC) (n := 20) (fun x hx => Gu.len (hv.gok x hx)) hvg hx
      cases q2
      have hab : a'.block < h.next := htg _ rfl
      rw [← hE.same _ hab] at fa
      have hok := hv.gok _ (List.mem_of_getElem? hx)
      rw [firstG_step hx] at hrun
      clear y1
      obtain ⟨A, hA⟩ : ∃ A, A = (guC g).toArray := ⟨_, rfl⟩
      have hone : oneAll A.toList = true := by rw [hA]; exact guC_one g
      have hsz : A.size = 20 := by rw [hA]; simpa using Gu.len hok
      have hex : A.extract 0 20 = A := by rw [← hsz]; exact Array.extract_size
      rw [← hA] at x1
      have hput : Mini.putL #[Value.int .u8 0, Value.int .u32 0, Value.int .u8 0, Value.int .u8 0, Value.int .u8 0, Value.int .u8 0, Value.int .u8 0, Value.int .u8 0, Value.int .u8 0, Value.int .u8 0, Value.int .u8 0, Value.int .u8 0, Value.int .u8 0, Value.int .u8 0, Value.int .u8 0, Value.int .u8 0, Value.int .u8 0, Value.int .u8 0, Value.int .u8 0, Value.int .u8 0] 0 A.toList = A := putL_full (by rw [hsz]; rfl)
      simp -dsimp (disch := omega) [g21, g23, fa, s1, x1, hone, hsz, hput, hex]
      refine guestA_call hok hA ?_
      by_cases d : checkG g = 0
      · rw [if_neg (by simpa using d)] at hrun
        simp -dsimp (disch := omega) [d, g1, g3, g21, g22, g23]
        exact ⟨⟨hs.trans (Ext.alloc _ _), k + 1, by omega, by simp, hrun⟩, by simp [ivN]; omega⟩
      · rw [if_pos d] at hrun
        rw [hrun] at hK
        have d' : ¬ (checkG g : Int) = 0 := by omega
        simp -dsimp (disch := omega) [d, d']
        exact RetF.all (by simp) (hK _ _ ((hE.trans (Ext.alloc _ _)).trans (Ext.alloc _ _)) ⟨h'.next + 1, rfl, by simp (disch := omega); rfl, by simp⟩)
    · have hkn : k = n := by omega
      rw [hkn, hn, List.drop_length] at hrun
      have hrun : firstG gs 0 = none := hrun
      rw [hrun] at hK
      dsimp only at hK
      simp -dsimp (disch := omega) [g1, g3, g21, g22, g23, hb]
      refine check_call hv.wok (hv.w.mono fun b hb => hE.same _ (htw b hb)) hv.lw ?_
      by_cases d : checkW ws n = 0
      · rw [if_neg (by simpa using d)] at hK
        simp -dsimp (disch := omega) [d, g1, g3, hb]
        refine chanCheck_call (hv.c.ext hE htc hto) hv.lc ?_
        by_cases d2 : checkC (L.map (·.1)) n = 0
        · rw [if_neg (by simpa using d2)] at hK
          simp -dsimp (disch := omega) [d2]
          exact RetF.all (by simp) (hK _ _ hE rfl)
        · rw [if_pos d2] at hK
          have d2' : ¬ (checkC (L.map (·.1)) n : Int) = 0 := by omega
          simp -dsimp (disch := omega) [d2, d2']
          exact RetF.all (by simp) (hK _ _ (hE.trans (Ext.alloc _ _)) ⟨h'.next, rfl, by simp (disch := omega); rfl, by simp⟩)
      · rw [if_pos d] at hK
        have d' : ¬ (checkW ws n : Int) = 0 := by omega
        simp -dsimp (disch := omega) [d, d']
        exact RetF.all (by simp) (hK _ _ (hE.trans (Ext.alloc _ _)) ⟨h'.next, rfl, by simp (disch := omega); rfl, by simp⟩)
/-- An error out of a fault. -/
def erOf : Option Flt → Er
  | none => .nil
  | some (f, a, n) => .flt f a n
theorem check_call' {gs : List Gu} {ws : List Win} {L : List (Ch × Value)} {vg vw vc : Value} (hv : CfV h gs ws L vg vw vc) (hK : ∀ h' v, Ext h h' → IsEr h' (erOf (chkC gs ws (L.map (·.1)))) v → K v h') : ACall prog 19 [.agg #[vg, vw, vc]] h K := by
  refine acallF_of tb0 func19 rfl rfl mixed (by kernel_rfl) fun hwf => ?_
  have ht := hwf.args _ (List.mem_cons_self ..)
  have htg := sblk_lt (Nat.le_trans (show vtop vg ≤ vtop (.agg #[vg, vw, vc]) by simp [vtop, vtopL]; omega) ht)
  have htw := sblk_lt (Nat.le_trans (show vtop vw ≤ vtop (.agg #[vg, vw, vc]) by simp [vtop, vtopL]; omega) ht)
  have htc := sblk_lt (Nat.le_trans (show vtop vc ≤ vtop (.agg #[vg, vw, vc]) by simp [vtop, vtopL]; omega) ht)
  have hto := sl_tops hwf hv.c.sl
  obtain ⟨ag, cg, e1⟩ := hv.g.slice
  obtain ⟨aw, cw, e2⟩ := hv.w.slice
  obtain ⟨ac, cc, e3⟩ := hv.c.sl.slice
  subst e1 e2 e3
  simp -dsimp (disch := omega)
  have x := Ext.alloc h ⟨#[.slice ag gs.length cg, .slice aw ws.length cw, .slice ac L.length cc], 1, true⟩
  refine check42_call (vg := .slice ag gs.length cg) (vw := .slice aw ws.length cw) (vc := .slice ac L.length cc) (h := h.alloc ⟨#[.slice ag gs.length cg, .slice aw ws.length cw, .slice ac L.length cc], 1, true⟩) ⟨hv.g.mono fun b hb => x.same _ (htg b hb), hv.w.mono fun b hb => x.same _ (htw b hb), hv.c.ext x htc hto, hv.gok, hv.wok, hv.lg, hv.lw, hv.lc⟩ fun h' v x2 hf => ?_
  have hx := x.trans x2
  cases hc : chkC gs ws (L.map (·.1)) with
  | none =>
    rw [hc] at hf hK
    obtain rfl : v = .pointer none := hf
    simp -dsimp (disch := omega)
    exact RetF.all (by simp) (hK _ _ hx rfl)
  | some z =>
    obtain ⟨f, a, n⟩ := z
    rw [hc] at hf hK
    obtain ⟨d, rfl, hd, hl⟩ := hf
    simp -dsimp (disch := omega)
    exact RetF.all (by simp) (hK _ _ hx ⟨d, rfl, hd, hl⟩)
end
end Go.Proofs.YtmnemfeofhinaaaDoor
namespace Go.Proofs.YtmnemfeofhinaaaDoor
open Go Go.Mini Go.Proofs.Tryd
set_option maxRecDepth 100000

def badV (z : Flt) : Value := .agg #[.string z.1, .int .i64 z.2.1, .int .i64 z.2.2, .slice none 0 0, .slice none 0 0, .slice none 0 0]
def goodV (vg vw vc : Value) : Value := .agg #[.string (txt []), .int .i64 (-1), .int .i64 0, vg, vw, vc]
def toldV (o : Option Flt) (vg vw vc : Value) : Value := match o with
  | some z => badV z
  | none => goodV vg vw vc

section
variable {h : Hp} {K : Value → Hp → Prop}
theorem bad_call {f : ByteArray} {a e : Int} (hK : K (badV (f, a, e)) h) : ACall prog 43 [.string f, .int .i64 a, .int .i64 e] h K := by
  refine acallF_of tb0 func43 rfl rfl mixed (by kernel_rfl) fun hwf => ?_
  simp -dsimp (disch := omega)
  exact RetF.same hwf (by simp [badV]) (by simp [badV, vtop, vtopL]) (fun i hi => by simp (disch := omega)) hK
theorem firstG_max : ∀ (l : List Gu) (i : Nat) {j e : Nat}, firstG l i = some (j, e) → e = 6 ∨ e = 3
  | [], _, _, _, h => by cases h
  | g :: l, i, j, e, h => by
    unfold firstG at h
    split at h
    · rename_i hc
      cases h
      unfold checkG at hc ⊢
      split
      · exact .inl rfl
      · rename_i h1
        rw [if_neg h1] at hc
        split
        · exact .inr rfl
        · rename_i h2
          rw [if_neg h2] at hc
          exact absurd rfl hc
    · exact firstG_max l (i + 1) h
set_option maxHeartbeats 4000000 in
theorem refCheck28_call {gs : List Gu} {ws : List Win} {L : List (Ch × Value)} {vg vw vc : Value} (hv : CfV h gs ws L vg vw vc) (hK : K (toldV (chkC gs ws (L.map (·.1))) vg vw vc) h) : ACall prog 17 [.agg #[vg, vw, vc]] h K := by
  refine acallF_of tb0 func17 rfl rfl mixed (by kernel_rfl) fun hwf => ?_
  have ht := hwf.args _ (List.mem_cons_self ..)
  have htg := sblk_lt (Nat.le_trans (show vtop vg ≤ vtop (.agg #[vg, vw, vc]) by simp [vtop, vtopL]; omega) ht)
  have htw := sblk_lt (Nat.le_trans (show vtop vw ≤ vtop (.agg #[vg, vw, vc]) by simp [vtop, vtopL]; omega) ht)
  have htc := sblk_lt (Nat.le_trans (show vtop vc ≤ vtop (.agg #[vg, vw, vc]) by simp [vtop, vtopL]; omega) ht)
  have hto := sl_tops hwf hv.c.sl
  have htt : vtop (toldV (chkC gs ws (L.map (·.1))) vg vw vc) ≤ h.next := by
    cases chkC gs ws (L.map (·.1)) with
    | none =>
      have : vtop (goodV vg vw vc) = vtop (.agg #[vg, vw, vc]) := by simp [goodV, vtop, vtopL]
      exact this ▸ ht
    | some z => simp [toldV, badV, vtop, vtopL]
  obtain ⟨ag, cg, e1⟩ := hv.g.slice
  obtain ⟨aw, cw, e2⟩ := hv.w.slice
  obtain ⟨ac, cc, e3⟩ := hv.c.sl.slice
  subst e1 e2 e3
  unfold chkC at hK htt
  obtain ⟨n, hn⟩ : ∃ n, n = gs.length := ⟨_, rfl⟩
  have hlg := hv.lg
  have hvg := hv.g
  rw [← hn] at hlg
  rw [← hn] at hK htt
  by_cases c1 : n = 0
  · rw [if_pos (.inl c1)] at hK htt
    simp -dsimp (disch := omega) [← hn, c1]
    refine bad_call ?_
    simp -dsimp (disch := omega) [badV]
    exact RetF.same hwf (by simp [toldV, badV]; rfl) htt (fun i hi => by simp (disch := omega)) hK
  have c1' : ¬ (n : Int) < 1 := by omega
  by_cases c2 : 16 < n
  · have c2' : (16 : Int) < n := by omega
    rw [if_pos (.inr c2)] at hK htt
    simp -dsimp (disch := omega) [← hn, c1, c1', c2, c2']
    refine bad_call ?_
    simp -dsimp (disch := omega) [badV]
    exact RetF.same hwf (by simp [toldV, badV]; rfl) htt (fun i hi => by simp (disch := omega)) hK
  have c2' : ¬ (16 : Int) < n := by omega
  rw [if_neg (by omega)] at hK htt
  simp -dsimp (disch := omega) [← hn, c1, c1', c2, c2']
  obtain ⟨H, hH⟩ : ∃ H : Hp, H = (h.alloc ⟨#[.slice ag n cg, .slice aw ws.length cw, .slice ac L.length cc], 1, true⟩).alloc ⟨#[.string ⟨#[]⟩, .int .i64 0, .int .i64 0, .slice none 0 0, .slice none 0 0, .slice none 0 0], 1, true⟩ := ⟨_, rfl⟩
  have hHn : H.next = h.next + 2 := by rw [hH]; simp
  have hHs : ∀ i, i < h.next → H.blks i = h.blks i := fun i hi => by rw [hH]; simp (disch := omega)
  have hE : Ext h H := ⟨by omega, hHs⟩
  have hb0 : H.blks h.next = some ⟨#[.slice ag n cg, .slice aw ws.length cw, .slice ac L.length cc], 1, true⟩ := by rw [hH]; simp (disch := omega)
  have hb1 : H.blks (h.next + 1) = some ⟨#[.string ⟨#[]⟩, .int .i64 0, .int .i64 0, .slice none 0 0, .slice none 0 0, .slice none 0 0], 1, true⟩ := by rw [hH]; simp (disch := omega)
  refine awp_loop (fun t h' => h' = H ∧ ∃ k : Nat, k ≤ n ∧ t 1 = ptr h.next ∧ t 2 = ptr (h.next + 1) ∧ t 3 = .int .i64 n ∧ t 4 = .int .i64 k ∧ firstG gs 0 = firstG (gs.drop k) k) (fun t _ => n - ivN (t 4)) ?_ ?_
  · simp -dsimp (disch := omega)
    exact ⟨hH.symm, 0, by omega, rfl, rfl⟩
  · rintro t h' ⟨rfl, k, hk, g1, g2, g3, g4, hrun⟩
    refine vcF_sound (tb := tb0) mixed _ (by kernel_rfl) ?_
    simp -dsimp (disch := omega) [g3, g4]
    refine CondF_dec (fun hc => ?_) (fun hc => ?_)
    · obtain ⟨g, hx⟩ : ∃ w, gs[k]? = some w := ⟨gs[k]'(by omega), List.getElem?_eq_getElem (by omega)⟩
      obtain ⟨a', cc', b', q2, fa, s1, x1, y1⟩ := sl_el' (f := guC) (n := 20) (fun x hx => Gu.len (hv.gok x hx)) hvg hx
      cases q2
      have hab : a'.block < h.next := htg _ rfl
      rw [← hHs _ hab] at fa
      have hok := hv.gok _ (List.mem_of_getElem? hx)
      have hlen := hok.2.2.2.1
      rw [firstG_step hx] at hrun
      have y0 : b'.cells[a'.off + k * 20]? = some (.int .u8 g.p) := y1 0 (by omega)
      have ya : ∀ j a, g.ac[j]? = some a → b'.cells[a'.off + k * 20 + 3 + j]? = some (Value.int .u8 (a : Nat)) := fun j a hj => by
        have hjl := (List.getElem?_eq_some_iff.1 hj).1
        have := y1 (3 + j) (by omega)
        rw [← Nat.add_assoc] at this
        rw [this]
        simp only [guC]
        rw [show 3 + j = j + 1 + 1 + 1 by omega, List.getElem?_cons_succ, List.getElem?_cons_succ, List.getElem?_cons_succ]
        exact u8L_at hj
      clear x1 y1
      have hp := hok.1
      by_cases d1 : g.p = 0
      · have hg6 : checkG g = 6 := by unfold checkG; rw [if_pos (.inl d1)]
        rw [hg6, if_pos (by decide)] at hrun
        rw [hrun] at hK htt
        rw [d1] at y0
        simp -dsimp (disch := omega) [g1, g2, g4, hb0, fa, y0, -getElem?_pos]
        refine bad_call ?_
        simp -dsimp (disch := omega) [g2, hb1, badV]
        exact RetF.same hwf (by simp (disch := omega) [toldV, badV, g2]; rfl) htt (fun i hi => by simp (disch := omega) [hHs i hi]) hK
      have d1' : ¬ (g.p : Int) < 1 := by omega
      by_cases d2 : 16 < g.p
      · have d2' : (16 : Int) < g.p := by omega
        have hg6 : checkG g = 6 := by unfold checkG; rw [if_pos (.inr d2)]
        rw [hg6, if_pos (by decide)] at hrun
        rw [hrun] at hK htt
        simp -dsimp (disch := omega) [g1, g2, g4, hb0, fa, y0, d1, d1', d2, d2', -getElem?_pos]
        refine bad_call ?_
        simp -dsimp (disch := omega) [g2, hb1, badV]
        exact RetF.same hwf (by simp (disch := omega) [toldV, badV, g2]; rfl) htt (fun i hi => by simp (disch := omega) [hHs i hi]) hK
      have d2' : ¬ (16 : Int) < g.p := by omega
      have hd : ¬ (g.p = 0 ∨ 16 < g.p) := by omega
      simp -dsimp (disch := omega) [g1, g2, g4, hb0, fa, y0, d1, d1', d2, d2', -getElem?_pos]
      refine awp_loop (fun t h2 => h2 = h' ∧ ∃ j : Nat, j ≤ 17 ∧ t 1 = ptr h.next ∧ t 2 = ptr (h.next + 1) ∧ t 3 = .int .i64 n ∧ t 4 = .int .i64 k ∧ t 5 = .int .i64 j ∧ ∀ i, i < j → ∀ a, g.ac[i]? = some a → ¬ 4 < a) (fun t _ => 17 - ivN (t 5)) ?_ ?_
      · simp -dsimp (disch := omega) [g1, g2, g3, g4]
        exact ⟨0, by omega, rfl, fun i hi => by omega⟩
      · rintro t2 h2 ⟨rfl, j, hj, k1, k2, k3, k4, k5, hall⟩
        refine vcF_sound (tb := tb0) mixed _ (by kernel_rfl) ?_
        simp -dsimp (disch := omega) [k5]
        refine CondF_dec (fun hc2 => ?_) (fun hc2 => ?_)
        · obtain ⟨a, hxa⟩ : ∃ a, g.ac[j]? = some a := ⟨g.ac[j]'(by omega), List.getElem?_eq_getElem (by omega)⟩
          have hya := ya j a hxa
          by_cases d3 : 4 < a
          · have d3' : (4 : Int) < a := by omega
            have hg3 : checkG g = 3 := by unfold checkG; rw [if_neg hd, if_pos (List.any_eq_true.2 ⟨a, List.mem_of_getElem? hxa, by simpa using d3⟩)]
            rw [hg3, if_pos (by decide)] at hrun
            rw [hrun] at hK htt
            simp -dsimp (disch := omega) [k1, k2, k4, k5, hb0, fa, hya, d3, d3', -getElem?_pos]
            refine bad_call ?_
            simp -dsimp (disch := omega) [k2, hb1, badV]
            exact RetF.same hwf (by simp (disch := omega) [toldV, badV, k2]; rfl) htt (fun i hi => by simp (disch := omega) [hHs i hi]) hK
          · have d3' : ¬ (4 : Int) < a := by omega
            simp -dsimp (disch := omega) [k1, k2, k3, k4, k5, hb0, fa, hya, d3, d3', -getElem?_pos]
            refine ⟨⟨j + 1, by omega, by simp, fun i hi x he => ?_⟩, by simp [ivN]; omega⟩
            rcases Nat.lt_or_ge i j with h | h
            · exact Nat.le_of_not_lt (hall i h x he)
            · obtain rfl : i = j := by omega
              rw [hxa] at he
              cases he
              omega
        · have hany : g.ac.any (fun a => decide (4 < a)) = false := by
            rw [List.any_eq_false]
            intro e he
            obtain ⟨i, hi⟩ := List.getElem?_of_mem he
            have := (List.getElem?_eq_some_iff.1 hi).1
            simpa using hall i (by omega) e hi
          have hg0 : checkG g = 0 := by unfold checkG; rw [if_neg hd, if_neg (show ¬ (g.ac.any (fun a => decide (4 < a)) = true) by rw [hany]; simp)]
          rw [hg0, if_neg (by simp)] at hrun
          simp -dsimp (disch := omega) [k1, k2, k3, k4, k5]
          exact ⟨⟨k + 1, by omega, by simp, hrun⟩, by simp [ivN, g4]; omega⟩
    · have hkn : k = n := by omega
      rw [hkn, hn, List.drop_length] at hrun
      have hrun : firstG gs 0 = none := hrun
      rw [hrun] at hK htt
      dsimp only at hK htt
      simp -dsimp (disch := omega) [g1, g2, g3, g4, hb0]
      refine refCheck_call hv.wok (hv.w.mono fun b hb => hHs _ (htw b hb)) hv.lw ?_
      by_cases d : checkW ws n = 0
      · rw [if_neg (by simpa using d)] at hK htt
        simp -dsimp (disch := omega) [d, g1, g2, g3, hb0]
        refine refChan_call (hv.c.ext hE htc hto) hv.lc ?_
        by_cases d2 : checkC (L.map (·.1)) n = 0
        · rw [if_neg (by simpa using d2)] at hK htt
          simp -dsimp (disch := omega) [d2, g1, g2, hb0, hb1]
          exact RetF.same hwf (by simp (disch := omega) [toldV, goodV, g2]) htt (fun i hi => by simp (disch := omega) [hHs i hi]) hK
        · rw [if_pos d2] at hK htt
          have d2' : ¬ (checkC (L.map (·.1)) n : Int) = 0 := by omega
          simp -dsimp (disch := omega) [d2, d2', g1, g2, g3, hb0]
          refine refChan_call (hv.c.ext hE htc hto) hv.lc ?_
          simp -dsimp (disch := omega)
          refine bad_call ?_
          simp -dsimp (disch := omega) [g2, hb1, badV]
          exact RetF.same hwf (by simp (disch := omega) [toldV, badV, g2]; rfl) htt (fun i hi => by simp (disch := omega) [hHs i hi]) hK
      · rw [if_pos d] at hK htt
        have d' : ¬ (checkW ws n : Int) = 0 := by omega
        simp -dsimp (disch := omega) [d, d', g1, g2, g3, hb0]
        refine refCheck_call hv.wok (hv.w.mono fun b hb => hHs _ (htw b hb)) hv.lw ?_
        simp -dsimp (disch := omega)
        refine bad_call ?_
        simp -dsimp (disch := omega) [g2, hb1, badV]
        exact RetF.same hwf (by simp (disch := omega) [toldV, badV, g2]; rfl) htt (fun i hi => by simp (disch := omega) [hHs i hi]) hK
end
end Go.Proofs.YtmnemfeofhinaaaDoor
namespace Go.Proofs.YtmnemfeofhinaaaDoor
open Go Go.Mini Go.Proofs.Tryd
set_option maxRecDepth 100000

def fvJ : List Value → Value
  | [.int _ n] => .agg #[.int .u64 n, .int .i64 1]
  | _ => undef
theorem fvJ_eq (k : IntKind) (n : Int) : fvJ [.int k n] = .agg #[.int .u64 n, .int .i64 1] := rfl
abbrev nvJ : NVal := ⟨fun _ => fvJ⟩
theorem nvJ_f (i : Nat) : @NVal.f nvJ i = fvJ := rfl
def tbJ : Nat → Marks := fun k => if k = 8 then @Marks.mk [3000003, 3000010] (fun _ => True) nvJ else if k = 19 then @Marks.mk [3000003] (fun _ => True) nvJ else if k = 25 then @Marks.mk [3000003, 3000006, 3000009, 3000012, 3000015, 3000023] (fun _ => True) nvJ else if k = 29 then @Marks.mk [3000003, 3000006] (fun _ => True) nvJ else ⟨[], fun _ => True⟩
theorem tbJ_8 : tbJ 8 = @Marks.mk [3000003, 3000010] (fun _ => True) nvJ := rfl
theorem tbJ_19 : tbJ 19 = @Marks.mk [3000003] (fun _ => True) nvJ := rfl
theorem tbJ_25 : tbJ 25 = @Marks.mk [3000003, 3000006, 3000009, 3000012, 3000015, 3000023] (fun _ => True) nvJ := rfl
theorem tbJ_29 : tbJ 29 = @Marks.mk [3000003, 3000006] (fun _ => True) nvJ := rfl

def aFl (l : List Nat) : List (Int × Int) := l.map fun a : Nat => ((a : Int), (1 : Int))
theorem aFl_snoc (l : List Nat) (a : Nat) : aFl (l ++ [a]) = aFl l ++ [((a : Int), 1)] := by simp [aFl]
theorem aFl_len (l : List Nat) : (aFl l).length = l.length := by simp [aFl]
def gFl (g : Gu) : List (Int × Int) := [((g.p : Int), 1), ((g.l : Int), 4), ((g.r : Int), 1)] ++ aFl g.ac
def wFl (w : Win) : List (Int × Int) := [((w.g : Int), 1), ((w.s : Int), 2)]
def eFl (e : Nat × Nat) : List (Int × Int) := [((e.1 : Int), 1), ((e.2 : Int), 1)]
def cHd (c : Ch) : List (Int × Int) := [((c.k : Int), 1), ((c.g : Int), 1), ((c.p : Int), 1), ((c.m : Int), 1), ((c.d : Int), 1), ((c.v : Int), 4), ((c.to.length : Int), 1)]
def cFl (c : Ch) : List (Int × Int) := cHd c ++ c.to.flatMap eFl
def nFl (n : Nat) : List (Int × Int) := [((n : Int), 1)]
def fl1 (gs : List Gu) : List (Int × Int) := nFl gs.length ++ gs.flatMap gFl
def fl2 (gs : List Gu) (ws : List Win) : List (Int × Int) := fl1 gs ++ nFl ws.length ++ ws.flatMap wFl
def flA (gs : List Gu) (ws : List Win) (cs : List Ch) : List (Int × Int) := fl2 gs ws ++ nFl cs.length ++ cs.flatMap cFl
theorem gsF_len {l : List Gu} (h : ∀ g ∈ l, g.ok) : (l.flatMap gFl).length = 20 * l.length := by
  induction l with
  | nil => rfl
  | cons g l ih =>
    have h1 := (h g (by simp)).2.2.2.1
    rw [List.flatMap_cons, List.length_append, ih fun x hx => h x (by simp [hx])]
    simp [gFl, aFl_len, h1]
    omega
theorem wsF_len (l : List Win) : (l.flatMap wFl).length = 2 * l.length := by
  induction l with
  | nil => rfl
  | cons g l ih => rw [List.flatMap_cons, List.length_append, ih, List.length_cons]; simp [wFl]; omega
theorem esF_len (l : List (Nat × Nat)) : (l.flatMap eFl).length = 2 * l.length := by
  induction l with
  | nil => rfl
  | cons g l ih => rw [List.flatMap_cons, List.length_append, ih, List.length_cons]; simp [eFl]; omega
theorem csF_len {l : List Ch} (h : ∀ c ∈ l, c.to.length ≤ 4) : (l.flatMap cFl).length ≤ 15 * l.length := by
  induction l with
  | nil => exact Nat.zero_le _
  | cons c l ih =>
    have h1 := h c (by simp)
    have h2 := ih fun x hx => h x (by simp [hx])
    rw [List.flatMap_cons, List.length_append, List.length_cons, cFl, List.length_append, esF_len]
    simp only [cHd, List.length_cons, List.length_nil]
    omega
theorem runC_shape {gs : Nat} : ∀ (l : List Ch) (met : List (Nat × Nat)), runC gs l met = 0 → ∀ c ∈ l, shapeB c = true
  | [], _, _, c, hc => by cases hc
  | x :: l, met, h, c, hc => by
    unfold runC at h
    split at h
    · cases h
    · rename_i h1
      split at h
      · cases h
      · split at h
        · cases h
        · rcases List.mem_cons.1 hc with rfl | hc
          · simpa using h1
          · exact runC_shape l _ h c hc
/-- What a configuration that may be is like. -/
structure ChkOk (gs : List Gu) (ws : List Win) (cs : List Ch) : Prop where
  g1 : 1 ≤ gs.length
  g16 : gs.length ≤ 16
  gc : ∀ g ∈ gs, checkG g = 0
  w0 : checkW ws gs.length = 0
  w32 : ws.length ≤ 32
  c0 : checkC cs gs.length = 0
  c16 : cs.length ≤ 16
  sh : ∀ c ∈ cs, shapeB c = true
theorem firstG_none : ∀ {l : List Gu} {i : Nat}, firstG l i = none → ∀ g ∈ l, checkG g = 0
  | [], _, _, g, hg => by cases hg
  | x :: l, i, h, g, hg => by
    unfold firstG at h
    split at h
    · cases h
    · rename_i h1
      rcases List.mem_cons.1 hg with rfl | hg
      · simpa using h1
      · exact firstG_none h g hg
theorem chkC_none {gs : List Gu} {ws : List Win} {cs : List Ch} (h : chkC gs ws cs = none) : ChkOk gs ws cs := by
  unfold chkC at h
  split at h
  · cases h
  · rename_i h1
    split at h
    · cases h
    · rename_i h0
      split at h
      · cases h
      · rename_i h2
        split at h
        · cases h
        · rename_i h3
          have h2' : checkW ws gs.length = 0 := by omega
          have h3' : checkC cs gs.length = 0 := by omega
          refine ⟨by omega, by omega, firstG_none h0, h2', ?_, h3', ?_, ?_⟩
          · unfold checkW at h2'
            split at h2'
            · omega
            · split at h2'
              · omega
              · split at h2' <;> omega
          · unfold checkC at h3'
            split at h3'
            · omega
            · split at h3' <;> omega
          · unfold checkC at h3'
            split at h3'
            · omega
            · split at h3'
              · omega
              · exact runC_shape _ _ h3'
def InR (l : List (Int × Int)) : Prop := ∀ f ∈ l, 0 ≤ f.1 ∧ f.1 ≤ 18446744073709551615
theorem InR.app {l l2 : List (Int × Int)} (h : InR l) (h2 : InR l2) : InR (l ++ l2) := fun f hf => (List.mem_append.1 hf).elim (h f) (h2 f)
theorem InR.flat {α : Type} {l : List α} {g : α → List (Int × Int)} (h : ∀ x ∈ l, InR (g x)) : InR (l.flatMap g) := fun f hf => by
  obtain ⟨x, h1, h2⟩ := List.mem_flatMap.1 hf
  exact h x h1 f h2
theorem nFl_r {n : Nat} (h : n < 9223372036854775808) : InR (nFl n) := fun f hf => by
  simp only [nFl, List.mem_singleton] at hf
  subst hf
  simp only
  omega
theorem gFl_r {g : Gu} (h : g.ok) : InR (gFl g) := by
  obtain ⟨o1, o2, o3, o4, o5⟩ := h
  refine InR.app (fun f hf => ?_) fun f hf => ?_
  · simp only [List.mem_cons, List.not_mem_nil, or_false] at hf
    rcases hf with rfl | rfl | rfl <;> simp only <;> omega
  · obtain ⟨a, h1, rfl⟩ := List.mem_map.1 hf
    have := o5 a h1
    simp only
    omega
theorem wFl_r {w : Win} (h : w.ok) : InR (wFl w) := by
  obtain ⟨o1, o2⟩ := h
  intro f hf
  simp only [wFl, List.mem_cons, List.not_mem_nil, or_false] at hf
  rcases hf with rfl | rfl <;> simp only <;> omega
theorem cFl_r {c : Ch} (h : c.ok) : InR (cFl c) := by
  obtain ⟨o1, o2, o3, o4, o5, o6, o7, o8⟩ := h
  refine InR.app (fun f hf => ?_) (InR.flat fun e he f hf => ?_)
  · simp only [cHd, List.mem_cons, List.not_mem_nil, or_false] at hf
    rcases hf with rfl | rfl | rfl | rfl | rfl | rfl | rfl <;> simp only <;> omega
  · have := o7 e he
    simp only [eFl, List.mem_cons, List.not_mem_nil, or_false] at hf
    rcases hf with rfl | rfl <;> simp only <;> omega
theorem flA_r {gs : List Gu} {ws : List Win} {cs : List Ch} (h1 : ∀ g ∈ gs, g.ok) (h2 : ∀ w ∈ ws, w.ok) (h3 : ∀ c ∈ cs, c.ok) (l1 : gs.length < 9223372036854775808) (l2 : ws.length < 9223372036854775808) (l3 : cs.length < 9223372036854775808) : InR (flA gs ws cs) :=
  ((((nFl_r l1).app (InR.flat fun g hg => gFl_r (h1 g hg))).app (nFl_r l2)).app (InR.flat fun w hw => wFl_r (h2 w hw))).app (nFl_r l3) |>.app (InR.flat fun c hc => cFl_r (h3 c hc))
/-- A list of fields of one's own. -/
def FL (m : Nat) (hh : Hp) (v : Value) (l : List (Int × Int)) : Prop := 0 < l.length ∧ ∃ b c, v = .slice (some ⟨b, 0, none⟩) l.length c ∧ (c = 2 * l.length ∨ c = 2 * l.length + 1) ∧ hh.blks b = some ⟨(fldCells l).toArray, 2, true⟩ ∧ m ≤ b ∧ b < hh.next
theorem fldCells_append (l l2 : List (Int × Int)) : fldCells (l ++ l2) = fldCells l ++ fldCells l2 := by simp [fldCells]
theorem FL.same {m : Nat} {hh h' : Hp} {v : Value} {l : List (Int × Int)} (F : FL m hh v l) (hn : hh.next ≤ h'.next) (hs : ∀ i, m ≤ i → i < hh.next → h'.blks i = hh.blks i) : FL m h' v l := by
  obtain ⟨f0, b, c, f1, f2, f3, f4, f5⟩ := F
  exact ⟨f0, b, c, f1, f2, by rw [hs b f4 f5]; exact f3, f4, by omega⟩
theorem FL.alloc {m : Nat} {hh : Hp} {v : Value} {l : List (Int × Int)} (F : FL m hh v l) (b : Blk) : FL m (hh.alloc b) v l := F.same (by simp) fun i _ hi => blks_alloc_ne _ _ _ (by omega)
theorem FL.blk {m : Nat} {hh : Hp} {v : Value} {l : List (Int × Int)} (F : FL m hh v l) : ∀ i, sblk v = some i → m ≤ i ∧ i < hh.next := by
  obtain ⟨f0, b, c, rfl, f2, f3, f4, f5⟩ := F
  intro i hi
  simp [sblk] at hi
  omega
theorem FL.sl {m : Nat} {hh : Hp} {v : Value} {l : List (Int × Int)} (F : FL m hh v l) : Sl hh 2 l.length (fldCells l) v := by
  obtain ⟨f0, b, c, rfl, f2, f3, f4, f5⟩ := F
  exact ⟨by rw [fldCells_length, Nat.mul_comm], .inr ⟨_, _, _, rfl, f3, by simp [fldCells_length, Nat.mul_comm], fun j hj => by simp⟩⟩
theorem fl_app {m : Nat} {hh : Hp} {v x : Value} {l l2 : List (Int × Int)} {k bytes : Nat} {new : Array Value} {K : Value → Hp → Prop} {u : Tag K} (F : FL m hh v l) (hx : srcCells hh 2 x = some (k, new)) (hk : k = l2.length) (hnew : new = (fldCells l2).toArray) (h2 : 0 < l2.length) (hb : l.length + l2.length ≤ 10000) (hby : bytes ≤ 100)
    (hK : ∀ v' h', FL m h' v' (l ++ l2) → hh.next ≤ h'.next → (∀ i, i < hh.next → sblk v ≠ some i → h'.blks i = hh.blks i) → K v' h') : OptF (aappend hh 2 bytes v x) K u := by
  obtain ⟨f0, b, c, rfl, f2, f3, f4, f5⟩ := F
  subst hk hnew
  refine app_one (n := l.length) (m := m) f3 f2 f5 (by simp [fldCells_length, Nat.mul_comm]) (by omega) hx h2 (by simp [fldCells_length, Nat.mul_comm]) ⟨?_, by unfold ROOM; omega⟩ fun v' h' r1 r2 r3 r4 => ?_
  · have : (l.length + l2.length) * bytes ≤ 10000 * 100 := Nat.mul_le_mul hb hby
    unfold ROOM; omega
  · obtain ⟨r0, ⟨_, z⟩ | ⟨b', y1, y2, rfl, y3⟩⟩ := r1
    · omega
    · refine hK _ _ ⟨by simp; omega, b', _, by rw [List.length_append], .inr (by rw [List.length_append]), ?_, y1, y2⟩ (by omega) fun i hi hne => r4 i hi fun e => hne (by simp [sblk, e])
      rw [y3, fldCells_append]
theorem fl_new {hh : Hp} {n w : Int} {b : Nat} {m : Nat} (hb : hh.blks b = some ⟨#[.int .u64 n, .int .i64 w], 2, true⟩) (h1 : m ≤ b) (h2 : b < hh.next) : FL m hh (.slice (some ⟨b, 0, none⟩) 1 2) [(n, w)] :=
  ⟨by simp, b, 2, rfl, .inl rfl, hb, h1, h2⟩

section
variable {h : Hp} {K : Value → Hp → Prop}
theorem one8_call {n : Nat} (hn : n < 256) (hK : K (.agg #[.int .u64 n, .int .i64 1]) h) : ACall prog 50 [.int .u8 n] h K := by
  refine acallF_of tb0 func50 rfl rfl mixed (by kernel_rfl) fun hwf => ?_
  simp -dsimp (disch := omega)
  exact RetF.same hwf (by simp) (by simp [vtop, vtopL]) (fun i hi => by simp (disch := omega)) hK
theorem oneI_call {n : Nat} (hn : n < 9223372036854775808) (hK : K (.agg #[.int .u64 n, .int .i64 1]) h) : ACall prog 49 [.int .i64 n] h K := by
  refine acallF_of tb0 func49 rfl rfl mixed (by kernel_rfl) fun hwf => ?_
  simp -dsimp (disch := omega)
  exact RetF.same hwf (by simp) (by simp [vtop, vtopL]) (fun i hi => by simp (disch := omega)) hK
end
end Go.Proofs.YtmnemfeofhinaaaDoor
namespace Go.Proofs.YtmnemfeofhinaaaDoor
open Go Go.Mini Go.Proofs.Tryd
set_option maxRecDepth 100000

def magicL : List UInt8 := [65, 76, 67, 49]
def bodyB (gs : List Gu) (ws : List Win) (cs : List Ch) : List UInt8 := magicL ++ Go.Proofs.YtmnemfeofhinaaaDoor.putL (flA gs ws cs)
def bldB (gs : List Gu) (ws : List Win) (cs : List Ch) : List UInt8 := bodyB gs ws cs ++ digs (sumL (bodyB gs ws cs)) 4
def bldO (gs : List Gu) (ws : List Win) (cs : List Ch) : List UInt8 := if chkC gs ws cs = none then bldB gs ws cs else []

section
variable {h : Hp} {K : Value → Hp → Prop}
set_option maxHeartbeats 8000000 in
theorem build_call {gs : List Gu} {ws : List Win} {L : List (Ch × Value)} {vg vw vc : Value} (hv : CfV h gs ws L vg vw vc) (hK : ∀ h' v, Ext h h' → IsEr h' (erOf (chkC gs ws (L.map (·.1)))) v → K (.tuple #[.string (txt (bldO gs ws (L.map (·.1)))), v]) h') : ACall prog 13 [.agg #[vg, vw, vc]] h K := by
  refine acallF_of tbJ func13 rfl rfl mixed (by kernel_rfl) fun hwf => ?_
  have ht := hwf.args _ (List.mem_cons_self ..)
  have htg := sblk_lt (Nat.le_trans (show vtop vg ≤ vtop (.agg #[vg, vw, vc]) by simp [vtop, vtopL]; omega) ht)
  have htw := sblk_lt (Nat.le_trans (show vtop vw ≤ vtop (.agg #[vg, vw, vc]) by simp [vtop, vtopL]; omega) ht)
  have htc := sblk_lt (Nat.le_trans (show vtop vc ≤ vtop (.agg #[vg, vw, vc]) by simp [vtop, vtopL]; omega) ht)
  have hto := sl_tops hwf hv.c.sl
  obtain ⟨ag, cg, e1⟩ := hv.g.slice
  obtain ⟨aw, cw, e2⟩ := hv.w.slice
  obtain ⟨ac, cc, e3⟩ := hv.c.sl.slice
  subst e1 e2 e3
  simp -dsimp (disch := omega)
  have x := Ext.alloc h ⟨#[.slice ag gs.length cg, .slice aw ws.length cw, .slice ac L.length cc], 1, true⟩
  refine check42_call (vg := .slice ag gs.length cg) (vw := .slice aw ws.length cw) (vc := .slice ac L.length cc) (h := h.alloc ⟨#[.slice ag gs.length cg, .slice aw ws.length cw, .slice ac L.length cc], 1, true⟩) ⟨hv.g.mono fun b hb => x.same _ (htg b hb), hv.w.mono fun b hb => x.same _ (htw b hb), hv.c.ext x htc hto, hv.gok, hv.wok, hv.lg, hv.lw, hv.lc⟩ fun H v x2 hf => ?_
  have hx := x.trans x2
  have hb0 : H.blks h.next = some ⟨#[.slice ag gs.length cg, .slice aw ws.length cw, .slice ac L.length cc], 1, true⟩ := by rw [x2.same _ (by simp)]; exact blks_alloc_eq _ _
  have hHn : h.next + 1 ≤ H.next := by simpa using x2.le
  unfold bldO at hK
  cases hc : chkC gs ws (L.map (·.1)) with
  | some z =>
    obtain ⟨f, a, n⟩ := z
    rw [hc] at hf hK
    rw [if_neg (by simp)] at hK
    obtain ⟨d, rfl, hd, hl⟩ := hf
    simp -dsimp (disch := omega)
    exact RetF.all (by simp) (hK _ _ hx ⟨d, rfl, hd, hl⟩)
  | none =>
    rw [hc] at hf hK
    rw [if_pos rfl] at hK
    obtain rfl : v = .pointer none := hf
    have hc0 := hc
    have hco := chkC_none hc
    have hg16 := hco.g16
    have hw32 := hco.w32
    have hc16 := hco.c16
    rw [List.length_map] at hc16
    have hto4 : ∀ x ∈ L, x.1.to.length ≤ 4 := fun x hx => (shapeB_len (hco.sh _ (List.mem_map.2 ⟨x, hx, rfl⟩))).2
    simp -dsimp (disch := omega) [hb0]
    refine oneI_call hv.lg ?_
    simp -dsimp (disch := omega) [hb0]
    have hgl : ∀ k, ((gs.take k).flatMap gFl).length ≤ 20 * k := by
      intro k
      rw [gsF_len fun g hg => hv.gok g (List.mem_of_mem_take hg), List.length_take]
      have := Nat.min_le_left k gs.length
      omega
    have hlg := hv.lg
    refine awp_loop (fun t hh => Ext H hh ∧ ∃ (k : Nat) (v5 : Value), k ≤ gs.length ∧ t 1 = ptr h.next ∧ t 5 = v5 ∧ t 29 = .slice ag gs.length cg ∧ t 30 = .int .i64 gs.length ∧ t 31 = .int .i64 k ∧ FL H.next hh v5 (nFl gs.length ++ (gs.take k).flatMap gFl)) (fun t _ => gs.length - ivN (t 31)) ?_ ?_
    · simp -dsimp (disch := omega)
      exact ⟨Ext.alloc _ _, 0, by omega, rfl, fl_new (blks_alloc_eq _ _) (Nat.le_refl _) (by simp)⟩
    · rintro t hh ⟨hE, k, v5, hk, g1, g5, g29, g30, g31, hF⟩
      refine vcF_sound (tb := tbJ) mixed _ (by kernel_rfl) ?_
      simp -dsimp (disch := omega) [g29, g30, g31]
      have hEn := hE.le
      refine CondF_dec (fun hc => ?_) (fun hc => ?_)
      · obtain ⟨g, hxg⟩ : ∃ w, gs[k]? = some w := ⟨gs[k]'(by omega), List.getElem?_eq_getElem (by omega)⟩
        obtain ⟨a', cc', b', q2, fa, s1, x1, y1⟩ := sl_el' (f := guC) (n := 20) (fun x hx => Gu.len (hv.gok x hx)) hv.g hxg
        cases q2
        have hab : a'.block < h.next := htg _ rfl
        rw [← hx.same _ hab, ← hE.same _ (by omega)] at fa
        have hok := hv.gok _ (List.mem_of_getElem? hxg)
        clear y1
        obtain ⟨A, hA⟩ : ∃ A, A = (guC g).toArray := ⟨_, rfl⟩
        obtain ⟨B, hB⟩ : ∃ B, B = (u8L g.ac).toArray := ⟨_, rfl⟩
        have hone : oneAll A.toList = true := by rw [hA]; exact guC_one g
        have hsz : A.size = 20 := by rw [hA]; simpa using Gu.len hok
        have hex : A.extract 3 20 = B := by rw [hA, hB]; exact guC_ext g hok
        have h0 : A[0]? = some (.int .u8 g.p) := by rw [hA]; rfl
        have h1 : A[1]? = some (.int .u32 g.l) := by rw [hA]; rfl
        have h2 : A[2]? = some (.int .u8 g.r) := by rw [hA]; rfl
        have hBs : B.size = 17 := by rw [hB]; simp [u8L_len, hok.2.2.2.1]
        have hBa : ∀ k a, g.ac[k]? = some a → B[k]? = some (Value.int .u8 (a : Nat)) := fun k a hk => by rw [hB, List.getElem?_toArray]; exact u8L_at hk
        obtain ⟨o1, o2, o3, o4, o5⟩ := hok
        rw [← hA] at x1
        have hput : Mini.putL #[Value.int .u8 0, Value.int .u32 0, Value.int .u8 0, Value.int .u8 0, Value.int .u8 0, Value.int .u8 0, Value.int .u8 0, Value.int .u8 0, Value.int .u8 0, Value.int .u8 0, Value.int .u8 0, Value.int .u8 0, Value.int .u8 0, Value.int .u8 0, Value.int .u8 0, Value.int .u8 0, Value.int .u8 0, Value.int .u8 0, Value.int .u8 0, Value.int .u8 0] 0 A.toList = A := putL_full (by rw [hsz]; rfl)
        simp -dsimp (disch := omega) [g5, g29, g31, fa, s1, x1, hone, hsz, hput, h0, h1, h2, tbJ_8, nvJ_f, -getElem?_pos]
        refine NeuF_intro (.agg #[.int .u64 g.p, .int .i64 1]) (by simp -dsimp; rfl) rfl (fun h2 => ?_) ?_
        · simp -dsimp (disch := omega)
          exact one8_call o1 ⟨rfl, rfl⟩
        simp -dsimp (disch := omega) [g5, h0, h1, h2, tbJ_8, nvJ_f, -getElem?_pos]
        refine NeuF_intro (.agg #[.int .u64 g.r, .int .i64 1]) (by simp -dsimp; rfl) rfl (fun h2 => ?_) ?_
        · simp -dsimp (disch := omega)
          exact one8_call o3 ⟨rfl, rfl⟩
        simp -dsimp (disch := omega) [g5, h0, h1, h2, tbJ_8, nvJ_f, -getElem?_pos]
        have hF1 := (hF.alloc ⟨A, 1, true⟩).alloc ⟨#[.int .u64 g.p, .int .i64 1, .int .u64 g.l, .int .i64 4, .int .u64 g.r, .int .i64 1], 2, true⟩
        have hlk := hgl k
        refine fl_app (l2 := [((g.p : Int), 1), ((g.l : Int), 4), ((g.r : Int), 1)]) hF1 (src_slice _ 2 3 6 ⟨hh.next + 1, 0, none⟩ #[.int .u64 g.p, .int .i64 1, .int .u64 g.l, .int .i64 4, .int .u64 g.r, .int .i64 1] (by simp (disch := omega))) rfl rfl (by simp) (by simp [nFl] at hlk ⊢; omega) (by omega) fun v6 h6 F6 n6 s6 => ?_
        have hFb := hF.blk
        have hp7 : h6.blks hh.next = some ⟨A, 1, true⟩ := by rw [s6 _ (by simp; omega) (fun q => by have := hFb _ q; omega)]; simp (disch := omega)
        have hE6 : Ext H h6 := ⟨by simp at n6; omega, fun i hi => by rw [s6 _ (by simp; omega) (fun q => by have := hFb _ q; omega)]; simp (disch := omega) [hE.same i hi]⟩
        simp -dsimp (disch := omega) [hp7, hsz, hex, tbJ_8, nvJ_f]
        obtain ⟨P0, hP0⟩ : ∃ P0, P0 = nFl gs.length ++ (gs.take k).flatMap gFl ++ [((g.p : Int), 1), ((g.l : Int), 4), ((g.r : Int), 1)] := ⟨_, rfl⟩
        have hPl : P0.length ≤ 4 + 20 * k := by rw [hP0]; simp [nFl] at hlk ⊢; omega
        rw [← hP0] at F6
        refine awp_loop (fun t hh => Ext H hh ∧ ∃ (j : Nat) (v5 : Value), j ≤ 17 ∧ t 1 = ptr h.next ∧ t 5 = v5 ∧ t 29 = .slice (some a') gs.length cg ∧ t 30 = .int .i64 gs.length ∧ t 31 = .int .i64 k ∧ t 49 = .agg B ∧ t 50 = .int .i64 j ∧ FL H.next hh v5 (P0 ++ aFl (g.ac.take j))) (fun t _ => 17 - ivN (t 50)) ?_ ?_
        · simp -dsimp (disch := omega) [g1, g29, g30, g31]
          exact ⟨hE6, 0, by omega, rfl, by rw [List.take_zero]; simpa [aFl] using F6⟩
        · rintro t4 h4 ⟨hE4, j, v5, hj, k1, k5, k29, k30, k31, k49, k50, hF4⟩
          refine vcF_sound (tb := tbJ) mixed _ (by kernel_rfl) ?_
          simp -dsimp (disch := omega) [k49, k50]
          refine CondF_dec (fun hc2 => ?_) (fun hc2 => ?_)
          · obtain ⟨a, hxa⟩ : ∃ a, g.ac[j]? = some a := ⟨g.ac[j]'(by omega), List.getElem?_eq_getElem (by omega)⟩
            have hb := hBa j a hxa
            have ha := o5 a (List.mem_of_getElem? hxa)
            simp -dsimp (disch := omega) [k5, k49, k50, hBs, hb, -getElem?_pos]
            refine one8_call ha ?_
            simp -dsimp (disch := omega) [k5]
            refine fl_app (l2 := [((a : Int), 1)]) (hF4.alloc ⟨#[.int .u64 a, .int .i64 1], 2, true⟩) (src_slice _ 2 1 2 ⟨h4.next, 0, none⟩ #[.int .u64 a, .int .i64 1] (by simp (disch := omega))) rfl rfl (by simp) (by rw [List.length_append, aFl_len, List.length_take, List.length_singleton]; omega) (by omega) fun v6 h6 F6 n6 s6 => ?_
            have hFb := hF4.blk
            have hE4n := hE4.le
            simp -dsimp (disch := omega) [k1, k29, k30, k31, k49, k50]
            refine ⟨⟨⟨by simp at n6; omega, fun i hi => by rw [s6 _ (by simp; omega) (fun q => by have := hFb _ q; omega)]; simp (disch := omega) [hE4.same i hi]⟩, j + 1, by omega, by simp, ?_⟩, by simp [ivN]; omega⟩
            rw [take_snoc hxa, aFl_snoc, ← List.append_assoc]
            exact F6
          · have hj17 : j = 17 := by omega
            rw [hj17, List.take_of_length_le (show g.ac.length ≤ 17 by omega)] at hF4
            simp -dsimp (disch := omega) [k1, k5, k29, k30, k31, k49, k50]
            refine ⟨⟨hE4, k + 1, by omega, by simp, ?_⟩, by simp [ivN, g31]; omega⟩
            rw [hP0] at hF4
            rw [take_snoc hxg, List.flatMap_append]
            simpa [gFl] using hF4
      · have hkn : k = gs.length := by omega
        rw [hkn, List.take_length] at hF
        have hb := hE.same _ (show h.next < H.next by omega)
        rw [hb0] at hb
        obtain ⟨P1, hP1⟩ : ∃ P1, P1 = nFl gs.length ++ gs.flatMap gFl := ⟨_, rfl⟩
        have hP1l : P1.length ≤ 321 := by
          rw [hP1, List.length_append, gsF_len hv.gok]
          simp only [nFl, List.length_singleton]
          omega
        rw [← hP1] at hF
        have hlw := hv.lw
        have hlc := hv.lc
        simp -dsimp (disch := omega) [g1, g5, g29, g30, g31, hb]
        refine oneI_call hlw ?_
        simp -dsimp (disch := omega) [g1, g5, hb]
        refine fl_app (l2 := nFl ws.length) (hF.alloc ⟨#[.int .u64 ws.length, .int .i64 1], 2, true⟩) (src_slice _ 2 1 2 ⟨hh.next, 0, none⟩ #[.int .u64 ws.length, .int .i64 1] (by simp (disch := omega))) rfl rfl (by simp [nFl]) (by simp [nFl]; omega) (by omega) fun v6 h6 F6 n6 s6 => ?_
        have hFb := hF.blk
        have hE6 : Ext H h6 := ⟨by simp at n6; omega, fun i hi => by rw [s6 _ (by simp; omega) (fun q => by have := hFb _ q; omega)]; simp (disch := omega) [hE.same i hi]⟩
        have hb6 := hE6.same _ (show h.next < H.next by omega)
        rw [hb0] at hb6
        obtain ⟨P2, hP2⟩ : ∃ P2, P2 = P1 ++ nFl ws.length := ⟨_, rfl⟩
        have hP2l : P2.length ≤ 322 := by rw [hP2, List.length_append]; simp only [nFl, List.length_singleton]; omega
        rw [← hP2] at F6
        simp -dsimp (disch := omega) [g1, hb6]
        refine awp_loop (fun t hh => Ext H hh ∧ ∃ (k : Nat) (v5 : Value), k ≤ ws.length ∧ t 1 = ptr h.next ∧ t 5 = v5 ∧ t 68 = .slice aw ws.length cw ∧ t 69 = .int .i64 ws.length ∧ t 70 = .int .i64 k ∧ FL H.next hh v5 (P2 ++ (ws.take k).flatMap wFl)) (fun t _ => ws.length - ivN (t 70)) ?_ ?_
        · simp -dsimp (disch := omega) [g1]
          exact ⟨hE6, 0, by omega, rfl, by rw [List.take_zero]; simpa using F6⟩
        · rintro t4 h4 ⟨hE4, k, v5, hk, k1, k5, k68, k69, k70, hF4⟩
          refine vcF_sound (tb := tbJ) mixed _ (by kernel_rfl) ?_
          simp -dsimp (disch := omega) [k68, k69, k70]
          have hE4n := hE4.le
          refine CondF_dec (fun hc2 => ?_) (fun hc2 => ?_)
          · obtain ⟨w, hxw⟩ : ∃ w, ws[k]? = some w := ⟨ws[k]'(by omega), List.getElem?_eq_getElem (by omega)⟩
            obtain ⟨a', cc', b', q2, fa, s1, x1, y1⟩ := sl_el (f := winC) (n := 2) winC_len hv.w hxw
            cases q2
            have hab : a'.block < h.next := htw _ rfl
            rw [← hx.same _ hab, ← hE4.same _ (by omega)] at fa
            have wok := hv.wok w (List.mem_of_getElem? hxw)
            have x1' : b'.cells.extract (a'.off + k * 2) (a'.off + k * 2 + 2) = #[.int .u8 w.g, .int .u16 w.s] := x1
            clear x1 y1
            obtain ⟨o1, o2⟩ := wok
            simp -dsimp (disch := omega) [k5, k68, k70, fa, s1, x1', tbJ_19, nvJ_f]
            refine NeuF_intro (.agg #[.int .u64 w.g, .int .i64 1]) (by simp -dsimp; rfl) rfl (fun h2 => ?_) ?_
            · simp -dsimp (disch := omega)
              exact one8_call o1 ⟨rfl, rfl⟩
            simp -dsimp (disch := omega) [k5, tbJ_19, nvJ_f]
            have hF5 := (hF4.alloc ⟨#[.int .u8 w.g, .int .u16 w.s], 1, true⟩).alloc ⟨#[.int .u64 w.g, .int .i64 1, .int .u64 w.s, .int .i64 2], 2, true⟩
            have hkl : ((ws.take k).flatMap wFl).length ≤ 2 * k := by
              rw [wsF_len, List.length_take]
              have := Nat.min_le_left k ws.length
              omega
            refine fl_app (l2 := wFl w) hF5 (src_slice _ 2 2 4 ⟨h4.next + 1, 0, none⟩ #[.int .u64 w.g, .int .i64 1, .int .u64 w.s, .int .i64 2] (by simp (disch := omega))) rfl rfl (by simp [wFl]) (by rw [List.length_append]; simp only [wFl, List.length_cons, List.length_nil]; omega) (by omega) fun v7 h7 F7 n7 s7 => ?_
            have hFb := hF4.blk
            simp -dsimp (disch := omega) [k1, k68, k69, k70, tbJ_19, nvJ_f]
            refine ⟨⟨⟨by simp at n7; omega, fun i hi => by rw [s7 _ (by simp; omega) (fun q => by have := hFb _ q; omega)]; simp (disch := omega) [hE4.same i hi]⟩, k + 1, by omega, by simp, ?_⟩, by simp [ivN]; omega⟩
            rw [take_snoc hxw, List.flatMap_append, ← List.append_assoc, List.flatMap_singleton]
            exact F7
          · have hkn : k = ws.length := by omega
            rw [hkn, List.take_length] at hF4
            have hb4 := hE4.same _ (show h.next < H.next by omega)
            rw [hb0] at hb4
            simp -dsimp (disch := omega) [k1, k5, k68, k69, k70, hb4]
            refine oneI_call hlc ?_
            simp -dsimp (disch := omega) [k1, k5, hb4]
            obtain ⟨P3, hP3⟩ : ∃ P3, P3 = P2 ++ ws.flatMap wFl := ⟨_, rfl⟩
            have hP3l : P3.length ≤ 400 := by rw [hP3, List.length_append, wsF_len]; omega
            rw [← hP3] at hF4
            refine fl_app (l2 := nFl L.length) (hF4.alloc ⟨#[.int .u64 L.length, .int .i64 1], 2, true⟩) (src_slice _ 2 1 2 ⟨h4.next, 0, none⟩ #[.int .u64 L.length, .int .i64 1] (by simp (disch := omega))) rfl rfl (by simp [nFl]) (by simp [nFl]; omega) (by omega) fun v7 h7 F7 n7 s7 => ?_
            have hFb := hF4.blk
            have hE7 : Ext H h7 := ⟨by simp at n7; omega, fun i hi => by rw [s7 _ (by simp; omega) (fun q => by have := hFb _ q; omega)]; simp (disch := omega) [hE4.same i hi]⟩
            have hb7 := hE7.same _ (show h.next < H.next by omega)
            rw [hb0] at hb7
            obtain ⟨P4, hP4⟩ : ∃ P4, P4 = P3 ++ nFl L.length := ⟨_, rfl⟩
            have hP4l : P4.length ≤ 401 := by rw [hP4, List.length_append]; simp only [nFl, List.length_singleton]; omega
            rw [← hP4] at F7
            simp -dsimp (disch := omega) [k1, hb7]
            refine awp_loop (fun t hh => Ext H hh ∧ ∃ (k : Nat) (v5 : Value), k ≤ L.length ∧ t 5 = v5 ∧ t 93 = .slice ac L.length cc ∧ t 94 = .int .i64 L.length ∧ t 95 = .int .i64 k ∧ FL H.next hh v5 (P4 ++ ((L.map (·.1)).take k).flatMap cFl)) (fun t _ => L.length - ivN (t 95)) ?_ ?_
            · simp -dsimp (disch := omega)
              exact ⟨hE7, 0, by omega, rfl, by rw [List.take_zero]; simpa using F7⟩
            · rintro t8 h8 ⟨hE8, k, v5, hk, k5, k93, k94, k95, hF8⟩
              refine vcF_sound (tb := tbJ) mixed _ (by kernel_rfl) ?_
              simp -dsimp (disch := omega) [k93, k94, k95]
              have hE8n := hE8.le
              refine CondF_dec (fun hc3 => ?_) (fun hc3 => ?_)
              · obtain ⟨⟨c, vt⟩, hxc⟩ : ∃ w, L[k]? = some w := ⟨L[k]'(by omega), List.getElem?_eq_getElem (by omega)⟩
                obtain ⟨a', cc', b', q2, fa, s1, x1, y1⟩ := sl_el (f := fun x : Ch × Value => chC x.1 x.2) (n := 7) chC_len hv.c.sl hxc
                cases q2
                have hab : a'.block < h.next := htc _ rfl
                rw [← hx.same _ hab, ← hE8.same _ (by omega)] at fa
                have hmem := List.mem_of_getElem? hxc
                obtain ⟨cok, cto⟩ := hv.c.ok _ hmem
                have ht4 := hto4 _ hmem
                have hvt := hto _ hmem
                simp only at cok cto ht4 hvt
                have x1' : b'.cells.extract (a'.off + k * 7) (a'.off + k * 7 + 7) = #[.int .u8 c.k, .int .u8 c.g, .int .u8 c.p, vt, .int .u8 c.m, .int .u8 c.d, .int .u32 c.v] := x1
                clear x1 y1
                obtain ⟨hlen, hone⟩ := cto.len
                obtain ⟨o1, o2, o3, o4, o5, o6, o7, o8⟩ := cok
                obtain ⟨m, hm⟩ : ∃ m, m = c.to.length := ⟨_, rfl⟩
                rw [← hm] at hlen ht4
                simp -dsimp (disch := omega) [k5, k93, k95, fa, s1, x1', hone, tbJ_25, nvJ_f]
                refine NeuF_intro (.agg #[.int .u64 c.k, .int .i64 1]) (by simp -dsimp; rfl) rfl (fun h2 => ?_) ?_
                · simp -dsimp (disch := omega)
                  exact one8_call o1 ⟨rfl, rfl⟩
                simp -dsimp (disch := omega) [k5, tbJ_25, nvJ_f, hlen]
                refine NeuF_intro (.agg #[.int .u64 c.g, .int .i64 1]) (by simp -dsimp; rfl) rfl (fun h2 => ?_) ?_
                · simp -dsimp (disch := omega)
                  exact one8_call o2 ⟨rfl, rfl⟩
                simp -dsimp (disch := omega) [k5, tbJ_25, nvJ_f, hlen]
                refine NeuF_intro (.agg #[.int .u64 c.p, .int .i64 1]) (by simp -dsimp; rfl) rfl (fun h2 => ?_) ?_
                · simp -dsimp (disch := omega)
                  exact one8_call o3 ⟨rfl, rfl⟩
                simp -dsimp (disch := omega) [k5, tbJ_25, nvJ_f, hlen]
                refine NeuF_intro (.agg #[.int .u64 c.m, .int .i64 1]) (by simp -dsimp; rfl) rfl (fun h2 => ?_) ?_
                · simp -dsimp (disch := omega)
                  exact one8_call o4 ⟨rfl, rfl⟩
                simp -dsimp (disch := omega) [k5, tbJ_25, nvJ_f, hlen]
                refine NeuF_intro (.agg #[.int .u64 c.d, .int .i64 1]) (by simp -dsimp; rfl) rfl (fun h2 => ?_) ?_
                · simp -dsimp (disch := omega)
                  exact one8_call o5 ⟨rfl, rfl⟩
                simp -dsimp (disch := omega) [k5, tbJ_25, nvJ_f, hlen]
                refine NeuF_intro (.agg #[.int .u64 m, .int .i64 1]) (by simp -dsimp; rfl) rfl (fun h2 => ?_) ?_
                · simp -dsimp (disch := omega)
                  exact oneI_call (by omega) ⟨rfl, rfl⟩
                simp -dsimp (disch := omega) [k5, tbJ_25, nvJ_f]
                have hF9 := (hF8.alloc ⟨#[.int .u8 c.k, .int .u8 c.g, .int .u8 c.p, vt, .int .u8 c.m, .int .u8 c.d, .int .u32 c.v], 1, true⟩).alloc ⟨#[.int .u64 c.k, .int .i64 1, .int .u64 c.g, .int .i64 1, .int .u64 c.p, .int .i64 1, .int .u64 c.m, .int .i64 1, .int .u64 c.d, .int .i64 1, .int .u64 c.v, .int .i64 4, .int .u64 m, .int .i64 1], 2, true⟩
                have hkl : (((L.map (·.1)).take k).flatMap cFl).length ≤ 15 * k := by
                  have := csF_len (l := (L.map (·.1)).take k) (fun x hx => by
                    obtain ⟨y, hy, rfl⟩ := List.mem_map.1 (List.mem_of_mem_take hx)
                    exact hto4 y hy)
                  rw [List.length_take] at this
                  have := Nat.min_le_left k (L.map (·.1)).length
                  omega
                refine fl_app (l2 := cHd c) hF9 (src_slice _ 2 7 14 ⟨h8.next + 1, 0, none⟩ #[.int .u64 c.k, .int .i64 1, .int .u64 c.g, .int .i64 1, .int .u64 c.p, .int .i64 1, .int .u64 c.m, .int .i64 1, .int .u64 c.d, .int .i64 1, .int .u64 c.v, .int .i64 4, .int .u64 m, .int .i64 1] (by simp (disch := omega))) rfl (by rw [hm]; rfl) (by simp [cHd]) (by rw [List.length_append]; simp only [cHd, List.length_cons, List.length_nil]; omega) (by omega) fun v9 h9 F9 n9 s9 => ?_
                have hFb := hF8.blk
                have n9' : h8.next + 2 ≤ h9.next := by simpa using n9
                have hp13 : h9.blks h8.next = some ⟨#[.int .u8 c.k, .int .u8 c.g, .int .u8 c.p, vt, .int .u8 c.m, .int .u8 c.d, .int .u32 c.v], 1, true⟩ := by rw [s9 _ (by simp; omega) (fun q => by have := hFb _ q; omega)]; simp (disch := omega)
                have hE9 : Ext H h9 := ⟨by omega, fun i hi => by rw [s9 _ (by simp; omega) (fun q => by have := hFb _ q; omega)]; simp (disch := omega) [hE8.same i hi]⟩
                obtain ⟨P5, hP5⟩ : ∃ P5, P5 = P4 ++ ((L.map (·.1)).take k).flatMap cFl ++ cHd c := ⟨_, rfl⟩
                have hP5l : P5.length ≤ 401 + 15 * k + 7 := by rw [hP5, List.length_append, List.length_append]; simp only [cHd, List.length_cons, List.length_nil]; omega
                rw [← hP5] at F9
                simp -dsimp (disch := omega) [hp13, hlen, tbJ_25, nvJ_f]
                refine awp_loop (fun t hh => Ext H hh ∧ ∃ (j : Nat) (v5 : Value), j ≤ m ∧ t 5 = v5 ∧ t 93 = .slice (some a') L.length cc ∧ t 94 = .int .i64 L.length ∧ t 95 = .int .i64 k ∧ t 126 = vt ∧ t 127 = .int .i64 m ∧ t 128 = .int .i64 j ∧ FL H.next hh v5 (P5 ++ (c.to.take j).flatMap eFl)) (fun t _ => m - ivN (t 128)) ?_ ?_
                · simp -dsimp (disch := omega) [k93, k94, k95]
                  exact ⟨hE9, 0, by omega, rfl, by rw [List.take_zero]; simpa using F9⟩
                · rintro t10 h10 ⟨hE10, j, v5, hj, q5, q93, q94, q95, q126, q127, q128, hF10⟩
                  refine vcF_sound (tb := tbJ) mixed _ (by kernel_rfl) ?_
                  simp -dsimp (disch := omega) [q127, q128]
                  have hE10n := hE10.le
                  refine CondF_dec (fun hc4 => ?_) (fun hc4 => ?_)
                  · obtain ⟨⟨e1', e2'⟩, hxe⟩ : ∃ e, c.to[j]? = some e := ⟨c.to[j]'(by omega), List.getElem?_eq_getElem (by omega)⟩
                    have hsv := cto.sl (by omega)
                    obtain ⟨a2, cc2, b2, q3, fb, s2, x2, y2⟩ := sl_el (f := endC) (n := 2) endC_len hsv hxe
                    subst q3
                    have hab2 := hvt _ rfl
                    rw [← hx.same _ hab2, ← hE10.same _ (by omega)] at fb
                    have x2' : b2.cells.extract (a2.off + j * 2) (a2.off + j * 2 + 2) = #[.int .u8 e1', .int .u8 e2'] := x2
                    clear x2 y2
                    obtain ⟨he1, he2⟩ := o7 _ (List.mem_of_getElem? hxe)
                    simp only at he1 he2
                    rw [← hm] at q126
                    simp -dsimp (disch := omega) [q5, q126, q128, fb, s2, x2', tbJ_29, nvJ_f]
                    refine NeuF_intro (.agg #[.int .u64 e1', .int .i64 1]) (by simp -dsimp; rfl) rfl (fun h2 => ?_) ?_
                    · simp -dsimp (disch := omega)
                      exact one8_call he1 ⟨rfl, rfl⟩
                    simp -dsimp (disch := omega) [q5, tbJ_29, nvJ_f]
                    refine NeuF_intro (.agg #[.int .u64 e2', .int .i64 1]) (by simp -dsimp; rfl) rfl (fun h2 => ?_) ?_
                    · simp -dsimp (disch := omega)
                      exact one8_call he2 ⟨rfl, rfl⟩
                    simp -dsimp (disch := omega) [q5, tbJ_29, nvJ_f]
                    have hF11 := (hF10.alloc ⟨#[.int .u8 e1', .int .u8 e2'], 1, true⟩).alloc ⟨#[.int .u64 e1', .int .i64 1, .int .u64 e2', .int .i64 1], 2, true⟩
                    have hjl : ((c.to.take j).flatMap eFl).length ≤ 2 * j := by
                      rw [esF_len, List.length_take]
                      have := Nat.min_le_left j c.to.length
                      omega
                    refine fl_app (l2 := eFl (e1', e2')) hF11 (src_slice _ 2 2 4 ⟨h10.next + 1, 0, none⟩ #[.int .u64 e1', .int .i64 1, .int .u64 e2', .int .i64 1] (by simp (disch := omega))) rfl rfl (by simp [eFl]) (by rw [List.length_append]; simp only [eFl, List.length_cons, List.length_nil]; omega) (by omega) fun v12 h12 F12 n12 s12 => ?_
                    have hFb := hF10.blk
                    have n12' : h10.next + 2 ≤ h12.next := by simpa using n12
                    simp -dsimp (disch := omega) [q93, q94, q95, q126, q127, q128, tbJ_29, nvJ_f]
                    refine ⟨⟨⟨by omega, fun i hi => by rw [s12 _ (by simp; omega) (fun q => by have := hFb _ q; omega)]; simp (disch := omega) [hE10.same i hi]⟩, j + 1, by omega, by rw [← hm], by simp, ?_⟩, by simp [ivN]; omega⟩
                    rw [take_snoc hxe, List.flatMap_append, ← List.append_assoc, List.flatMap_singleton]
                    exact F12
                  · have hjm : j = m := by omega
                    rw [hjm, hm, List.take_length] at hF10
                    simp -dsimp (disch := omega) [q5, q93, q94, q95, q126, q127, q128]
                    refine ⟨⟨hE10, k + 1, by omega, by simp, ?_⟩, by simp [ivN, k95]; omega⟩
                    rw [hP5] at hF10
                    rw [take_snoc (show (L.map (·.1))[k]? = some c by rw [List.getElem?_map, hxc]; rfl), List.flatMap_append, List.flatMap_singleton, cFl]
                    simpa only [List.append_assoc] using hF10
              · have hkn : k = L.length := by omega
                rw [hkn, List.take_of_length_le (by rw [List.length_map]; omega)] at hF8
                obtain ⟨cs, hcs⟩ : ∃ cs, cs = L.map (·.1) := ⟨_, rfl⟩
                have hfl : P4 ++ (L.map (·.1)).flatMap cFl = flA gs ws cs := by rw [hP4, hP3, hP2, hP1, hcs, flA, fl2, fl1, List.length_map]
                have hfr : InR (flA gs ws cs) := flA_r hv.gok hv.wok (fun c hc => by rw [hcs] at hc; obtain ⟨y, hy, rfl⟩ := List.mem_map.1 hc; exact (hv.c.ok y hy).1) hlg hlw (by rw [hcs, List.length_map]; exact hlc)
                have hfn : (flA gs ws cs).length ≤ 1000 := by
                  rw [← hfl, List.length_append]
                  have := csF_len (l := L.map (·.1)) (fun x hx => by
                    obtain ⟨y, hy, rfl⟩ := List.mem_map.1 hx
                    exact hto4 y hy)
                  rw [List.length_map] at this
                  omega
                rw [hfl] at hF8
                rw [← hcs] at hK
                simp -dsimp (disch := omega) [k5, k93, k94, k95]
                refine put_call hF8.sl (by omega) hfr ?_
                have hpl := putL_length (flA gs ws cs)
                have hbd : (txt [65, 76, 67, 49]) ++ txt (Go.Proofs.YtmnemfeofhinaaaDoor.putL (flA gs ws cs)) = txt (bodyB gs ws cs) := txt_append _ _
                have hbs : ((txt (bodyB gs ws cs)).size : Int) ≤ 1000000 := by rw [bodyB, txt_size, List.length_append]; simp only [magicL, List.length_cons, List.length_nil]; omega
                have hz : ((txt [65, 76, 67, 49]).size : Int) = 4 := rfl
                have hpz : ((txt (Go.Proofs.YtmnemfeofhinaaaDoor.putL (flA gs ws cs))).size : Int) ≤ 8000 := by rw [txt_size]; omega
                simp -dsimp (disch := first | omega | (simp only [txt_mk]; omega)) [txt_mk, hbd]
                refine sum_call (by omega) ?_
                have hsr := sumL_range (bodyB gs ws cs) 1 (by omega)
                have hsum : sumTo (txt (bodyB gs ws cs)) (txt (bodyB gs ws cs)).size = sumL (bodyB gs ws cs) := sumTo_all _
                rw [hsum]
                unfold bldB at hK
                obtain ⟨q, hq⟩ : ∃ q : Nat, sumL (bodyB gs ws cs) = q := Int.eq_ofNat_of_zero_le hsr.1
                have hq2 : q < 4294967296 := by have := hsr.2; rw [show List.foldl sumStep 1 (bodyB gs ws cs) = sumL (bodyB gs ws cs) from rfl] at this; omega
                rw [hq] at hK ⊢
                simp -dsimp (disch := omega)
                refine put_call (l := [((q : Int), 4)]) (fl_new (m := 0) (blks_alloc_eq _ _) (by omega) (by simp)).sl (by simp) (fun f hf => by simp only [List.mem_singleton] at hf; subst hf; simp only; omega) ?_
                have hp4 : Go.Proofs.YtmnemfeofhinaaaDoor.putL [((q : Int), 4)] = digs q 4 := by
                  simp only [Go.Proofs.YtmnemfeofhinaaaDoor.putL, List.flatMap_cons, List.flatMap_nil, List.append_nil]
                  rfl
                rw [hp4]
                have hdz : ((txt (digs (q : Int) 4)).size : Int) = 4 := by rw [txt_size, digs_length]; rfl
                have hbd2 : txt (bodyB gs ws cs) ++ txt (digs (q : Int) 4) = txt (bodyB gs ws cs ++ digs q 4) := txt_append _ _
                simp -dsimp (disch := omega) [hbd2]
                exact RetF.all (by simp) (hK _ _ ((hx.trans hE8).trans (Ext.alloc _ _)) rfl)
end
end Go.Proofs.YtmnemfeofhinaaaDoor
namespace Go.Proofs.YtmnemfeofhinaaaDoor
open Go Go.Mini Go.Proofs.Tryd
set_option maxRecDepth 100000

def fvB : List Value → Value
  | [.int _ n] => .string (txt (digs n 1))
  | [.int _ n, .int _ w] => .string (txt (digs n (wideF w).toNat))
  | _ => undef
abbrev nvB : NVal := ⟨fun _ => fvB⟩
theorem nvB_f (i : Nat) : @NVal.f nvB i = fvB := rfl
def tbB : Nat → Marks := fun k => if k = 6 then @Marks.mk [3000004, 3000009] (fun _ => True) nvB else if k = 15 then @Marks.mk [3000008] (fun _ => True) nvB else if k = 21 then @Marks.mk [3000004, 3000009, 3000014, 3000019, 3000024, 3000029] (fun _ => True) nvB else if k = 25 then @Marks.mk [3000008] (fun _ => True) nvB else ⟨[], fun _ => True⟩
theorem tbB_6 : tbB 6 = @Marks.mk [3000004, 3000009] (fun _ => True) nvB := rfl
theorem tbB_15 : tbB 15 = @Marks.mk [3000008] (fun _ => True) nvB := rfl
theorem tbB_21 : tbB 21 = @Marks.mk [3000004, 3000009, 3000014, 3000019, 3000024, 3000029] (fun _ => True) nvB := rfl
theorem tbB_25 : tbB 25 = @Marks.mk [3000008] (fun _ => True) nvB := rfl
abbrev puL (l : List (Int × Int)) : List UInt8 := Go.Proofs.YtmnemfeofhinaaaDoor.putL l
theorem puL_app (l l2 : List (Int × Int)) : puL (l ++ l2) = puL l ++ puL l2 := by simp [puL, Go.Proofs.YtmnemfeofhinaaaDoor.putL]
theorem puL_cons (f : Int × Int) (l2 : List (Int × Int)) : puL (f :: l2) = digs f.1 (wideF f.2).toNat ++ puL l2 := by simp [puL, Go.Proofs.YtmnemfeofhinaaaDoor.putL]
theorem puL_nil : puL [] = [] := rfl
theorem wd1 : (wideF 1).toNat = 1 := rfl
theorem wd2 : (wideF 2).toNat = 2 := rfl
theorem wd4 : (wideF 4).toNat = 4 := rfl

theorem puX_len (P : List (Int × Int)) : (magicL ++ puL P).length ≤ 4 + 8 * P.length := by
  rw [List.length_append]
  have : (puL P).length ≤ 8 * P.length := putL_length P
  simp only [magicL, List.length_cons, List.length_nil]
  omega
theorem puL_snoc (P : List (Int × Int)) (a : Int) : puL (P ++ [(a, 1)]) = puL P ++ digs a 1 := by rw [puL_app, puL_cons, puL_nil, List.append_nil]; rfl
theorem nFl_len (n : Nat) : (nFl n).length = 1 := rfl

section
variable {h : Hp} {K : Value → Hp → Prop}
theorem b1_call {n : Nat} (hn : n < 9223372036854775808) (hK : K (.string (txt (digs n 1))) h) : ACall prog 55 [.int .i64 n] h K := by
  refine acallF_of tb0 func55 rfl rfl mixed (by kernel_rfl) fun hwf => ?_
  simp -dsimp (disch := omega)
  refine refBytes_call (N := n) (w := 1) (by omega) ?_
  rw [wd1]
  simp -dsimp (disch := omega)
  exact RetF.same hwf (by simp) (by simp [vtop, vtopL]) (fun i hi => rfl) hK
theorem by4_call {n : Nat} (hn : n < 4294967296) (hK : K (.string (txt (digs n 4))) h) : ACall prog 56 [.int .u64 n, .int .i64 4] h K := refBytes_call (N := n) (w := 4) (by omega) hK
theorem by2_call {n : Nat} (hn : n < 65536) (hK : K (.string (txt (digs n 2))) h) : ACall prog 56 [.int .u64 n, .int .i64 2] h K := refBytes_call (N := n) (w := 2) (by omega) hK

set_option maxHeartbeats 8000000 in
theorem refBytes28_call {gs : List Gu} {ws : List Win} {L : List (Ch × Value)} {vg vw vc : Value} (hv : CfV h gs ws L vg vw vc) (hco : ChkOk gs ws (L.map (·.1))) (hK : K (.string (txt (bldB gs ws (L.map (·.1))))) h) : ACall prog 18 [.agg #[vg, vw, vc]] h K := by
  refine acallF_of tbB func18 rfl rfl mixed (by kernel_rfl) fun hwf => ?_
  have ht := hwf.args _ (List.mem_cons_self ..)
  have htg := sblk_lt (Nat.le_trans (show vtop vg ≤ vtop (.agg #[vg, vw, vc]) by simp [vtop, vtopL]; omega) ht)
  have htw := sblk_lt (Nat.le_trans (show vtop vw ≤ vtop (.agg #[vg, vw, vc]) by simp [vtop, vtopL]; omega) ht)
  have htc := sblk_lt (Nat.le_trans (show vtop vc ≤ vtop (.agg #[vg, vw, vc]) by simp [vtop, vtopL]; omega) ht)
  have hto := sl_tops hwf hv.c.sl
  obtain ⟨ag, cg, e1⟩ := hv.g.slice
  obtain ⟨aw, cw, e2⟩ := hv.w.slice
  obtain ⟨ac, cc, e3⟩ := hv.c.sl.slice
  subst e1 e2 e3
  have hg16 := hco.g16
  have hw32 := hco.w32
  have hc16 := hco.c16
  rw [List.length_map] at hc16
  have hto4 : ∀ x ∈ L, x.1.to.length ≤ 4 := fun x hx => (shapeB_len (hco.sh _ (List.mem_map.2 ⟨x, hx, rfl⟩))).2
  have hlg := hv.lg
  have hlw := hv.lw
  have hlc := hv.lc
  simp -dsimp (disch := omega)
  refine b1_call hlg ?_
  obtain ⟨H, hH⟩ : ∃ H : Hp, H = h.alloc ⟨#[.slice ag gs.length cg, .slice aw ws.length cw, .slice ac L.length cc], 1, true⟩ := ⟨_, rfl⟩
  have hx : Ext h H := by rw [hH]; exact Ext.alloc _ _
  have hb0 : H.blks h.next = some ⟨#[.slice ag gs.length cg, .slice aw ws.length cw, .slice ac L.length cc], 1, true⟩ := by rw [hH]; exact blks_alloc_eq _ _
  have hHn : H.next = h.next + 1 := by rw [hH]; simp
  rw [← hH]
  simp -dsimp (disch := first | omega | (simp only [txt_mk, txt_size, List.length_append, List.length_cons, List.length_nil, digs_length]; omega)) [txt_mk, txt_append]
  have hgl : ∀ k, ((gs.take k).flatMap gFl).length ≤ 20 * k := by
    intro k
    rw [gsF_len fun g hg => hv.gok g (List.mem_of_mem_take hg), List.length_take]
    have := Nat.min_le_left k gs.length
    omega
  refine awp_loop (fun t hh => Ext H hh ∧ ∃ (k : Nat), k ≤ gs.length ∧ t 1 = ptr h.next ∧ t 3 = .string (txt (magicL ++ puL (nFl gs.length ++ (gs.take k).flatMap gFl))) ∧ t 4 = .int .i64 k) (fun t _ => gs.length - ivN (t 4)) ?_ ?_
  · simp -dsimp (disch := omega)
    exact ⟨Ext.refl _, 0, by omega, rfl, rfl⟩
  · rintro t hh ⟨hE, k, hk, g1, g3, g4⟩
    have hb := hE.same _ (show h.next < H.next by omega)
    rw [hb0] at hb
    refine vcF_sound (tb := tbB) mixed _ (by kernel_rfl) ?_
    simp -dsimp (disch := omega) [g1, g4, hb]
    have hEn := hE.le
    refine CondF_dec (fun hc => ?_) (fun hc => ?_)
    · obtain ⟨g, hxg⟩ : ∃ w, gs[k]? = some w := ⟨gs[k]'(by omega), List.getElem?_eq_getElem (by omega)⟩
      obtain ⟨a', cc', b', q2, fa, s1, x1, y1⟩ := sl_el' (f := guC) (n := 20) (fun x hx => Gu.len (hv.gok x hx)) hv.g hxg
      cases q2
      have hab : a'.block < h.next := htg _ rfl
      rw [← hx.same _ hab, ← hE.same _ (by omega)] at fa
      have hok := hv.gok _ (List.mem_of_getElem? hxg)
      clear y1
      obtain ⟨A, hA⟩ : ∃ A, A = (guC g).toArray := ⟨_, rfl⟩
      have hone : oneAll A.toList = true := by rw [hA]; exact guC_one g
      have hsz : A.size = 20 := by rw [hA]; simpa using Gu.len hok
      have h0 : A[0]? = some (.int .u8 g.p) := by rw [hA]; rfl
      have h1 : A[1]? = some (.int .u32 g.l) := by rw [hA]; rfl
      have h2 : A[2]? = some (.int .u8 g.r) := by rw [hA]; rfl
      have hAa : ∀ j a, g.ac[j]? = some a → A[3 + j]? = some (Value.int .u8 (a : Nat)) := fun j a hj => by
        rw [hA, List.getElem?_toArray]
        simp only [guC]
        rw [show 3 + j = j + 1 + 1 + 1 by omega, List.getElem?_cons_succ, List.getElem?_cons_succ, List.getElem?_cons_succ]
        exact u8L_at hj
      obtain ⟨o1, o2, o3, o4, o5⟩ := hok
      rw [← hA] at x1
      have hput : Mini.putL #[Value.int .u8 0, Value.int .u32 0, Value.int .u8 0, Value.int .u8 0, Value.int .u8 0, Value.int .u8 0, Value.int .u8 0, Value.int .u8 0, Value.int .u8 0, Value.int .u8 0, Value.int .u8 0, Value.int .u8 0, Value.int .u8 0, Value.int .u8 0, Value.int .u8 0, Value.int .u8 0, Value.int .u8 0, Value.int .u8 0, Value.int .u8 0, Value.int .u8 0] 0 A.toList = A := putL_full (by rw [hsz]; rfl)
      have hlk := hgl k
      obtain ⟨X, hX⟩ : ∃ X, X = magicL ++ puL (nFl gs.length ++ (gs.take k).flatMap gFl) := ⟨_, rfl⟩
      have hXl : X.length ≤ 4 + 8 * (1 + 20 * k) := by
        have := puX_len (nFl gs.length ++ (gs.take k).flatMap gFl)
        have e : (nFl gs.length ++ (gs.take k).flatMap gFl).length = 1 + ((gs.take k).flatMap gFl).length := by rw [List.length_append, nFl_len]
        rw [e, ← hX] at this
        omega
      rw [← hX] at g3
      simp -dsimp (disch := omega) [g1, g3, g4, hb, fa, s1, x1, hone, hsz, hput, h0, h1, h2, tbB_6, nvB_f, -getElem?_pos]
      refine NeuF_intro (.string (txt (digs g.p 1))) (by simp -dsimp (disch := omega); rfl) rfl (fun h2 => ?_) ?_
      · simp -dsimp (disch := omega)
        exact b1_call (by omega) ⟨rfl, rfl⟩
      simp -dsimp (disch := first | omega | (simp only [txt_mk, txt_size, List.length_append, List.length_cons, List.length_nil, digs_length]; omega)) [g3, h0, h1, h2, tbB_6, nvB_f, txt_append, -getElem?_pos]
      refine NeuF_intro (.string (txt (digs g.l 4))) (by simp -dsimp (disch := omega); rfl) rfl (fun h2 => ?_) ?_
      · simp -dsimp (disch := omega)
        exact by4_call (by omega) ⟨rfl, rfl⟩
      simp -dsimp (disch := first | omega | (simp only [txt_mk, txt_size, List.length_append, List.length_cons, List.length_nil, digs_length]; omega)) [g3, h0, h1, h2, tbB_6, nvB_f, txt_append, -getElem?_pos]
      refine b1_call (by omega) ?_
      simp -dsimp (disch := first | omega | (simp only [txt_mk, txt_size, List.length_append, List.length_cons, List.length_nil, digs_length]; omega)) [g3, tbB_6, nvB_f, txt_append]
      obtain ⟨Y, hY⟩ : ∃ Y, Y = X ++ (digs g.p 1 ++ (digs g.l 4 ++ digs g.r 1)) := ⟨_, rfl⟩
      have hYl : Y.length = X.length + 6 := by rw [hY]; simp only [List.length_append, digs_length]
      rw [← hY]
      have hp5 : (hh.alloc ⟨A, 1, true⟩).blks hh.next = some ⟨A, 1, true⟩ := blks_alloc_eq _ _
      have hE5 : Ext H (hh.alloc ⟨A, 1, true⟩) := hE.trans (Ext.alloc _ _)
      obtain ⟨G5, hG5⟩ : ∃ G5, G5 = hh.alloc ⟨A, 1, true⟩ := ⟨_, rfl⟩
      rw [← hG5] at hp5 hE5 ⊢
      refine awp_loop (fun t h' => h' = G5 ∧ ∃ (j : Nat), j ≤ 17 ∧ t 1 = ptr h.next ∧ t 3 = .string (txt (Y ++ puL (aFl (g.ac.take j)))) ∧ t 4 = .int .i64 k ∧ t 5 = ptr hh.next ∧ t 6 = .int .i64 j) (fun t _ => 17 - ivN (t 6)) ?_ ?_
      · simp -dsimp (disch := omega) [g1, g4]
        exact ⟨0, by omega, by rw [List.take_zero]; simp [aFl, puL_nil], rfl⟩
      · rintro t4 h4 ⟨rfl, j, hj, k1, k3, k4, k5, k6⟩
        refine vcF_sound (tb := tbB) mixed _ (by kernel_rfl) ?_
        simp -dsimp (disch := omega) [k6]
        refine CondF_dec (fun hc2 => ?_) (fun hc2 => ?_)
        · obtain ⟨a, hxa⟩ : ∃ a, g.ac[j]? = some a := ⟨g.ac[j]'(by omega), List.getElem?_eq_getElem (by omega)⟩
          have hb3 := hAa j a hxa
          have ha := o5 a (List.mem_of_getElem? hxa)
          obtain ⟨W, hW⟩ : ∃ W, W = Y ++ puL (aFl (g.ac.take j)) := ⟨_, rfl⟩
          have hWl : W.length ≤ Y.length + 8 * 17 := by
            rw [hW, List.length_append]
            have := putL_length (aFl (g.ac.take j))
            rw [aFl_len, List.length_take] at this
            have := Nat.min_le_left j g.ac.length
            show Y.length + (Go.Proofs.YtmnemfeofhinaaaDoor.putL (aFl (g.ac.take j))).length ≤ _
            omega
          rw [← hW] at k3
          simp -dsimp (disch := omega) [k3, k5, k6, hp5, hsz, hb3, -getElem?_pos]
          refine b1_call (by omega) ?_
          simp -dsimp (disch := first | omega | (simp only [txt_mk, txt_size, List.length_append, List.length_cons, List.length_nil, digs_length]; omega)) [k1, k3, k4, k5, k6, txt_append]
          refine ⟨⟨j + 1, by omega, ?_, by simp⟩, by simp [ivN]; omega⟩
          rw [take_snoc hxa, aFl_snoc, puL_snoc, ← List.append_assoc, ← hW]
        · have hj17 : j = 17 := by omega
          rw [hj17, List.take_of_length_le (show g.ac.length ≤ 17 by omega)] at k3
          simp -dsimp (disch := omega) [k1, k3, k4, k5, k6]
          refine ⟨⟨hE5, k + 1, by omega, ?_, by simp⟩, by simp [ivN, g4]; omega⟩
          rw [take_snoc hxg, List.flatMap_append, List.flatMap_singleton, ← List.append_assoc, puL_app (nFl gs.length ++ _), ← List.append_assoc, ← hX, hY]
          simp only [gFl, puL_app, puL_cons, puL_nil, List.append_nil, List.append_assoc]
          rfl
    · have hkn : k = gs.length := by omega
      rw [hkn, List.take_length] at g3
      obtain ⟨P1, hP1⟩ : ∃ P1, P1 = nFl gs.length ++ gs.flatMap gFl := ⟨_, rfl⟩
      have hP1l : P1.length ≤ 321 := by
        rw [hP1, List.length_append, gsF_len hv.gok, nFl_len]
        omega
      rw [← hP1] at g3
      have hX1 := puX_len P1
      obtain ⟨X1, hX1e⟩ : ∃ X1, X1 = magicL ++ puL P1 := ⟨_, rfl⟩
      rw [← hX1e] at g3 hX1
      simp -dsimp (disch := omega) [g1, g3, g4, hb]
      refine b1_call hlw ?_
      simp -dsimp (disch := first | omega | (simp only [txt_mk, txt_size, List.length_append, List.length_cons, List.length_nil, digs_length]; omega)) [g1, g3, txt_append]
      obtain ⟨P2, hP2⟩ : ∃ P2, P2 = P1 ++ nFl ws.length := ⟨_, rfl⟩
      have hP2l : P2.length ≤ 322 := by rw [hP2, List.length_append, nFl_len]; omega
      have hX2 : X1 ++ digs ws.length 1 = magicL ++ puL P2 := by rw [hX1e, hP2, nFl, puL_snoc, List.append_assoc]
      rw [hX2]
      refine awp_loop (fun t h' => h' = hh ∧ ∃ (k : Nat), k ≤ ws.length ∧ t 1 = ptr h.next ∧ t 3 = .string (txt (magicL ++ puL (P2 ++ (ws.take k).flatMap wFl))) ∧ t 7 = .int .i64 k) (fun t _ => ws.length - ivN (t 7)) ?_ ?_
      · simp -dsimp (disch := omega) [g1]
        exact ⟨0, by omega, by rw [List.take_zero]; simp, rfl⟩
      · rintro t4 h4 ⟨rfl, k, hk, k1, k3, k7⟩
        refine vcF_sound (tb := tbB) mixed _ (by kernel_rfl) ?_
        simp -dsimp (disch := omega) [k1, k7, hb]
        refine CondF_dec (fun hc2 => ?_) (fun hc2 => ?_)
        · obtain ⟨w, hxw⟩ : ∃ w, ws[k]? = some w := ⟨ws[k]'(by omega), List.getElem?_eq_getElem (by omega)⟩
          obtain ⟨a', cc', b', q2, fa, s1, x1, y1⟩ := sl_el (f := winC) (n := 2) winC_len hv.w hxw
          cases q2
          have hab : a'.block < h.next := htw _ rfl
          rw [← hx.same _ hab, ← hE.same _ (by omega)] at fa
          have wok := hv.wok w (List.mem_of_getElem? hxw)
          have y0 : b'.cells[a'.off + k * 2]? = some (.int .u8 w.g) := y1 0 (by omega)
          have y2 : b'.cells[a'.off + k * 2 + 1]? = some (.int .u16 w.s) := y1 1 (by omega)
          clear x1 y1
          obtain ⟨o1, o2⟩ := wok
          have hkl : ((ws.take k).flatMap wFl).length ≤ 2 * k := by
            rw [wsF_len, List.length_take]
            have := Nat.min_le_left k ws.length
            omega
          have hWl := puX_len (P2 ++ (ws.take k).flatMap wFl)
          have e : (P2 ++ (ws.take k).flatMap wFl).length = P2.length + ((ws.take k).flatMap wFl).length := List.length_append
          rw [e] at hWl
          obtain ⟨W, hW⟩ : ∃ W, W = magicL ++ puL (P2 ++ (ws.take k).flatMap wFl) := ⟨_, rfl⟩
          rw [← hW] at k3 hWl
          simp -dsimp (disch := omega) [k1, k3, k7, hb, fa, y0, y2, tbB_15, nvB_f, -getElem?_pos]
          refine NeuF_intro (.string (txt (digs w.g 1))) (by simp -dsimp (disch := omega); rfl) rfl (fun h2 => ?_) ?_
          · simp -dsimp (disch := omega)
            exact b1_call (by omega) ⟨rfl, rfl⟩
          simp -dsimp (disch := first | omega | (simp only [txt_mk, txt_size, List.length_append, List.length_cons, List.length_nil, digs_length]; omega)) [k1, k3, k7, hb, fa, y0, y2, tbB_15, nvB_f, txt_append, -getElem?_pos]
          refine by2_call (by omega) ?_
          simp -dsimp (disch := first | omega | (simp only [txt_mk, txt_size, List.length_append, List.length_cons, List.length_nil, digs_length]; omega)) [k1, k3, k7, tbB_15, nvB_f, txt_append]
          refine ⟨⟨k + 1, by omega, ?_, by simp⟩, by simp [ivN]; omega⟩
          have e2 : puL (P2 ++ ((ws.take k).flatMap wFl ++ wFl w)) = puL (P2 ++ (ws.take k).flatMap wFl) ++ (digs w.g 1 ++ digs w.s 2) := by
            rw [← List.append_assoc, puL_app]
            simp only [wFl, puL_cons, puL_nil, List.append_nil]
            rfl
          rw [take_snoc hxw, List.flatMap_append, List.flatMap_singleton, e2, ← List.append_assoc magicL, ← hW]
        · have hkn : k = ws.length := by omega
          rw [hkn, List.take_length] at k3
          obtain ⟨P3, hP3⟩ : ∃ P3, P3 = P2 ++ ws.flatMap wFl := ⟨_, rfl⟩
          have hP3l : P3.length ≤ 400 := by rw [hP3, List.length_append, wsF_len]; omega
          rw [← hP3] at k3
          have hX3 := puX_len P3
          obtain ⟨X3, hX3e⟩ : ∃ X3, X3 = magicL ++ puL P3 := ⟨_, rfl⟩
          rw [← hX3e] at k3 hX3
          simp -dsimp (disch := omega) [k1, k3, k7, hb]
          refine b1_call hlc ?_
          simp -dsimp (disch := first | omega | (simp only [txt_mk, txt_size, List.length_append, List.length_cons, List.length_nil, digs_length]; omega)) [k1, k3, txt_append]
          obtain ⟨P4, hP4⟩ : ∃ P4, P4 = P3 ++ nFl L.length := ⟨_, rfl⟩
          have hP4l : P4.length ≤ 401 := by rw [hP4, List.length_append, nFl_len]; omega
          have hX4 : X3 ++ digs L.length 1 = magicL ++ puL P4 := by rw [hX3e, hP4, nFl, puL_snoc, List.append_assoc]
          rw [hX4]
          refine awp_loop (fun t h' => Ext H h' ∧ ∃ (k : Nat), k ≤ L.length ∧ t 1 = ptr h.next ∧ t 3 = .string (txt (magicL ++ puL (P4 ++ ((L.map (·.1)).take k).flatMap cFl))) ∧ t 8 = .int .i64 k) (fun t _ => L.length - ivN (t 8)) ?_ ?_
          · simp -dsimp (disch := omega) [k1]
            exact ⟨hE, 0, by omega, by rw [List.take_zero]; simp, rfl⟩
          · rintro t8 h8 ⟨hE8, k, hk, q1, q3, q8⟩
            have hb8 := hE8.same _ (show h.next < H.next by omega)
            rw [hb0] at hb8
            refine vcF_sound (tb := tbB) mixed _ (by kernel_rfl) ?_
            simp -dsimp (disch := omega) [q1, q8, hb8]
            have hE8n := hE8.le
            refine CondF_dec (fun hc3 => ?_) (fun hc3 => ?_)
            · obtain ⟨⟨c, vt⟩, hxc⟩ : ∃ w, L[k]? = some w := ⟨L[k]'(by omega), List.getElem?_eq_getElem (by omega)⟩
              obtain ⟨a', cc', b', q2, fa, s1, x1, y1⟩ := sl_el (f := fun x : Ch × Value => chC x.1 x.2) (n := 7) chC_len hv.c.sl hxc
              cases q2
              have hab : a'.block < h.next := htc _ rfl
              rw [← hx.same _ hab, ← hE8.same _ (by omega)] at fa
              have hmem := List.mem_of_getElem? hxc
              obtain ⟨cok, cto⟩ := hv.c.ok _ hmem
              have ht4 := hto4 _ hmem
              have hvt := hto _ hmem
              simp only at cok cto ht4 hvt
              have x1' : b'.cells.extract (a'.off + k * 7) (a'.off + k * 7 + 7) = #[.int .u8 c.k, .int .u8 c.g, .int .u8 c.p, vt, .int .u8 c.m, .int .u8 c.d, .int .u32 c.v] := x1
              clear x1 y1
              obtain ⟨hlen, hone⟩ := cto.len
              obtain ⟨o1, o2, o3, o4, o5, o6, o7, o8⟩ := cok
              obtain ⟨m, hm⟩ : ∃ m, m = c.to.length := ⟨_, rfl⟩
              rw [← hm] at hlen ht4
              have hkl : (((L.map (·.1)).take k).flatMap cFl).length ≤ 15 * k := by
                have := csF_len (l := (L.map (·.1)).take k) (fun x hx => by
                  obtain ⟨y, hy, rfl⟩ := List.mem_map.1 (List.mem_of_mem_take hx)
                  exact hto4 y hy)
                rw [List.length_take] at this
                have := Nat.min_le_left k (L.map (·.1)).length
                omega
              have hWl := puX_len (P4 ++ ((L.map (·.1)).take k).flatMap cFl)
              have e : (P4 ++ ((L.map (·.1)).take k).flatMap cFl).length = P4.length + (((L.map (·.1)).take k).flatMap cFl).length := List.length_append
              rw [e] at hWl
              obtain ⟨W, hW⟩ : ∃ W, W = magicL ++ puL (P4 ++ ((L.map (·.1)).take k).flatMap cFl) := ⟨_, rfl⟩
              rw [← hW] at q3 hWl
              simp -dsimp (disch := omega) [q1, q3, q8, hb8, fa, s1, x1', hone, tbB_21, nvB_f]
              refine NeuF_intro (.string (txt (digs c.k 1))) (by simp -dsimp (disch := omega); rfl) rfl (fun h2 => ?_) ?_
              · simp -dsimp (disch := omega)
                exact b1_call (by omega) ⟨rfl, rfl⟩
              simp -dsimp (disch := first | omega | (simp only [txt_mk, txt_size, List.length_append, List.length_cons, List.length_nil, digs_length]; omega)) [q3, hlen, tbB_21, nvB_f, txt_append]
              refine NeuF_intro (.string (txt (digs c.g 1))) (by simp -dsimp (disch := omega); rfl) rfl (fun h2 => ?_) ?_
              · simp -dsimp (disch := omega)
                exact b1_call (by omega) ⟨rfl, rfl⟩
              simp -dsimp (disch := first | omega | (simp only [txt_mk, txt_size, List.length_append, List.length_cons, List.length_nil, digs_length]; omega)) [q3, hlen, tbB_21, nvB_f, txt_append]
              refine NeuF_intro (.string (txt (digs c.p 1))) (by simp -dsimp (disch := omega); rfl) rfl (fun h2 => ?_) ?_
              · simp -dsimp (disch := omega)
                exact b1_call (by omega) ⟨rfl, rfl⟩
              simp -dsimp (disch := first | omega | (simp only [txt_mk, txt_size, List.length_append, List.length_cons, List.length_nil, digs_length]; omega)) [q3, hlen, tbB_21, nvB_f, txt_append]
              refine NeuF_intro (.string (txt (digs c.m 1))) (by simp -dsimp (disch := omega); rfl) rfl (fun h2 => ?_) ?_
              · simp -dsimp (disch := omega)
                exact b1_call (by omega) ⟨rfl, rfl⟩
              simp -dsimp (disch := first | omega | (simp only [txt_mk, txt_size, List.length_append, List.length_cons, List.length_nil, digs_length]; omega)) [q3, hlen, tbB_21, nvB_f, txt_append]
              refine NeuF_intro (.string (txt (digs c.d 1))) (by simp -dsimp (disch := omega); rfl) rfl (fun h2 => ?_) ?_
              · simp -dsimp (disch := omega)
                exact b1_call (by omega) ⟨rfl, rfl⟩
              simp -dsimp (disch := first | omega | (simp only [txt_mk, txt_size, List.length_append, List.length_cons, List.length_nil, digs_length]; omega)) [q3, hlen, tbB_21, nvB_f, txt_append]
              refine NeuF_intro (.string (txt (digs c.v 4))) (by simp -dsimp (disch := omega); rfl) rfl (fun h2 => ?_) ?_
              · simp -dsimp (disch := omega)
                exact by4_call (by omega) ⟨rfl, rfl⟩
              simp -dsimp (disch := first | omega | (simp only [txt_mk, txt_size, List.length_append, List.length_cons, List.length_nil, digs_length]; omega)) [q3, hlen, tbB_21, nvB_f, txt_append]
              refine b1_call (by omega) ?_
              simp -dsimp (disch := first | omega | (simp only [txt_mk, txt_size, List.length_append, List.length_cons, List.length_nil, digs_length]; omega)) [q3, tbB_21, nvB_f, txt_append]
              obtain ⟨Y, hY⟩ : ∃ Y, Y = magicL ++ puL (P4 ++ ((L.map (·.1)).take k).flatMap cFl ++ cHd c) := ⟨_, rfl⟩
              have hYe : W ++ (digs c.k 1 ++ (digs c.g 1 ++ (digs c.p 1 ++ (digs c.m 1 ++ (digs c.d 1 ++ (digs c.v 4 ++ digs m 1)))))) = Y := by
                rw [hY, puL_app, ← List.append_assoc magicL, ← hW, hm]
                simp only [cHd, puL_cons, puL_nil, List.append_nil]
                rfl
              have hYl : Y.length = W.length + 10 := by rw [← hYe]; simp only [List.length_append, digs_length]
              rw [hYe]
              obtain ⟨G9, hG9⟩ : ∃ G9, G9 = h8.alloc ⟨#[.int .u8 c.k, .int .u8 c.g, .int .u8 c.p, vt, .int .u8 c.m, .int .u8 c.d, .int .u32 c.v], 1, true⟩ := ⟨_, rfl⟩
              have hp9 : G9.blks h8.next = some ⟨#[.int .u8 c.k, .int .u8 c.g, .int .u8 c.p, vt, .int .u8 c.m, .int .u8 c.d, .int .u32 c.v], 1, true⟩ := by rw [hG9]; exact blks_alloc_eq _ _
              have hE9 : Ext H G9 := by rw [hG9]; exact hE8.trans (Ext.alloc _ _)
              rw [← hG9]
              refine awp_loop (fun t h' => h' = G9 ∧ ∃ (j : Nat), j ≤ m ∧ t 1 = ptr h.next ∧ t 3 = .string (txt (Y ++ puL ((c.to.take j).flatMap eFl))) ∧ t 8 = .int .i64 k ∧ t 9 = ptr h8.next ∧ t 10 = .int .i64 j) (fun t _ => m - ivN (t 10)) ?_ ?_
              · simp -dsimp (disch := omega) [q1, q8]
                exact ⟨0, by omega, by rw [List.take_zero]; simp [puL_nil], rfl⟩
              · rintro t10 h10 ⟨rfl, j, hj, r1, r3, r8, r9, r10⟩
                refine vcF_sound (tb := tbB) mixed _ (by kernel_rfl) ?_
                simp -dsimp (disch := omega) [r9, r10, hp9, hlen]
                refine CondF_dec (fun hc4 => ?_) (fun hc4 => ?_)
                · obtain ⟨⟨e1', e2'⟩, hxe⟩ : ∃ e, c.to[j]? = some e := ⟨c.to[j]'(by omega), List.getElem?_eq_getElem (by omega)⟩
                  have hsv := cto.sl (by omega)
                  obtain ⟨a2, cc2, b2, q3', fb, s2, x2, y2⟩ := sl_el (f := endC) (n := 2) endC_len hsv hxe
                  subst q3'
                  have hab2 := hvt _ rfl
                  rw [← hx.same _ hab2, ← hE9.same _ (by omega)] at fb
                  have z0 : b2.cells[a2.off + j * 2]? = some (.int .u8 e1') := y2 0 (by omega)
                  have z1 : b2.cells[a2.off + j * 2 + 1]? = some (.int .u8 e2') := y2 1 (by omega)
                  clear x2 y2
                  obtain ⟨he1, he2⟩ := o7 _ (List.mem_of_getElem? hxe)
                  simp only at he1 he2
                  have hjl : ((c.to.take j).flatMap eFl).length ≤ 2 * j := by
                    rw [esF_len, List.length_take]
                    have := Nat.min_le_left j c.to.length
                    omega
                  obtain ⟨V, hV⟩ : ∃ V, V = Y ++ puL ((c.to.take j).flatMap eFl) := ⟨_, rfl⟩
                  have hVl : V.length ≤ Y.length + 100 := by
                    rw [hV, List.length_append]
                    have : (puL ((c.to.take j).flatMap eFl)).length ≤ 8 * ((c.to.take j).flatMap eFl).length := putL_length _
                    omega
                  rw [← hV] at r3
                  rw [← hm] at hp9
                  simp -dsimp (disch := omega) [r3, r9, r10, hp9, fb, z0, z1, tbB_25, nvB_f, -getElem?_pos]
                  refine NeuF_intro (.string (txt (digs e1' 1))) (by simp -dsimp (disch := omega); rfl) rfl (fun h2 => ?_) ?_
                  · simp -dsimp (disch := omega)
                    exact b1_call (by omega) ⟨rfl, rfl⟩
                  simp -dsimp (disch := first | omega | (simp only [txt_mk, txt_size, List.length_append, List.length_cons, List.length_nil, digs_length]; omega)) [r3, r9, r10, hp9, fb, z0, z1, tbB_25, nvB_f, txt_append, -getElem?_pos]
                  refine b1_call (by omega) ?_
                  simp -dsimp (disch := first | omega | (simp only [txt_mk, txt_size, List.length_append, List.length_cons, List.length_nil, digs_length]; omega)) [r1, r3, r8, r9, r10, tbB_25, nvB_f, txt_append]
                  refine ⟨⟨j + 1, by omega, ?_, by simp⟩, by simp [ivN]; omega⟩
                  have e2 : puL ((c.to.take j).flatMap eFl ++ eFl (e1', e2')) = puL ((c.to.take j).flatMap eFl) ++ (digs e1' 1 ++ digs e2' 1) := by
                    rw [puL_app]
                    simp only [eFl, puL_cons, puL_nil, List.append_nil]
                    rfl
                  rw [take_snoc hxe, List.flatMap_append, List.flatMap_singleton, e2, ← List.append_assoc Y, ← hV]
                · have hjm : j = m := by omega
                  rw [hjm, hm, List.take_length] at r3
                  simp -dsimp (disch := omega) [r1, r3, r8, r9, r10]
                  refine ⟨⟨hE9, k + 1, by omega, ?_, by simp⟩, by simp [ivN, q8]; omega⟩
                  rw [take_snoc (show (L.map (·.1))[k]? = some c by rw [List.getElem?_map, hxc]; rfl), List.flatMap_append, List.flatMap_singleton, cFl, hY]
                  simp only [puL_app, List.append_assoc]
            · have hkn : k = L.length := by omega
              rw [hkn, List.take_of_length_le (by rw [List.length_map]; omega)] at q3
              obtain ⟨cs, hcs⟩ : ∃ cs, cs = L.map (·.1) := ⟨_, rfl⟩
              have hfl : P4 ++ (L.map (·.1)).flatMap cFl = flA gs ws cs := by rw [hP4, hP3, hP2, hP1, hcs, flA, fl2, fl1, List.length_map]
              have hfn : (flA gs ws cs).length ≤ 1000 := by
                rw [← hfl, List.length_append]
                have := csF_len (l := L.map (·.1)) (fun x hx => by
                  obtain ⟨y, hy, rfl⟩ := List.mem_map.1 hx
                  exact hto4 y hy)
                rw [List.length_map] at this
                omega
              rw [hfl] at q3
              rw [← hcs] at hK
              have hbz := puX_len (flA gs ws cs)
              obtain ⟨BB, hBB⟩ : ∃ BB, BB = bodyB gs ws cs := ⟨_, rfl⟩
              rw [show magicL ++ puL (flA gs ws cs) = BB from hBB.symm] at q3 hbz
              unfold bldB at hK
              rw [← hBB] at hK
              simp -dsimp (disch := omega) [q1, q3, q8, hb8]
              have hbs : ((txt BB).size : Int) ≤ 1000000 := by rw [txt_size]; omega
              refine refSum_call (by omega) ?_
              have hsr := sumL_range BB 1 (by omega)
              have hsum : sumTo (txt BB) (txt BB).size = sumL BB := sumTo_all _
              rw [hsum]
              obtain ⟨q, hq⟩ : ∃ q : Nat, sumL BB = q := Int.eq_ofNat_of_zero_le hsr.1
              have hq2 : q < 4294967296 := by have := hsr.2; rw [show List.foldl sumStep 1 BB = sumL BB from rfl] at this; omega
              rw [hq] at hK ⊢
              simp -dsimp (disch := omega)
              refine by4_call hq2 ?_
              simp -dsimp (disch := first | omega | (simp only [txt_mk, txt_size, List.length_append, List.length_cons, List.length_nil, digs_length]; omega)) [txt_append]
              exact RetF.same hwf (by simp) (by simp [vtop, vtopL]) (fun i hi => by rw [hE8.same _ (by omega), hx.same _ hi]) hK
end
end Go.Proofs.YtmnemfeofhinaaaDoor
