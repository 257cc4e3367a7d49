/-
  A TLB of a list: Find, finds, none.
-/
import Derived.Test.YtmlpcnpkidmlhaaY6
set_option linter.unusedSimpArgs false
set_option linter.unusedVariables false
set_option linter.unusedSectionVars false
namespace Go.Proofs.Ytmlpcnpkidmlhaa
set_option maxRecDepth 100000
open Go Go.Mini Go.Proofs.Try

def fP (sa va : Nat) (e : Ent) : Bool := decide (e.satp = sa) && decide (e.vpn = va / 4096)
def fndV (o : Option Ent) : Value := match o with | some e => .tuple #[.agg (entA e), .bool true] | none => .tuple #[.agg none8, .bool false]
theorem find_split {p : Ent → Bool} {A C : List Ent} {e : Ent} (h1 : ∀ x ∈ A, p x = false) (h2 : p e = true) : (A ++ e :: C).find? p = some e := by
  induction A with
  | nil => simp [h2]
  | cons a A ih =>
    have ha := h1 a (by simp)
    simp only [List.cons_append, List.find?_cons, ha]
    exact ih fun x hx => h1 x (by simp [hx])
section
variable {h : Hp} {K : Value → Hp → Prop}
theorem tfind_call {tp sa va : Nat} {ob : Option Nat} {l : List Ent} (T : Tl h tp ob l) (hv : va < 18446744073709551616) (hl : l.length < 900000) (hK : K (fndV (l.find? (fP sa va))) h) : ACall prog 26 [ptr tp, .int .u64 sa, .int .u64 va] h K := by
  refine acallF_of tb0 func26 rfl rfl mixed (by kernel_rfl) fun hwf => ?_
  have htl := T.lt
  obtain ⟨H, hH⟩ : ∃ H, H = ((h.alloc ⟨#[.int .u64 sa], 1, true⟩).alloc ⟨#[.int .u64 va], 1, true⟩).alloc ⟨none8, 1, true⟩ := ⟨_, rfl⟩
  have hE : Ext h H := by rw [hH]; exact ((Ext.alloc h _).then_alloc _).then_alloc _
  have hN : H.next = h.next + 3 := by rw [hH]; rfl
  have b1 : H.blks h.next = some ⟨#[.int .u64 sa], 1, true⟩ := by rw [hH, blks_alloc_ne _ _ _ (by simp; omega), blks_alloc_ne _ _ _ (by simp), blks_alloc_eq]
  have b2 : H.blks (h.next + 1) = some ⟨#[.int .u64 va], 1, true⟩ := by rw [hH, blks_alloc_ne _ _ _ (by simp)]; exact blks_alloc_eq _ _
  have b3 : H.blks (h.next + 2) = some ⟨none8, 1, true⟩ := by rw [hH]; exact blks_alloc_eq _ _
  have TH := T.ext hE
  have hclo : ∀ b, ob = some b → Clo H b 36 [ptr h.next, ptr (h.next + 1)] (fP sa va) l := fun b hb h' n' s' x _ K' k => by
    have hbl := T.bl b hb
    exact find_call (by rw [s' _ (by omega) (by omega)]; exact b1) (by rw [s' _ (by omega) (by omega)]; exact b2) (by omega) (by omega) hv k
  have hS' : ∀ c i, i < h.next → (H.set (h.next + 2) c).blks i = h.blks i := fun c i hi => by rw [blks_set_ne _ _ _ _ (by omega)]; exact hE.same i hi
  obtain ⟨v, hvv, s⟩ := TH.ex
  have hnone : l.find? (fP sa va) = none → K (.tuple #[.agg none8, .bool false]) h := fun q => by rw [q] at hK; exact hK
  have hsome : ∀ e, l.find? (fP sa va) = some e → K (.tuple #[.agg (entA e), .bool true]) h := fun e q => by rw [q] at hK; exact hK
  clear hK
  rcases s.ex with ⟨rfl, rfl, rfl⟩ | ⟨b, n, rfl, rfl, L, hn⟩
  · have hK := hnone rfl
    unfold none8 at *
    simp -dsimp (disch := omega) [← hH]
    refine is_tl TH ?_
    simp -dsimp (disch := omega) [hvv]
    refine idx35_nil ?_
    simp -dsimp (disch := omega) [b3]
    refine RetF.same (r := .tuple #[.agg none8, .bool false]) hwf ?_ (by simp [vtop, vtopL, none8]) (fun i hi => hS' _ i hi) hK
    simp [none8]
  · have hlt := L.lt
    obtain ⟨R, hR, hb⟩ := L.ex
    unfold none8 at b3 hH
    simp -dsimp (disch := omega)
    rw [← hH]
    refine is_tl TH ?_
    simp -dsimp (disch := omega) [hvv]
    refine idx_call L (by omega) (hclo b rfl) ?_
    rcases idxP_spec (fP sa va) l 0 with ⟨i1, i2⟩ | ⟨A, e, C, i1, i2, i3, i4⟩
    · have hK := hnone (List.find?_eq_none.2 fun x hx => by rw [i2 x hx]; simp)
      rw [i1]
      simp -dsimp (disch := omega) [b3]
      refine RetF.same (r := .tuple #[.agg none8, .bool false]) hwf ?_ (by simp [vtop, vtopL, none8]) (fun i hi => hS' _ i hi) hK
      simp [none8]
    · have hK := hsome e (by rw [i1]; exact find_split i2 i3)
      rw [i4, Nat.zero_add]
      have hx : (entsC (l ++ R)).toArray.extract (A.length * 8) (A.length * 8 + 8) = entA e := ents_at (by rw [i1]; simp) R
      have hsz : A.length * 8 + 8 ≤ (entsC (l ++ R)).toArray.size := by rw [List.size_toArray, entsC_length, i1]; simp; omega
      have hAl : A.length < l.length := by rw [i1]; simp
      obtain ⟨X, hX⟩ : ∃ X, X = (entsC (l ++ R)).toArray := ⟨_, rfl⟩
      rw [← hX] at hx hsz hb
      have hone : oneAll (entA e).toList = true := rfl
      have hput : putL #[.int .u64 0, .int .u64 0, .int .u64 0, .int .i64 0, .int .u64 0, .int .u64 0, .int .u64 0, .int .i64 0] 0 (entA e).toList = entA e := put_none8 e
      have hEs : (entA e).size = 8 := rfl
      have hEx : (entA e).extract 0 8 = entA e := rfl
      have hvt : vtopL (entA e).toList = 0 := by simp [entA, vtopL, vtop]
      obtain ⟨E, hE2⟩ : ∃ E, E = entA e := ⟨_, rfl⟩
      rw [← hE2] at hx hone hput hEs hEx hvt hK
      have hA0 : ¬ (A.length : Int) < 0 := by omega
      simp -dsimp (disch := omega) [hA0, hvv, hb, hx, hsz, b3, hone, hput, hEs, hEx]
      refine RetF.same (r := .tuple #[.agg E, .bool true]) hwf ?_ ?_ (fun i hi => hS' _ i hi) hK
      · simp (disch := omega) [hEs, hEx]
      · rw [hE2]; simp [vtop, vtopL, entA]
end
end Go.Proofs.Ytmlpcnpkidmlhaa
