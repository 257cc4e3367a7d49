/-
  What the chapter's examples need: drops, a copy of any slice, a queue that is none.
-/
import Derived.Test.YtcfgagpjdhhddaaD13
set_option linter.unusedSimpArgs false
set_option linter.unusedVariables false
namespace Go.Proofs.Ytcfgagpjdhhddaa
open Go Go.Mini Go.Proofs.Try

theorem parse_one (guests : Int) {e : Ev} (he : e.ok) : parse guests (buildL [e]) = if whyE guests [] e = 0 then ([e], []) else ([], [(0, whyE guests [] e)]) := by
  have hok : ∀ x ∈ [e], x.ok := fun x hx => by rw [List.mem_singleton.1 hx]; exact he
  rw [parse_build guests [e] hok]
  show pst guests (recs (buildL [e])) 1 = _
  rw [pst, recs_build [e] hok 0 e rfl]
  rfl

theorem drops_call {e : Ev} {w : Nat} {h : Hp} {K : Value → Hp → Prop} (he : e.ok) (hw : whyE 1 [] e = w) (hK : ∀ h', Ext h h' → K (.bool true) h') : ACall prog 24 [.agg #[.int .u32 e.t, .int .u8 e.g, .int .u8 e.k, .int .u32 e.v], .int .u8 w] h K := by
  have hok : ∀ x ∈ [e], x.ok := fun x hx => by rw [List.mem_singleton.1 hx]; exact he
  have hp := parse_one 1 he
  have hw3 := whyE_le 1 [] e
  rw [hw] at hp hw3
  refine acallF_of tb0 func24 rfl rfl mixed (by kernel_rfl) fun hwf => ?_
  simp -dsimp (disch := omega)
  refine build_call (l := [e]) (by simp) hok ⟨rfl, .inr ⟨_, _, _, rfl, blks_alloc_eq _ _, by simp, fun j _ => by simp [evsC, evC]⟩⟩ ?_
  simp -dsimp (disch := omega)
  refine parse_call (guests := 1) (by rw [buildL_length]; simp) fun h2 vk vd e2 li => ?_
  rw [hp] at li
  have hle : Ext h h2 := ((Ext.alloc _ _).then_alloc _).trans e2
  by_cases w0 : w = 0
  · rw [if_pos w0] at li
    obtain ⟨ak, ck, rfl⟩ := li.k.slice
    obtain ⟨ad, cd, rfl⟩ := li.d.slice
    subst w0
    simp -dsimp (disch := omega)
    exact RetF.all (by simp) (hK _ hle)
  · rw [if_neg w0] at li
    obtain ⟨ak, ck, rfl⟩ := li.k.slice
    obtain ⟨_, ⟨_, q1⟩ | ⟨bd, _, _, rfl, hbd⟩⟩ := li.d
    · cases q1
    have k4 : drC [(0, w)] = [.int .i64 0, .int .u8 w] := rfl
    simp only [k4] at hbd
    have w0' : ¬ (w : Int) = 0 := by omega
    simp -dsimp (disch := omega) [hbd, w0, w0']
    exact RetF.all (by simp) (hK _ hle)

theorem qleft_nil {h : Hp} {K : Value → Hp → Prop} (hK : K (.int .i64 0) h) : ACall prog 22 [.pointer none] h K := by
  refine acallF_of tb0 func22 rfl rfl mixed (by kernel_rfl) fun hwf => ?_
  simp -dsimp (disch := omega)
  exact RetF.same hwf (by simp) (Nat.zero_le _) (fun _ _ => rfl) hK
theorem due_nil {t : Int} {h : Hp} {K : Value → Hp → Prop} (hK : K (.slice none 0 0) h) : ACall prog 20 [.pointer none, .int .u64 t] h K := by
  refine acallF_of tb0 func20 rfl rfl mixed (by kernel_rfl) fun hwf => ?_
  simp -dsimp (disch := omega)
  refine qleft_nil ?_
  simp -dsimp (disch := omega)
  exact RetF.same hwf (by simp) (Nat.zero_le _) (fun _ _ => rfl) hK

theorem clone2_call {l : List Ev} {a : Addr} {n c : Nat} {b : Blk} {h : Hp} {K : Value → Hp → Prop} (hn : l.length ≤ 2000000) (hl : n = l.length) (hb : h.blks a.block = some b) (hsz : a.off + n * 4 ≤ b.cells.size) (hc : b.cells.extract a.off (a.off + n * 4) = (evsC l).toArray) (hlt : a.block < h.next) (hK : ∀ h' v', Ext h h' → Sl h' 4 l.length (evsC l) v' → (∀ b, sblk v' = some b → h.next ≤ b ∧ b < h'.next) → K v' h') : ACall prog 33 [.slice (some a) n c] h K := by
  subst hl
  refine acallF_of tb0 func33 rfl rfl mixed (by kernel_rfl) fun hwf => ?_
  have hlen := evsC_length l
  have hsrc : srcCells (h.alloc ⟨#[], 4, true⟩) 4 (.slice (some a) l.length c) = some (l.length, (evsC l).toArray) := by
    apply src_slice
    unfold Mini.rowAt
    rw [blks_alloc_ne _ _ _ (by omega), hb]
    simp only
    rw [if_pos (by omega), hc]
  simp -dsimp (disch := omega)
  refine app_empty (blks_alloc_eq _ _) hsrc (by simp; omega) (by unfold ROOM; omega) fun v' h' he hs hb => ?_
  simp -dsimp (disch := omega)
  refine RetF.all ?_ (hK _ _ ((Ext.alloc h _).trans he) (by simpa using hs) fun b hb' => ?_)
  · obtain ⟨a, c, rfl⟩ := hs.slice
    simp
  · have := he.le
    simp at this
    rcases hb b hb' with rfl | ⟨q1, q2⟩
    · omega
    · simp at q1; omega
theorem new2_call {l : List Ev} {a : Addr} {n c : Nat} {b : Blk} {h : Hp} {K : Value → Hp → Prop} (hn : l.length ≤ 2000000) (hl : n = l.length) (hb : h.blks a.block = some b) (hsz : a.off + n * 4 ≤ b.cells.size) (hc : b.cells.extract a.off (a.off + n * 4) = (evsC l).toArray) (hlt : a.block < h.next) (hK : ∀ h' q v', Ext h h' → h.next ≤ q → Que h' q l v' → K (.pointer (some ⟨q, 0, none⟩)) h') : ACall prog 17 [.slice (some a) n c] h K := by
  refine acallF_of tb0 func17 rfl rfl mixed (by kernel_rfl) fun hwf => ?_
  simp -dsimp (disch := omega)
  refine clone2_call hn hl hb hsz hc hlt fun h' v' he hs hb => ?_
  obtain ⟨a, c, rfl⟩ := hs.slice
  simp -dsimp (disch := omega)
  refine RetF.all (by simp) (hK _ _ _ (he.then_alloc _) he.le ⟨blks_alloc_eq _ _, hs.mono fun b hb' => blks_alloc_ne _ _ _ (by have := hb b hb'; omega), by simp, fun b hb' => by have := hb b hb'; simp; omega⟩)

end Go.Proofs.Ytcfgagpjdhhddaa
