/-
  A slice whose capacity was not known is told with one that fits: for every such capacity.
-/
import Derived.Test.YtmnemfeofhinaaaDoorM22
set_option linter.unusedSimpArgs false
set_option linter.unusedVariables false
set_option linter.unusedSectionVars false
namespace Go.Mini
open Go
variable [E : REnv]

theorem Sim.recell {B : Bd} {w0 : World} {ρ : Rn} {h : Hp} {w : World} {p : Nat} {c c' : Blk} (hs : Sim B w0 ρ h w) (hp : h.blks p = some c) (h1 : c'.cells.size = c.cells.size) (h2 : c'.esz = c.esz) (h3 : c'.own = c.own)
    (hr : ∀ (j : Nat) (hj : j < c'.cells.size) (hj' : j < c.cells.size), rl ρ c'.cells[j] = rl ρ c.cells[j]) (hw : ∀ v ∈ c'.cells, vtop v ≤ h.next ∧ v.oneCell' = true) : Sim B w0 ρ (h.set p c') w := by
  have look : ∀ i b, (h.set p c').blks i = some b → (i = p ∧ b = c') ∨ (i ≠ p ∧ h.blks i = some b) := fun i b hb => by
    rw [Hp.blks_set] at hb
    by_cases hi : i = p
    · rw [if_pos hi] at hb; cases hb; exact .inl ⟨hi, rfl⟩
    · rw [if_neg hi] at hb; exact .inr ⟨hi, hb⟩
  have low : ∀ i b, (h.set p c').blks i = some b → ∃ b0, h.blks i = some b0 ∧ b0.own = b.own := fun i b hb => by
    rcases look i b hb with ⟨rfl, rfl⟩ | ⟨_, hb⟩
    · exact ⟨c, hp, h3.symm⟩
    · exact ⟨b, hb, rfl⟩
  refine ⟨fun i b hb => ?_, fun i b hb => ?_, fun i b hb => ?_, fun i j b d hb hd ob od e => ?_, hs.base, hs.below, hs.gl, hs.nx⟩
  · obtain ⟨b0, h0, _⟩ := low i b hb; exact hs.lt i b0 h0
  · rcases look i b hb with ⟨rfl, rfl⟩ | ⟨_, hb⟩
    · exact hw
    · exact hs.wf i b hb
  · rcases look i b hb with ⟨rfl, rfl⟩ | ⟨_, hb⟩
    · obtain ⟨cs, e, fr, q⟩ := hs.real i c hp
      exact ⟨cs, e, fr, q.at_, fun j hj => by rw [hr j hj (h1 ▸ hj)]; exact q.cell j (h1 ▸ hj), fun ho => by rw [h1, h2]; exact q.own (h3 ▸ ho), fun ho => by rw [h1, h2]; exact q.ro (h3 ▸ ho)⟩
    · exact hs.real i b hb
  · obtain ⟨b0, q1, q2⟩ := low i b hb
    obtain ⟨d0, q3, q4⟩ := low j d hd
    exact hs.inj i j b0 d0 q1 q3 (q2.trans ob) (q4.trans od) e

theorem ACall.close {P : Program} {f : FuncId} {args : List Value} {h : Hp} {K : Value → Hp → Prop}
    (hc : ACall P f args h fun r h' => ∃ p b n x y, h'.blks p = some ⟨#[.slice (some ⟨b, 0, none⟩) n (2 * n + 1), x, y], 1, true⟩ ∧ ∀ c, n ≤ c → K r (h'.set p ⟨#[.slice (some ⟨b, 0, none⟩) n (2 * c), x, y], 1, true⟩)) : ACall P f args h K :=
  ⟨hc.1, fun B w0 ρ w hs ha => (hc.2 B w0 ρ w hs ha).mono fun _ _ ⟨r, h', ρ', he, ⟨p, b, n, x, y, hp, hk⟩, hs', hv, hn, hg, hj⟩ => by
    refine ⟨r, _, ρ', he, hk (n + (ρ' b).extra) (by omega), ?_, hv, hn, hg, hj⟩
    have hw := hs'.sim.wf p _ hp
    have w0 := hw (.slice (some ⟨b, 0, none⟩) n (2 * n + 1)) (by simp)
    have w1 := hw x (by simp)
    have w2 := hw y (by simp)
    refine ⟨Sim.recell hs'.sim hp rfl rfl rfl (fun j hj hj' => ?_) fun v hv => ?_, hs'.env, hs'.top, hs'.sep, fun i c hi ho => ?_⟩
    rotate_right
    · rw [Hp.blks_set] at hi
      split at hi
      · rename_i he
        subst he
        exact hs'.own i _ hp rfl
      · exact hs'.own i c hi ho
    · match j, hj with
      | 0, _ =>
        show rl ρ' (.slice (some ⟨b, 0, none⟩) n (2 * (n + (ρ' b).extra))) = rl ρ' (.slice (some ⟨b, 0, none⟩) n (2 * n + 1))
        simp only [rl, rlCap]
        rw [if_neg (by omega), if_pos (by omega)]
        congr 1
        omega
      | 1, _ => rfl
      | 2, _ => rfl
      | j + 3, hj => exact absurd hj (by simp)
    · simp only [List.mem_toArray, List.mem_cons, List.not_mem_nil, or_false] at hv
      rcases hv with rfl | rfl | rfl
      · exact ⟨w0.1, rfl⟩
      · exact w1
      · exact w2⟩

/-- The same of a slice that stands in a block that is handed in. -/
theorem ACall.openIn {P : Program} {f : FuncId} {args : List Value} {h : Hp} {K : Value → Hp → Prop} {p n k : Nat} {a : Addr} {x y : Value} (hp : h.blks p = some ⟨#[.slice (some a) n (2 * k + 1), x, y], 1, true⟩)
    (H : ∀ c, k ≤ c → ACall P f args (h.set p ⟨#[.slice (some a) n (2 * c), x, y], 1, true⟩) K) : ACall P f args h K :=
  ⟨(H k (Nat.le_refl _)).1, fun B w0 ρ w hs ha => by
    refine (H (k + (ρ a.block).extra) (by omega)).2 B w0 ρ w ?_ ha
    have hw := hs.sim.wf p _ hp
    have w0 := hw (.slice (some a) n (2 * k + 1)) (by simp)
    have w1 := hw x (by simp)
    have w2 := hw y (by simp)
    refine ⟨Sim.recell hs.sim hp rfl rfl rfl (fun j hj hj' => ?_) fun v hv => ?_, hs.env, hs.top, hs.sep, fun i c hi ho => ?_⟩
    rotate_right
    · rw [Hp.blks_set] at hi
      split at hi
      · rename_i he
        subst he
        exact hs.own i _ hp rfl
      · exact hs.own i c hi ho
    · match j, hj with
      | 0, _ =>
        show rl ρ (.slice (some a) n (2 * (k + (ρ a.block).extra))) = rl ρ (.slice (some a) n (2 * k + 1))
        simp only [rl, rlCap]
        rw [if_neg (by omega), if_pos (by omega)]
        congr 1
        omega
      | 1, _ => rfl
      | 2, _ => rfl
      | j + 3, hj => exact absurd hj (by simp)
    · simp only [List.mem_toArray, List.mem_cons, List.not_mem_nil, or_false] at hv
      rcases hv with rfl | rfl | rfl
      · exact ⟨w0.1, rfl⟩
      · exact w1
      · exact w2⟩

/-- Appending to an empty one: what comes is new. -/
theorem app_fresh {h : Hp} {esz bytes b0 : Nat} {x : Value} {k : Nat} {new : Array Value} {K : Value → Hp → Prop} {u : Tag K} {b : Blk} (hb : h.blks b0 = some b) (hx : srcCells h esz x = some (k, new)) (hk : 0 < k) (room : k * bytes ≤ ROOM ∧ k ≤ ROOM)
    (hK : K (.slice (some ⟨h.next, 0, none⟩) k (2 * k + 1)) (h.alloc ⟨new, esz, true⟩)) : OptF (aappend h esz bytes (.slice (some ⟨b0, 0, none⟩) 0 0) x) K u := by
  have hr0 : Mini.rowAt h ⟨b0, 0, none⟩ (0 * esz) = some #[] := by
    unfold Mini.rowAt
    rw [hb]
    simp
  unfold aappend
  simp only [hx]
  rw [if_neg (by omega), if_pos trivial, hr0]
  simp only
  unfold agrown
  rw [if_pos (by simpa using room)]
  simpa using hK

end Go.Mini
