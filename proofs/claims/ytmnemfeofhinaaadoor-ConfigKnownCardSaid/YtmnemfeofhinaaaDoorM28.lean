/-
  A call of which the library says what it gives back, whose arguments lead into memory: strings.Join of a row of texts.
-/
import Derived.Test.YtmnemfeofhinaaaDoorM24
import Derived.Lib.Join
set_option linter.unusedSimpArgs false
set_option linter.unusedVariables false
set_option linter.unusedSectionVars false
namespace Go.Mini
open Go
variable [E : REnv]

theorem putL_full {cs cs' : Array Value} (h : cs.size = cs'.size) : putL cs 0 cs'.toList = cs' := by
  apply Array.ext_getElem?
  intro j
  rw [getElem?_putL]
  by_cases hj : j < cs'.size
  · rw [if_pos ⟨by omega, by simpa using hj, by omega⟩]; simp
  · rw [if_neg (by simp; omega), Array.getElem?_eq_none (by omega), Array.getElem?_eq_none (by omega)]
theorem ACall.of_world {P : Program} {f : FuncId} {args : List Value} {h : Hp} {K : Value → Hp → Prop} {r : Value} (hcl : Callable P f) (hr : vtop r = 0)
    (hc : ∀ (B : Bd) (w0 : World) (ρ : Rn) (w : World), Sim B w0 ρ h w → Calls P f (args.map (rl ρ)).toArray w fun e w' => e = .returned r ∧ RowKit.Below w.heap.size w w') (hK : K r h) : ACall P f args h K :=
  ⟨hcl, fun B w0 ρ w hs _ => (hc B w0 ρ w hs.sim).mono fun ex w' ⟨he, hb⟩ => ⟨r, h, ρ, by rw [he, rl_id r hr], hK, hs.grown hb, by omega, Nat.le_refl _, Goes.refl _ _, fun _ => rfl⟩⟩

theorem join_of {P : Program} {f : FuncId} {h : Hp} {K : Value → Hp → Prop} {m : Nat} {xs : List (List UInt8)} {sep : List UInt8} {v : Value} (hcl : Callable P f)
    (J : ∀ (bk o c : Nat) (ys : List ByteArray) (s : ByteArray) (w : World), (∀ (j : Nat) x, ys[j]? = some x → w.cell? ⟨bk, o + j, none⟩ = some (.string x)) → bk < w.heap.size → ys.length ≤ 140737488355328 → ys.length ≤ c → (Lib.join (ys.map (·.data.toList)) s.data.toList).length ≤ 140737488355328 →
      Calls P f #[.slice (some ⟨bk, o, none⟩) ys.length c, .string s] w fun e w' => e = .returned (.string ⟨(Lib.join (ys.map (·.data.toList)) s.data.toList).toArray⟩) ∧ RowKit.Below w.heap.size w w')
    (hr : Row m h 1 xs.length (xs.map fun l => .string (txt l)) v) (hne : xs ≠ []) (hl : xs.length ≤ 140737488355328) (hlen : (Lib.join xs sep).length ≤ 140737488355328) (hK : K (.string (txt (Lib.join xs sep))) h) : ACall P f [v, .string (txt sep)] h K := by
  refine ACall.of_world (r := .string (txt (Lib.join xs sep))) hcl rfl (fun B w0 ρ w hs => ?_) hK
  obtain ⟨_, ⟨_, h0⟩ | ⟨b, _, _, rfl, hb⟩⟩ := hr
  · exact absurd (List.length_eq_zero_iff.1 h0) hne
  · obtain ⟨cs, e, fr, q⟩ := hs.real b _ hb
    have hm : (xs.map txt).map (·.data.toList) = xs := by
      rw [List.map_map]
      have : (fun l => l) = ((fun x : ByteArray => x.data.toList) ∘ txt) := by funext l; rfl
      rw [← this, List.map_id']
    have hlt : (ρ b).blk < w.heap.size := (Array.getElem?_eq_some_iff.1 q.at_).1
    have := J (ρ b).blk ((ρ b).base + 0) (xs.length + (ρ b).extra) (xs.map txt) (txt sep) w (fun j x hj => ?_) hlt (by simpa using hl) (by simp) (by rw [hm]; exact hlen)
    · rw [hm, List.length_map] at this
      have ea : ([Value.slice (some ⟨b, 0, none⟩) xs.length (2 * xs.length + 1), .string (txt sep)].map (rl ρ)).toArray = #[.slice (some ⟨(ρ b).blk, (ρ b).base + 0, none⟩) xs.length (xs.length + (ρ b).extra), .string (txt sep)] := by
        simp only [List.map_cons, List.map_nil, rl, rlAddr, rlCap]
        rw [if_pos (by omega), show (2 * xs.length + 1) / 2 = xs.length by omega]
      rw [ea]
      exact this
    · rw [List.getElem?_map] at hj
      obtain ⟨l, hl2, rfl⟩ : ∃ l, xs[j]? = some l ∧ txt l = x := by
        cases hx : xs[j]? with
        | none => rw [hx] at hj; cases hj
        | some l => rw [hx] at hj; exact ⟨l, rfl, by simpa using hj⟩
      have hjl : j < xs.length := (List.getElem?_eq_some_iff.1 hl2).1
      have hc := q.cell j (by simpa using hjl)
      have hel : xs[j] = l := (List.getElem?_eq_some_iff.1 hl2).2
      simp only [List.getElem_toArray, List.getElem_map, hel, rl] at hc
      simp only [World.cell?, q.at_, Nat.add_zero]
      exact hc
end Go.Mini
