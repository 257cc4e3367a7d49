/-
  reads.
-/
import Derived.Test.YtfdhahnnhaeibaaDoorG9
set_option linter.unusedSimpArgs false
set_option linter.unusedVariables false
set_option linter.unusedSectionVars false
namespace Go.Proofs.YtfdhahnnhaeibaaDoor
open Go Go.Mini Go.Proofs.Tryd
set_option maxRecDepth 100000

section
variable {h : Hp} {K : Value → Hp → Prop} {p : Nat} {s : St}
theorem reads_call {off want : Nat} (hb : h.blks p = some ⟨stC s, 1, true⟩) (hs : s.ok) (hp : p < h.next) (ho : off < 18446744073709551616) (hm : mayN off 4 = true) (hw : (readS s off).1 = want)
    (hK : ∀ h', (∀ i, i < h.next → i ≠ p → h'.blks i = h.blks i) → h.next ≤ h'.next → h'.blks p = some ⟨stC (readS s off).2, 1, true⟩ → K (.bool true) h') : ACall prog 21 [ptr p, .int .u64 off, .int .u64 want] h K := by
  refine acallF_of tb0 func21 rfl rfl mixed (by kernel_rfl) fun hwf => ?_
  simp -dsimp (disch := omega)
  refine read_call hb hs hp ho (fun e => by rw [hm] at e; cases e) (fun _ h' h1 h2 h3 => ?_)
  rw [hw]
  simp -dsimp (disch := omega)
  exact RetF.all (by simp) (hK h' h1 h2 h3)
end
end Go.Proofs.YtfdhahnnhaeibaaDoor
