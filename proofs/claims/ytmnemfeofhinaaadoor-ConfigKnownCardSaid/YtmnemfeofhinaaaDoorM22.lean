/-
  Parts of a function's code, to be proved by themselves.
-/
import Derived.Test.YtmnemfeofhinaaaDoorM21
set_option linter.unusedSimpArgs false
set_option linter.unusedVariables false
set_option linter.unusedSectionVars false
namespace Go.Mini
open Go
variable [E : REnv]

def bodyC (f : Func) : Code := match f.body with | some c => c | none => .skip
def fstC : Code → Code | .seq a _ => a | c => c
def sndC : Code → Code | .seq _ b => b | c => c
def thenC : Code → Code | .cond _ a _ => a | c => c
def elseC : Code → Code | .cond _ _ b => b | c => c
def blkC : Code → Code | .block _ a => a | c => c
def scopeC : Code → Code | .scope a => a | c => c
def loopC : Code → Code | .loop a => a | c => c

theorem awpF_of {P : Program} {n : Nat} {c : Code} {Q : APost} {t : Tm} {h : Hp} {u1 : Tag c} {u2 : Tag Q} {u3 : Tag t} {u4 : Tag h} (a : Awp P n c Q t h) : AwpF P n c Q t h u1 u2 u3 u4 := a
theorem apQ_of {Q : APost} {e : Exit} {t : Tm} {h : Hp} (a : apQ Q e t h (.mk _)) : Q e t h := a

end Go.Mini
