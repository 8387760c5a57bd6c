/-
  The page made without feeds, of the program and of the document: made, or why not; the program's copy. Conditions: none.
-/
import Derived.Test.YtafkhelomlmlpaaGreatHdH
import Derived.Test.YtafkhelomlmlpaaGreatHdI
set_option linter.unusedSectionVars false
set_option linter.unusedVariables false
set_option linter.unusedSimpArgs false
namespace Go.Proofs.YtafkhelomlmlpaaGreat
open Go Go.AE Go.SX Go.RowKit
set_option maxRecDepth 1000000
variable [HF]
def ap8 : X := .ap 8 (.v 0)
def rl0 : X := .u .rlen (.v 0)
def wrE : X := .o .lt ap8 rl0
def newX (p d e l : X) : X := packX [.i 0, .i 0, .i 0, .b false, .i 3072, .i 0, .b false, .i 0, .i 0, p, .i 0, d, .i 0, e, .i 0, l, .i 0, .b false, .i 0]
def newX0 (l : X) : X := newX (.s []) (.s []) (.s []) l
/-! Contracts of what is used. -/
def lcClN : LC := ⟨0, [.z .sl0], [], [], [], .z .sl0, []⟩
theorem clN : lcClN.Ok Tryz.prog 47 := lc_ok rfl rfl (by kernel_rfl)
variable [HOk1] [HOk2] [HOk4]
def dnX (k : Int) : X := .u .not (upX (.v 0) (.i 0) (.i k))
def okA : List X := [.u .not wrE, .ap 7 (.v 0), dnX 0, dnX 1, dnX 2, dnX 3]
/-! The program's copy. -/
variable [HOk3]
end Go.Proofs.YtafkhelomlmlpaaGreat
