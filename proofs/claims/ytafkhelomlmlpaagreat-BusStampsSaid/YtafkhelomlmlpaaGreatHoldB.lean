/-
  What the law of what is written comes to, and that it holds. Conditions: none.
-/
import Derived.Test.YtafkhelomlmlpaaGreatBusZ
import Derived.Test.YtafkhelomlmlpaaGreatHold
set_option linter.unusedSectionVars false
set_option linter.unusedVariables false
set_option linter.unusedSimpArgs false
namespace Go.Proofs.YtafkhelomlmlpaaGreat
open Go Go.AE Go.SX Go.RowKit
set_option maxRecDepth 1000000
section
variable [HF] [HOk1] [HOk2] [HOk3] [ROk] [BOk] [BOk2] [SOk]
theorem and_B {e : En} {x y : X} (h1 : x.B e = true) (h2 : y.B e = true) : (X.o .and x y).B e = true := by
  show (x.B e && y.B e) = true
  rw [h1, h2]; rfl
end
end Go.Proofs.YtafkhelomlmlpaaGreat
