/-
  The page's copies; whether edges may be. Conditions: none.
-/
import Derived.Test.YtafkhelomlmlpaaGreatHdG
import Derived.Test.YtafkhelomlmlpaaGreatClo
set_option linter.unusedSectionVars false
set_option linter.unusedVariables false
set_option linter.unusedSimpArgs false
namespace Go.Proofs.YtafkhelomlmlpaaGreat
open Go Go.AE Go.SX Go.RowKit
set_option maxRecDepth 1000000
variable [HF]
/-! Copies. -/
variable [HOk1] [HOk2] [HOk3]
end Go.Proofs.YtafkhelomlmlpaaGreat
