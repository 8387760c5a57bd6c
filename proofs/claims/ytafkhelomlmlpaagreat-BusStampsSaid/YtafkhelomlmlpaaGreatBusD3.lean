/-
  The bus's accesses: both sides do as the cases say. Conditions: none.
-/
import Derived.Test.YtafkhelomlmlpaaGreatBusC
set_option linter.unusedSectionVars false
set_option linter.unusedVariables false
set_option linter.unusedSimpArgs false
namespace Go.Proofs.YtafkhelomlmlpaaGreat
open Go Go.AE Go.SX Go.RowKit
set_option maxRecDepth 1000000
variable [HF] [HOk1] [HOk2] [HOk3] [ROk] [BOk]
end Go.Proofs.YtafkhelomlmlpaaGreat
