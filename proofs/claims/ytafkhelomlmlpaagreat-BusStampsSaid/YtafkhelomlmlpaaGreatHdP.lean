/-
  Plain laws of going on: in parts it is as at once. Conditions: none.
-/
import Derived.Test.YtafkhelomlmlpaaGreatHdC
set_option linter.unusedSectionVars false
set_option linter.unusedVariables false
set_option linter.unusedSimpArgs false
namespace Go.Proofs.YtafkhelomlmlpaaGreat
open Go Go.AE Go.SX Go.RowKit
end Go.Proofs.YtafkhelomlmlpaaGreat
