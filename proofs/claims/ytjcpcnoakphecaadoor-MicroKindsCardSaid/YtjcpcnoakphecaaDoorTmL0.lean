/-
  What gannetref29.Letters answers, part 0. Conditions: none.
-/
import Derived.Test.YtjcpcnoakphecaaDoorTmT
set_option linter.unusedSectionVars false
set_option linter.unusedVariables false
set_option linter.unusedSimpArgs false
namespace Go.Proofs.YtjcpcnoakphecaaDoor
open Go Go.AE Go.SX Go.RowKit
set_option maxRecDepth 1000000
variable [DF] [DOk1]
theorem tL_0 : runLets 0 8 = true := by kernel_rfl
theorem tL_8 : runLets 8 8 = true := by kernel_rfl
theorem tL_16 : runLets 16 8 = true := by kernel_rfl
theorem tL_24 : runLets 24 8 = true := by kernel_rfl
theorem tL_32 : runLets 32 8 = true := by kernel_rfl
theorem tL_40 : runLets 40 8 = true := by kernel_rfl
theorem tL_48 : runLets 48 8 = true := by kernel_rfl
theorem tL_56 : runLets 56 8 = true := by kernel_rfl
end Go.Proofs.YtjcpcnoakphecaaDoor
