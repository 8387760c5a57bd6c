/-
  What gannetref29.Letters answers, part 1. Conditions: none.
-/
import Derived.Test.YtjcpcnoakphecaaDoorTmT
set_option linter.unusedSectionVars false
set_option linter.unusedVariables false
set_option linter.unusedSimpArgs false
namespace Go.Proofs.YtjcpcnoakphecaaDoor
open Go Go.AE Go.SX Go.RowKit
set_option maxRecDepth 1000000
variable [DF] [DOk1]
theorem tL_64 : runLets 64 8 = true := by kernel_rfl
theorem tL_72 : runLets 72 8 = true := by kernel_rfl
theorem tL_80 : runLets 80 8 = true := by kernel_rfl
theorem tL_88 : runLets 88 8 = true := by kernel_rfl
theorem tL_96 : runLets 96 8 = true := by kernel_rfl
theorem tL_104 : runLets 104 8 = true := by kernel_rfl
theorem tL_112 : runLets 112 8 = true := by kernel_rfl
theorem tL_120 : runLets 120 8 = true := by kernel_rfl
end Go.Proofs.YtjcpcnoakphecaaDoor
