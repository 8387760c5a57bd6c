/-
  What gannetref29.Letters answers, part 2. Conditions: none.
-/
import Derived.Test.YtjcpcnoakphecaaDoorTmT
set_option linter.unusedSectionVars false
set_option linter.unusedVariables false
set_option linter.unusedSimpArgs false
namespace Go.Proofs.YtjcpcnoakphecaaDoor
open Go Go.AE Go.SX Go.RowKit
set_option maxRecDepth 1000000
variable [DF] [DOk1]
theorem tL_128 : runLets 128 8 = true := by kernel_rfl
theorem tL_136 : runLets 136 8 = true := by kernel_rfl
theorem tL_144 : runLets 144 8 = true := by kernel_rfl
theorem tL_152 : runLets 152 8 = true := by kernel_rfl
theorem tL_160 : runLets 160 8 = true := by kernel_rfl
theorem tL_168 : runLets 168 8 = true := by kernel_rfl
theorem tL_176 : runLets 176 8 = true := by kernel_rfl
theorem tL_184 : runLets 184 8 = true := by kernel_rfl
end Go.Proofs.YtjcpcnoakphecaaDoor
