/-
  What gannetref29.Letters answers, part 3. Conditions: none.
-/
import Derived.Test.YtjcpcnoakphecaaDoorTmT
set_option linter.unusedSectionVars false
set_option linter.unusedVariables false
set_option linter.unusedSimpArgs false
namespace Go.Proofs.YtjcpcnoakphecaaDoor
open Go Go.AE Go.SX Go.RowKit
set_option maxRecDepth 1000000
variable [DF] [DOk1]
theorem tL_192 : runLets 192 8 = true := by kernel_rfl
theorem tL_200 : runLets 200 8 = true := by kernel_rfl
theorem tL_208 : runLets 208 8 = true := by kernel_rfl
theorem tL_216 : runLets 216 8 = true := by kernel_rfl
theorem tL_224 : runLets 224 8 = true := by kernel_rfl
theorem tL_232 : runLets 232 8 = true := by kernel_rfl
theorem tL_240 : runLets 240 8 = true := by kernel_rfl
theorem tL_248 : runLets 248 8 = true := by kernel_rfl
end Go.Proofs.YtjcpcnoakphecaaDoor
