/-
  What timing.all answers, part 3. Conditions: none.
-/
import Derived.Test.YtjcpcnoakphecaaDoorTmT
set_option linter.unusedSectionVars false
set_option linter.unusedVariables false
set_option linter.unusedSimpArgs false
namespace Go.Proofs.YtjcpcnoakphecaaDoor
open Go Go.AE Go.SX Go.RowKit
set_option maxRecDepth 1000000
variable [DF] [DOk1]
theorem tA_192 (n : Int) : runAlls n 192 8 = true := by kernel_rfl
theorem tA_200 (n : Int) : runAlls n 200 8 = true := by kernel_rfl
theorem tA_208 (n : Int) : runAlls n 208 8 = true := by kernel_rfl
theorem tA_216 (n : Int) : runAlls n 216 8 = true := by kernel_rfl
theorem tA_224 (n : Int) : runAlls n 224 8 = true := by kernel_rfl
theorem tA_232 (n : Int) : runAlls n 232 8 = true := by kernel_rfl
theorem tA_240 (n : Int) : runAlls n 240 8 = true := by kernel_rfl
theorem tA_248 (n : Int) : runAlls n 248 8 = true := by kernel_rfl
end Go.Proofs.YtjcpcnoakphecaaDoor
