/-
  What timing.all answers, part 0. Conditions: none.
-/
import Derived.Test.YtjcpcnoakphecaaDoorTmT
set_option linter.unusedSectionVars false
set_option linter.unusedVariables false
set_option linter.unusedSimpArgs false
namespace Go.Proofs.YtjcpcnoakphecaaDoor
open Go Go.AE Go.SX Go.RowKit
set_option maxRecDepth 1000000
variable [DF] [DOk1]
theorem tA_0 (n : Int) : runAlls n 0 8 = true := by kernel_rfl
theorem tA_8 (n : Int) : runAlls n 8 8 = true := by kernel_rfl
theorem tA_16 (n : Int) : runAlls n 16 8 = true := by kernel_rfl
theorem tA_24 (n : Int) : runAlls n 24 8 = true := by kernel_rfl
theorem tA_32 (n : Int) : runAlls n 32 8 = true := by kernel_rfl
theorem tA_40 (n : Int) : runAlls n 40 8 = true := by kernel_rfl
theorem tA_48 (n : Int) : runAlls n 48 8 = true := by kernel_rfl
theorem tA_56 (n : Int) : runAlls n 56 8 = true := by kernel_rfl
end Go.Proofs.YtjcpcnoakphecaaDoor
