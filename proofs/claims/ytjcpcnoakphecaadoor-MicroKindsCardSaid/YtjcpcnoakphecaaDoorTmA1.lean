/-
  What timing.all answers, part 1. Conditions: none.
-/
import Derived.Test.YtjcpcnoakphecaaDoorTmT
set_option linter.unusedSectionVars false
set_option linter.unusedVariables false
set_option linter.unusedSimpArgs false
namespace Go.Proofs.YtjcpcnoakphecaaDoor
open Go Go.AE Go.SX Go.RowKit
set_option maxRecDepth 1000000
variable [DF] [DOk1]
theorem tA_64 (n : Int) : runAlls n 64 8 = true := by kernel_rfl
theorem tA_72 (n : Int) : runAlls n 72 8 = true := by kernel_rfl
theorem tA_80 (n : Int) : runAlls n 80 8 = true := by kernel_rfl
theorem tA_88 (n : Int) : runAlls n 88 8 = true := by kernel_rfl
theorem tA_96 (n : Int) : runAlls n 96 8 = true := by kernel_rfl
theorem tA_104 (n : Int) : runAlls n 104 8 = true := by kernel_rfl
theorem tA_112 (n : Int) : runAlls n 112 8 = true := by kernel_rfl
theorem tA_120 (n : Int) : runAlls n 120 8 = true := by kernel_rfl
end Go.Proofs.YtjcpcnoakphecaaDoor
