/-
  What timing.all answers, part 2. Conditions: none.
-/
import Derived.Test.YtjcpcnoakphecaaDoorTmT
set_option linter.unusedSectionVars false
set_option linter.unusedVariables false
set_option linter.unusedSimpArgs false
namespace Go.Proofs.YtjcpcnoakphecaaDoor
open Go Go.AE Go.SX Go.RowKit
set_option maxRecDepth 1000000
variable [DF] [DOk1]
theorem tA_128 (n : Int) : runAlls n 128 8 = true := by kernel_rfl
theorem tA_136 (n : Int) : runAlls n 136 8 = true := by kernel_rfl
theorem tA_144 (n : Int) : runAlls n 144 8 = true := by kernel_rfl
theorem tA_152 (n : Int) : runAlls n 152 8 = true := by kernel_rfl
theorem tA_160 (n : Int) : runAlls n 160 8 = true := by kernel_rfl
theorem tA_168 (n : Int) : runAlls n 168 8 = true := by kernel_rfl
theorem tA_176 (n : Int) : runAlls n 176 8 = true := by kernel_rfl
theorem tA_184 (n : Int) : runAlls n 184 8 = true := by kernel_rfl
end Go.Proofs.YtjcpcnoakphecaaDoor
