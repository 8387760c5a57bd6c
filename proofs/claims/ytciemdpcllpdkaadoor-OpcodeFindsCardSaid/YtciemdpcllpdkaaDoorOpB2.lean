/-
  What gannetref23.Of answers, part 2. Conditions: none.
-/
import Derived.Test.YtciemdpcllpdkaaDoorOpT
set_option linter.unusedSectionVars false
set_option linter.unusedVariables false
set_option linter.unusedSimpArgs false
namespace Go.Proofs.YtciemdpcllpdkaaDoor
open Go Go.AE Go.SX Go.RowKit
set_option maxRecDepth 1000000
variable [Fam]
theorem rB_128 : runs 13 spB 128 8 = true := by kernel_rfl
theorem rB_136 : runs 13 spB 136 8 = true := by kernel_rfl
theorem rB_144 : runs 13 spB 144 8 = true := by kernel_rfl
theorem rB_152 : runs 13 spB 152 8 = true := by kernel_rfl
theorem rB_160 : runs 13 spB 160 8 = true := by kernel_rfl
theorem rB_168 : runs 13 spB 168 8 = true := by kernel_rfl
theorem rB_176 : runs 13 spB 176 8 = true := by kernel_rfl
theorem rB_184 : runs 13 spB 184 8 = true := by kernel_rfl
end Go.Proofs.YtciemdpcllpdkaaDoor
