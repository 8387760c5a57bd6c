/-
  What gannetref23.Of answers, part 0. Conditions: none.
-/
import Derived.Test.YtciemdpcllpdkaaDoorOpT
set_option linter.unusedSectionVars false
set_option linter.unusedVariables false
set_option linter.unusedSimpArgs false
namespace Go.Proofs.YtciemdpcllpdkaaDoor
open Go Go.AE Go.SX Go.RowKit
set_option maxRecDepth 1000000
variable [Fam]
theorem rB_0 : runs 13 spB 0 8 = true := by kernel_rfl
theorem rB_8 : runs 13 spB 8 8 = true := by kernel_rfl
theorem rB_16 : runs 13 spB 16 8 = true := by kernel_rfl
theorem rB_24 : runs 13 spB 24 8 = true := by kernel_rfl
theorem rB_32 : runs 13 spB 32 8 = true := by kernel_rfl
theorem rB_40 : runs 13 spB 40 8 = true := by kernel_rfl
theorem rB_48 : runs 13 spB 48 8 = true := by kernel_rfl
theorem rB_56 : runs 13 spB 56 8 = true := by kernel_rfl
end Go.Proofs.YtciemdpcllpdkaaDoor
