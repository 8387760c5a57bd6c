/-
  What gannetref23.Of answers, part 1. Conditions: none.
-/
import Derived.Test.YtciemdpcllpdkaaDoorOpT
set_option linter.unusedSectionVars false
set_option linter.unusedVariables false
set_option linter.unusedSimpArgs false
namespace Go.Proofs.YtciemdpcllpdkaaDoor
open Go Go.AE Go.SX Go.RowKit
set_option maxRecDepth 1000000
variable [Fam]
theorem rB_64 : runs 13 spB 64 8 = true := by kernel_rfl
theorem rB_72 : runs 13 spB 72 8 = true := by kernel_rfl
theorem rB_80 : runs 13 spB 80 8 = true := by kernel_rfl
theorem rB_88 : runs 13 spB 88 8 = true := by kernel_rfl
theorem rB_96 : runs 13 spB 96 8 = true := by kernel_rfl
theorem rB_104 : runs 13 spB 104 8 = true := by kernel_rfl
theorem rB_112 : runs 13 spB 112 8 = true := by kernel_rfl
theorem rB_120 : runs 13 spB 120 8 = true := by kernel_rfl
end Go.Proofs.YtciemdpcllpdkaaDoor
