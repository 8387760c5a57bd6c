/-
  What opcode.Of answers, part 1. Conditions: none.
-/
import Derived.Test.YtciemdpcllpdkaaDoorOpT
set_option linter.unusedSectionVars false
set_option linter.unusedVariables false
set_option linter.unusedSimpArgs false
namespace Go.Proofs.YtciemdpcllpdkaaDoor
open Go Go.AE Go.SX Go.RowKit
set_option maxRecDepth 1000000
variable [Fam]
theorem rA_64 : runs 42 spA 64 8 = true := by kernel_rfl
theorem rA_72 : runs 42 spA 72 8 = true := by kernel_rfl
theorem rA_80 : runs 42 spA 80 8 = true := by kernel_rfl
theorem rA_88 : runs 42 spA 88 8 = true := by kernel_rfl
theorem rA_96 : runs 42 spA 96 8 = true := by kernel_rfl
theorem rA_104 : runs 42 spA 104 8 = true := by kernel_rfl
theorem rA_112 : runs 42 spA 112 8 = true := by kernel_rfl
theorem rA_120 : runs 42 spA 120 8 = true := by kernel_rfl
end Go.Proofs.YtciemdpcllpdkaaDoor
