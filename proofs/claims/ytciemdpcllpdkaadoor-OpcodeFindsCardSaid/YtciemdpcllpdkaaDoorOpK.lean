/-
  What opcode.Known answers. Conditions: none.
-/
import Derived.Test.YtciemdpcllpdkaaDoorOpT
set_option linter.unusedSectionVars false
set_option linter.unusedVariables false
set_option linter.unusedSimpArgs false
namespace Go.Proofs.YtciemdpcllpdkaaDoor
open Go Go.AE Go.SX Go.RowKit
set_option maxRecDepth 1000000
variable [Fam]
theorem rK_0 : runs 43 spK 0 32 = true := by kernel_rfl
theorem rK_32 : runs 43 spK 32 32 = true := by kernel_rfl
theorem rK_64 : runs 43 spK 64 32 = true := by kernel_rfl
theorem rK_96 : runs 43 spK 96 32 = true := by kernel_rfl
theorem rK_128 : runs 43 spK 128 32 = true := by kernel_rfl
theorem rK_160 : runs 43 spK 160 32 = true := by kernel_rfl
theorem rK_192 : runs 43 spK 192 32 = true := by kernel_rfl
theorem rK_224 : runs 43 spK 224 32 = true := by kernel_rfl
end Go.Proofs.YtciemdpcllpdkaaDoor
