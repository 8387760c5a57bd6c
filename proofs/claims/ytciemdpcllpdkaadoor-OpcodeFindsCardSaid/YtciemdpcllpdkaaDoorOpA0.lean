/-
  What opcode.Of answers, part 0. Conditions: none.
-/
import Derived.Test.YtciemdpcllpdkaaDoorOpT
set_option linter.unusedSectionVars false
set_option linter.unusedVariables false
set_option linter.unusedSimpArgs false
namespace Go.Proofs.YtciemdpcllpdkaaDoor
open Go Go.AE Go.SX Go.RowKit
set_option maxRecDepth 1000000
variable [Fam]
theorem rA_0 : runs 42 spA 0 8 = true := by kernel_rfl
theorem rA_8 : runs 42 spA 8 8 = true := by kernel_rfl
theorem rA_16 : runs 42 spA 16 8 = true := by kernel_rfl
theorem rA_24 : runs 42 spA 24 8 = true := by kernel_rfl
theorem rA_32 : runs 42 spA 32 8 = true := by kernel_rfl
theorem rA_40 : runs 42 spA 40 8 = true := by kernel_rfl
theorem rA_48 : runs 42 spA 48 8 = true := by kernel_rfl
theorem rA_56 : runs 42 spA 56 8 = true := by kernel_rfl
end Go.Proofs.YtciemdpcllpdkaaDoor
