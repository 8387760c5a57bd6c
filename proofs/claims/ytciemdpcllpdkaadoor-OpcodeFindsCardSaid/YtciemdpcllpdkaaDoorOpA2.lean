/-
  What opcode.Of answers, part 2. Conditions: none.
-/
import Derived.Test.YtciemdpcllpdkaaDoorOpT
set_option linter.unusedSectionVars false
set_option linter.unusedVariables false
set_option linter.unusedSimpArgs false
namespace Go.Proofs.YtciemdpcllpdkaaDoor
open Go Go.AE Go.SX Go.RowKit
set_option maxRecDepth 1000000
variable [Fam]
theorem rA_128 : runs 42 spA 128 8 = true := by kernel_rfl
theorem rA_136 : runs 42 spA 136 8 = true := by kernel_rfl
theorem rA_144 : runs 42 spA 144 8 = true := by kernel_rfl
theorem rA_152 : runs 42 spA 152 8 = true := by kernel_rfl
theorem rA_160 : runs 42 spA 160 8 = true := by kernel_rfl
theorem rA_168 : runs 42 spA 168 8 = true := by kernel_rfl
theorem rA_176 : runs 42 spA 176 8 = true := by kernel_rfl
theorem rA_184 : runs 42 spA 184 8 = true := by kernel_rfl
end Go.Proofs.YtciemdpcllpdkaaDoor
