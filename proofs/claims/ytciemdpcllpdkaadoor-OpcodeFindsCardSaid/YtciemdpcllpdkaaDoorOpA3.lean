/-
  What opcode.Of answers, part 3. Conditions: none.
-/
import Derived.Test.YtciemdpcllpdkaaDoorOpT
set_option linter.unusedSectionVars false
set_option linter.unusedVariables false
set_option linter.unusedSimpArgs false
namespace Go.Proofs.YtciemdpcllpdkaaDoor
open Go Go.AE Go.SX Go.RowKit
set_option maxRecDepth 1000000
variable [Fam]
theorem rA_192 : runs 42 spA 192 8 = true := by kernel_rfl
theorem rA_200 : runs 42 spA 200 8 = true := by kernel_rfl
theorem rA_208 : runs 42 spA 208 8 = true := by kernel_rfl
theorem rA_216 : runs 42 spA 216 8 = true := by kernel_rfl
theorem rA_224 : runs 42 spA 224 8 = true := by kernel_rfl
theorem rA_232 : runs 42 spA 232 8 = true := by kernel_rfl
theorem rA_240 : runs 42 spA 240 8 = true := by kernel_rfl
theorem rA_248 : runs 42 spA 248 8 = true := by kernel_rfl
end Go.Proofs.YtciemdpcllpdkaaDoor
