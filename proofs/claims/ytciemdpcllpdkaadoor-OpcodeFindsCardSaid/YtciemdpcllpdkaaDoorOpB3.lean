/-
  What gannetref23.Of answers, part 3. Conditions: none.
-/
import Derived.Test.YtciemdpcllpdkaaDoorOpT
set_option linter.unusedSectionVars false
set_option linter.unusedVariables false
set_option linter.unusedSimpArgs false
namespace Go.Proofs.YtciemdpcllpdkaaDoor
open Go Go.AE Go.SX Go.RowKit
set_option maxRecDepth 1000000
variable [Fam]
theorem rB_192 : runs 13 spB 192 8 = true := by kernel_rfl
theorem rB_200 : runs 13 spB 200 8 = true := by kernel_rfl
theorem rB_208 : runs 13 spB 208 8 = true := by kernel_rfl
theorem rB_216 : runs 13 spB 216 8 = true := by kernel_rfl
theorem rB_224 : runs 13 spB 224 8 = true := by kernel_rfl
theorem rB_232 : runs 13 spB 232 8 = true := by kernel_rfl
theorem rB_240 : runs 13 spB 240 8 = true := by kernel_rfl
theorem rB_248 : runs 13 spB 248 8 = true := by kernel_rfl
end Go.Proofs.YtciemdpcllpdkaaDoor
