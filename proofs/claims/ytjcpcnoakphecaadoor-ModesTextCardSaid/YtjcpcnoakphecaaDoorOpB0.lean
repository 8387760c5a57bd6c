/-
  What gannetref23.Of answers, part 0. Conditions: none.
-/
import Derived.Test.YtjcpcnoakphecaaDoorOpT
set_option linter.unusedSectionVars false
set_option linter.unusedVariables false
set_option linter.unusedSimpArgs false
namespace Go.Proofs.YtjcpcnoakphecaaDoor
open Go Go.AE Go.SX Go.RowKit
set_option maxRecDepth 1000000
variable [Fam]
theorem rB_0 : runs 46 spB 0 8 = true := by kernel_rfl
theorem rB_8 : runs 46 spB 8 8 = true := by kernel_rfl
theorem rB_16 : runs 46 spB 16 8 = true := by kernel_rfl
theorem rB_24 : runs 46 spB 24 8 = true := by kernel_rfl
theorem rB_32 : runs 46 spB 32 8 = true := by kernel_rfl
theorem rB_40 : runs 46 spB 40 8 = true := by kernel_rfl
theorem rB_48 : runs 46 spB 48 8 = true := by kernel_rfl
theorem rB_56 : runs 46 spB 56 8 = true := by kernel_rfl
end Go.Proofs.YtjcpcnoakphecaaDoor
