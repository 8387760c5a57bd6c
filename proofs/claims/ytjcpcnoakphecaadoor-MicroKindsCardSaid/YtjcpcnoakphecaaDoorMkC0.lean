/-
  The law on programs at some bytes, part 0. Conditions: none.
-/
import Derived.Test.YtjcpcnoakphecaaDoorMkB
set_option linter.unusedSectionVars false
set_option linter.unusedVariables false
namespace Go.Proofs.YtjcpcnoakphecaaDoor
open Go Go.AE Go.SX Go.RowKit
set_option maxRecDepth 1000000
theorem mk_0 : mkRuns 0 2 = true := by kernel_rfl
theorem mk_2 : mkRuns 2 2 = true := by kernel_rfl
theorem mk_4 : mkRuns 4 2 = true := by kernel_rfl
theorem mk_6 : mkRuns 6 2 = true := by kernel_rfl
theorem mk_8 : mkRuns 8 2 = true := by kernel_rfl
theorem mk_10 : mkRuns 10 2 = true := by kernel_rfl
theorem mk_12 : mkRuns 12 2 = true := by kernel_rfl
theorem mk_14 : mkRuns 14 2 = true := by kernel_rfl
theorem mk_16 : mkRuns 16 2 = true := by kernel_rfl
theorem mk_18 : mkRuns 18 2 = true := by kernel_rfl
theorem mk_20 : mkRuns 20 2 = true := by kernel_rfl
theorem mk_22 : mkRuns 22 2 = true := by kernel_rfl
theorem mk_24 : mkRuns 24 2 = true := by kernel_rfl
theorem mk_26 : mkRuns 26 2 = true := by kernel_rfl
theorem mk_28 : mkRuns 28 2 = true := by kernel_rfl
theorem mk_30 : mkRuns 30 2 = true := by kernel_rfl
end Go.Proofs.YtjcpcnoakphecaaDoor
