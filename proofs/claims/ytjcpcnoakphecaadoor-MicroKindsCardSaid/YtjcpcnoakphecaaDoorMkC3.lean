/-
  The law on programs at some bytes, part 3. Conditions: none.
-/
import Derived.Test.YtjcpcnoakphecaaDoorMkB
set_option linter.unusedSectionVars false
set_option linter.unusedVariables false
namespace Go.Proofs.YtjcpcnoakphecaaDoor
open Go Go.AE Go.SX Go.RowKit
set_option maxRecDepth 1000000
theorem mk_96 : mkRuns 96 2 = true := by kernel_rfl
theorem mk_98 : mkRuns 98 2 = true := by kernel_rfl
theorem mk_100 : mkRuns 100 2 = true := by kernel_rfl
theorem mk_102 : mkRuns 102 2 = true := by kernel_rfl
theorem mk_104 : mkRuns 104 2 = true := by kernel_rfl
theorem mk_106 : mkRuns 106 2 = true := by kernel_rfl
theorem mk_108 : mkRuns 108 2 = true := by kernel_rfl
theorem mk_110 : mkRuns 110 2 = true := by kernel_rfl
theorem mk_112 : mkRuns 112 2 = true := by kernel_rfl
theorem mk_114 : mkRuns 114 1 = true := by kernel_rfl
theorem mk_115 : mkRuns 115 1 = true := by kernel_rfl
theorem mk_116 : mkRuns 116 2 = true := by kernel_rfl
theorem mk_118 : mkRuns 118 2 = true := by kernel_rfl
theorem mk_120 : mkRuns 120 2 = true := by kernel_rfl
theorem mk_122 : mkRuns 122 2 = true := by kernel_rfl
theorem mk_124 : mkRuns 124 2 = true := by kernel_rfl
theorem mk_126 : mkRuns 126 2 = true := by kernel_rfl
end Go.Proofs.YtjcpcnoakphecaaDoor
