/-
  The law on programs at some bytes, part 4. Conditions: none.
-/
import Derived.Test.YtjcpcnoakphecaaDoorMkB
set_option linter.unusedSectionVars false
set_option linter.unusedVariables false
namespace Go.Proofs.YtjcpcnoakphecaaDoor
open Go Go.AE Go.SX Go.RowKit
set_option maxRecDepth 1000000
theorem mk_128 : mkRuns 128 2 = true := by kernel_rfl
theorem mk_130 : mkRuns 130 2 = true := by kernel_rfl
theorem mk_132 : mkRuns 132 2 = true := by kernel_rfl
theorem mk_134 : mkRuns 134 2 = true := by kernel_rfl
theorem mk_136 : mkRuns 136 2 = true := by kernel_rfl
theorem mk_138 : mkRuns 138 2 = true := by kernel_rfl
theorem mk_140 : mkRuns 140 2 = true := by kernel_rfl
theorem mk_142 : mkRuns 142 2 = true := by kernel_rfl
theorem mk_144 : mkRuns 144 2 = true := by kernel_rfl
theorem mk_146 : mkRuns 146 2 = true := by kernel_rfl
theorem mk_148 : mkRuns 148 2 = true := by kernel_rfl
theorem mk_150 : mkRuns 150 2 = true := by kernel_rfl
theorem mk_152 : mkRuns 152 2 = true := by kernel_rfl
theorem mk_154 : mkRuns 154 2 = true := by kernel_rfl
theorem mk_156 : mkRuns 156 2 = true := by kernel_rfl
theorem mk_158 : mkRuns 158 2 = true := by kernel_rfl
end Go.Proofs.YtjcpcnoakphecaaDoor
