/-
  The law on programs at some bytes, part 5. Conditions: none.
-/
import Derived.Test.YtjcpcnoakphecaaDoorMkB
set_option linter.unusedSectionVars false
set_option linter.unusedVariables false
namespace Go.Proofs.YtjcpcnoakphecaaDoor
open Go Go.AE Go.SX Go.RowKit
set_option maxRecDepth 1000000
theorem mk_160 : mkRuns 160 2 = true := by kernel_rfl
theorem mk_162 : mkRuns 162 2 = true := by kernel_rfl
theorem mk_164 : mkRuns 164 2 = true := by kernel_rfl
theorem mk_166 : mkRuns 166 2 = true := by kernel_rfl
theorem mk_168 : mkRuns 168 2 = true := by kernel_rfl
theorem mk_170 : mkRuns 170 2 = true := by kernel_rfl
theorem mk_172 : mkRuns 172 2 = true := by kernel_rfl
theorem mk_174 : mkRuns 174 2 = true := by kernel_rfl
theorem mk_176 : mkRuns 176 2 = true := by kernel_rfl
theorem mk_178 : mkRuns 178 2 = true := by kernel_rfl
theorem mk_180 : mkRuns 180 2 = true := by kernel_rfl
theorem mk_182 : mkRuns 182 2 = true := by kernel_rfl
theorem mk_184 : mkRuns 184 2 = true := by kernel_rfl
theorem mk_186 : mkRuns 186 2 = true := by kernel_rfl
theorem mk_188 : mkRuns 188 2 = true := by kernel_rfl
theorem mk_190 : mkRuns 190 2 = true := by kernel_rfl
end Go.Proofs.YtjcpcnoakphecaaDoor
