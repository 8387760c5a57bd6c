/-
  The law on programs at some bytes, part 2. Conditions: none.
-/
import Derived.Test.YtjcpcnoakphecaaDoorMkB
set_option linter.unusedSectionVars false
set_option linter.unusedVariables false
namespace Go.Proofs.YtjcpcnoakphecaaDoor
open Go Go.AE Go.SX Go.RowKit
set_option maxRecDepth 1000000
theorem mk_64 : mkRuns 64 2 = true := by kernel_rfl
theorem mk_66 : mkRuns 66 2 = true := by kernel_rfl
theorem mk_68 : mkRuns 68 2 = true := by kernel_rfl
theorem mk_70 : mkRuns 70 2 = true := by kernel_rfl
theorem mk_72 : mkRuns 72 2 = true := by kernel_rfl
theorem mk_74 : mkRuns 74 2 = true := by kernel_rfl
theorem mk_76 : mkRuns 76 2 = true := by kernel_rfl
theorem mk_78 : mkRuns 78 2 = true := by kernel_rfl
theorem mk_80 : mkRuns 80 2 = true := by kernel_rfl
theorem mk_82 : mkRuns 82 2 = true := by kernel_rfl
theorem mk_84 : mkRuns 84 2 = true := by kernel_rfl
theorem mk_86 : mkRuns 86 2 = true := by kernel_rfl
theorem mk_88 : mkRuns 88 2 = true := by kernel_rfl
theorem mk_90 : mkRuns 90 2 = true := by kernel_rfl
theorem mk_92 : mkRuns 92 2 = true := by kernel_rfl
theorem mk_94 : mkRuns 94 2 = true := by kernel_rfl
end Go.Proofs.YtjcpcnoakphecaaDoor
