/-
  The law on programs at some bytes, part 1. Conditions: none.
-/
import Derived.Test.YtjcpcnoakphecaaDoorMkB
set_option linter.unusedSectionVars false
set_option linter.unusedVariables false
namespace Go.Proofs.YtjcpcnoakphecaaDoor
open Go Go.AE Go.SX Go.RowKit
set_option maxRecDepth 1000000
theorem mk_32 : mkRuns 32 2 = true := by kernel_rfl
theorem mk_34 : mkRuns 34 2 = true := by kernel_rfl
theorem mk_36 : mkRuns 36 2 = true := by kernel_rfl
theorem mk_38 : mkRuns 38 2 = true := by kernel_rfl
theorem mk_40 : mkRuns 40 2 = true := by kernel_rfl
theorem mk_42 : mkRuns 42 2 = true := by kernel_rfl
theorem mk_44 : mkRuns 44 2 = true := by kernel_rfl
theorem mk_46 : mkRuns 46 2 = true := by kernel_rfl
theorem mk_48 : mkRuns 48 2 = true := by kernel_rfl
theorem mk_50 : mkRuns 50 2 = true := by kernel_rfl
theorem mk_52 : mkRuns 52 2 = true := by kernel_rfl
theorem mk_54 : mkRuns 54 2 = true := by kernel_rfl
theorem mk_56 : mkRuns 56 2 = true := by kernel_rfl
theorem mk_58 : mkRuns 58 2 = true := by kernel_rfl
theorem mk_60 : mkRuns 60 2 = true := by kernel_rfl
theorem mk_62 : mkRuns 62 2 = true := by kernel_rfl
end Go.Proofs.YtjcpcnoakphecaaDoor
