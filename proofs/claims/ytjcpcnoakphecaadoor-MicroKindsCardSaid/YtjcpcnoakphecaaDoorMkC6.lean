/-
  The law on programs at some bytes, part 6. Conditions: none.
-/
import Derived.Test.YtjcpcnoakphecaaDoorMkB
set_option linter.unusedSectionVars false
set_option linter.unusedVariables false
namespace Go.Proofs.YtjcpcnoakphecaaDoor
open Go Go.AE Go.SX Go.RowKit
set_option maxRecDepth 1000000
theorem mk_192 : mkRuns 192 2 = true := by kernel_rfl
theorem mk_194 : mkRuns 194 1 = true := by kernel_rfl
theorem mk_195 : mkRuns 195 1 = true := by kernel_rfl
theorem mk_196 : mkRuns 196 2 = true := by kernel_rfl
theorem mk_198 : mkRuns 198 2 = true := by kernel_rfl
theorem mk_200 : mkRuns 200 2 = true := by kernel_rfl
theorem mk_202 : mkRuns 202 2 = true := by kernel_rfl
theorem mk_204 : mkRuns 204 2 = true := by kernel_rfl
theorem mk_206 : mkRuns 206 2 = true := by kernel_rfl
theorem mk_208 : mkRuns 208 2 = true := by kernel_rfl
theorem mk_210 : mkRuns 210 1 = true := by kernel_rfl
theorem mk_211 : mkRuns 211 1 = true := by kernel_rfl
theorem mk_212 : mkRuns 212 2 = true := by kernel_rfl
theorem mk_214 : mkRuns 214 2 = true := by kernel_rfl
theorem mk_216 : mkRuns 216 2 = true := by kernel_rfl
theorem mk_218 : mkRuns 218 2 = true := by kernel_rfl
theorem mk_220 : mkRuns 220 2 = true := by kernel_rfl
theorem mk_222 : mkRuns 222 2 = true := by kernel_rfl
end Go.Proofs.YtjcpcnoakphecaaDoor
