/-
  The law on programs at some bytes, part 7. Conditions: none.
-/
import Derived.Test.YtjcpcnoakphecaaDoorMkB
set_option linter.unusedSectionVars false
set_option linter.unusedVariables false
namespace Go.Proofs.YtjcpcnoakphecaaDoor
open Go Go.AE Go.SX Go.RowKit
set_option maxRecDepth 1000000
theorem mk_224 : mkRuns 224 2 = true := by kernel_rfl
theorem mk_226 : mkRuns 226 1 = true := by kernel_rfl
theorem mk_227 : mkRuns 227 1 = true := by kernel_rfl
theorem mk_228 : mkRuns 228 2 = true := by kernel_rfl
theorem mk_230 : mkRuns 230 2 = true := by kernel_rfl
theorem mk_232 : mkRuns 232 2 = true := by kernel_rfl
theorem mk_234 : mkRuns 234 2 = true := by kernel_rfl
theorem mk_236 : mkRuns 236 2 = true := by kernel_rfl
theorem mk_238 : mkRuns 238 2 = true := by kernel_rfl
theorem mk_240 : mkRuns 240 2 = true := by kernel_rfl
theorem mk_242 : mkRuns 242 1 = true := by kernel_rfl
theorem mk_243 : mkRuns 243 1 = true := by kernel_rfl
theorem mk_244 : mkRuns 244 2 = true := by kernel_rfl
theorem mk_246 : mkRuns 246 2 = true := by kernel_rfl
theorem mk_248 : mkRuns 248 2 = true := by kernel_rfl
theorem mk_250 : mkRuns 250 2 = true := by kernel_rfl
theorem mk_252 : mkRuns 252 2 = true := by kernel_rfl
theorem mk_254 : mkRuns 254 2 = true := by kernel_rfl
end Go.Proofs.YtjcpcnoakphecaaDoor
