/-
  The bus's accesses: both sides do as the cases say. Conditions: none.
-/
import Derived.Test.YtafkhelomlmlpaaGreatBusC
set_option linter.unusedSectionVars false
set_option linter.unusedVariables false
set_option linter.unusedSimpArgs false
namespace Go.Proofs.YtafkhelomlmlpaaGreat
open Go Go.AE Go.SX Go.RowKit
set_option maxRecDepth 1000000
variable [HF] [HOk1] [HOk2] [HOk3] [ROk] [BOk]
theorem bwA0 : ((bwM (rowAt busWr 0)).lc 4 (rowAt busWr 0).sp).Ok Tryz.prog 10 := bus_ok (l := []) rfl (fun _ _ h => by cases h) rfl rfl (by kernel_rfl)
theorem bwA1 : ((bwM (rowAt busWr 1)).lc 4 (rowAt busWr 1).sp).Ok Tryz.prog 10 := bus_ok rfl lemTo_ok rfl rfl (by kernel_rfl)
theorem bwA2 : ((bwM (rowAt busWr 2)).lc 4 (rowAt busWr 2).sp).Ok Tryz.prog 10 := bus_ok rfl lemTo_ok rfl rfl (by kernel_rfl)
theorem bwA3 : ((bwM (rowAt busWr 3)).lc 4 (rowAt busWr 3).sp).Ok Tryz.prog 10 := bus_ok rfl lemTo_ok rfl rfl (by kernel_rfl)
theorem bwA4 : ((bwM (rowAt busWr 4)).lc 4 (rowAt busWr 4).sp).Ok Tryz.prog 10 := bus_ok rfl lemTW_ok rfl rfl (by kernel_rfl)
theorem bwA5 : ((bwM (rowAt busWr 5)).lc 4 (rowAt busWr 5).sp).Ok Tryz.prog 10 := bus_ok rfl lemTW_ok rfl rfl (by kernel_rfl)
theorem bwA6 : ((bwM (rowAt busWr 6)).lc 4 (rowAt busWr 6).sp).Ok Tryz.prog 10 := bus_ok rfl lemTW_ok rfl rfl (by kernel_rfl)
theorem bwA : ∀ r ∈ busWr, ((bwM r).lc 4 r.sp).Ok Tryz.prog 10 := all_cons' bwA0 (all_cons' bwA1 (all_cons' bwA2 (all_cons' bwA3 (all_cons' bwA4 (all_cons' bwA5 (all_cons' bwA6 all_nil'))))))
end Go.Proofs.YtafkhelomlmlpaaGreat
