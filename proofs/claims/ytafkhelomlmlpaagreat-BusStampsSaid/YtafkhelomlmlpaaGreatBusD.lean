/-
  The bus's accesses: both sides do as the cases say. Conditions: none.
-/
import Derived.Test.YtafkhelomlmlpaaGreatBusC
set_option linter.unusedSectionVars false
set_option linter.unusedVariables false
set_option linter.unusedSimpArgs false
namespace Go.Proofs.YtafkhelomlmlpaaGreat
open Go Go.AE Go.SX Go.RowKit
set_option maxRecDepth 1000000
variable [HF] [HOk1] [HOk2] [HOk3] [ROk] [BOk]
theorem brA0 : ((brM (rowAt busRd 0)).lc 4 (rowAt busRd 0).sp).Ok Tryz.prog 9 := bus_ok (l := []) rfl (fun _ _ h => by cases h) rfl rfl (by kernel_rfl)
theorem brA1 : ((brM (rowAt busRd 1)).lc 4 (rowAt busRd 1).sp).Ok Tryz.prog 9 := bus_ok rfl lemTo_ok rfl rfl (by kernel_rfl)
theorem brA2 : ((brM (rowAt busRd 2)).lc 4 (rowAt busRd 2).sp).Ok Tryz.prog 9 := bus_ok rfl lemTo_ok rfl rfl (by kernel_rfl)
theorem brA3 : ((brM (rowAt busRd 3)).lc 4 (rowAt busRd 3).sp).Ok Tryz.prog 9 := bus_ok rfl lemTo_ok rfl rfl (by kernel_rfl)
theorem brA4 : ((brM (rowAt busRd 4)).lc 4 (rowAt busRd 4).sp).Ok Tryz.prog 9 := bus_ok rfl lemTR_ok rfl rfl (by kernel_rfl)
theorem brA5 : ((brM (rowAt busRd 5)).lc 4 (rowAt busRd 5).sp).Ok Tryz.prog 9 := bus_ok rfl lemTR_ok rfl rfl (by kernel_rfl)
theorem brA6 : ((brM (rowAt busRd 6)).lc 4 (rowAt busRd 6).sp).Ok Tryz.prog 9 := bus_ok rfl lemTR_ok rfl rfl (by kernel_rfl)
theorem brA : ∀ r ∈ busRd, ((brM r).lc 4 r.sp).Ok Tryz.prog 9 := all_cons' brA0 (all_cons' brA1 (all_cons' brA2 (all_cons' brA3 (all_cons' brA4 (all_cons' brA5 (all_cons' brA6 all_nil'))))))
end Go.Proofs.YtafkhelomlmlpaaGreat
