/-
  The bus's accesses: both sides do as the cases say. Conditions: none.
-/
import Derived.Test.YtnibdhcfkjmnaaaGreatBusC
set_option linter.unusedSectionVars false
set_option linter.unusedVariables false
set_option linter.unusedSimpArgs false
namespace Go.Proofs.YtnibdhcfkjmnaaaGreat
open Go Go.AE Go.SX Go.RowKit
set_option maxRecDepth 1000000
variable [HF] [HOk1] [HOk2] [HOk3] [ROk] [BOk]
theorem brC0 : ((brM (rowAt busRd 0)).lc 6 (rowAt busRd 0).sp).Ok Tryz.prog 16 := bus_ok (l := []) rfl (fun _ _ h => by cases h) rfl rfl (by kernel_rfl)
theorem brC1 : ((brM (rowAt busRd 1)).lc 6 (rowAt busRd 1).sp).Ok Tryz.prog 16 := bus_ok rfl lemTo_ok rfl rfl (by kernel_rfl)
theorem brC2 : ((brM (rowAt busRd 2)).lc 6 (rowAt busRd 2).sp).Ok Tryz.prog 16 := bus_ok rfl lemTo_ok rfl rfl (by kernel_rfl)
theorem brC3 : ((brM (rowAt busRd 3)).lc 6 (rowAt busRd 3).sp).Ok Tryz.prog 16 := bus_ok rfl lemTo_ok rfl rfl (by kernel_rfl)
theorem brC4 : ((brM (rowAt busRd 4)).lc 6 (rowAt busRd 4).sp).Ok Tryz.prog 16 := bus_ok rfl lemTR_ok rfl rfl (by kernel_rfl)
theorem brC5 : ((brM (rowAt busRd 5)).lc 6 (rowAt busRd 5).sp).Ok Tryz.prog 16 := bus_ok rfl lemTR_ok rfl rfl (by kernel_rfl)
theorem brC6 : ((brM (rowAt busRd 6)).lc 6 (rowAt busRd 6).sp).Ok Tryz.prog 16 := bus_ok rfl lemTR_ok rfl rfl (by kernel_rfl)
theorem brC : ∀ r ∈ busRd, ((brM r).lc 6 r.sp).Ok Tryz.prog 16 := all_cons' brC0 (all_cons' brC1 (all_cons' brC2 (all_cons' brC3 (all_cons' brC4 (all_cons' brC5 (all_cons' brC6 all_nil'))))))
theorem bwC0 : ((bwM (rowAt busWr 0)).lc 6 (rowAt busWr 0).sp).Ok Tryz.prog 14 := bus_ok (l := []) rfl (fun _ _ h => by cases h) rfl rfl (by kernel_rfl)
theorem bwC1 : ((bwM (rowAt busWr 1)).lc 6 (rowAt busWr 1).sp).Ok Tryz.prog 14 := bus_ok rfl lemTo_ok rfl rfl (by kernel_rfl)
theorem bwC2 : ((bwM (rowAt busWr 2)).lc 6 (rowAt busWr 2).sp).Ok Tryz.prog 14 := bus_ok rfl lemTo_ok rfl rfl (by kernel_rfl)
theorem bwC3 : ((bwM (rowAt busWr 3)).lc 6 (rowAt busWr 3).sp).Ok Tryz.prog 14 := bus_ok rfl lemTo_ok rfl rfl (by kernel_rfl)
theorem bwC4 : ((bwM (rowAt busWr 4)).lc 6 (rowAt busWr 4).sp).Ok Tryz.prog 14 := bus_ok rfl lemTW_ok rfl rfl (by kernel_rfl)
theorem bwC5 : ((bwM (rowAt busWr 5)).lc 6 (rowAt busWr 5).sp).Ok Tryz.prog 14 := bus_ok rfl lemTW_ok rfl rfl (by kernel_rfl)
theorem bwC6 : ((bwM (rowAt busWr 6)).lc 6 (rowAt busWr 6).sp).Ok Tryz.prog 14 := bus_ok rfl lemTW_ok rfl rfl (by kernel_rfl)
theorem bwC : ∀ r ∈ busWr, ((bwM r).lc 6 r.sp).Ok Tryz.prog 14 := all_cons' bwC0 (all_cons' bwC1 (all_cons' bwC2 (all_cons' bwC3 (all_cons' bwC4 (all_cons' bwC5 (all_cons' bwC6 all_nil'))))))
end Go.Proofs.YtnibdhcfkjmnaaaGreat
