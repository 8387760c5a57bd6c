/-
  What must be whatever is asked of instructions' texts: a closed run. Conditions: none.
-/
import Derived.Test.YtjcpcnoakphecaaDoorBase
set_option linter.unusedSectionVars false
set_option linter.unusedVariables false
set_option linter.unusedSimpArgs false
namespace Go.Proofs.YtjcpcnoakphecaaDoor
open Go Go.AE Go.SX Go.RowKit
set_option maxRecDepth 1000000
section
variable [Fam]
def CL24 : List (FuncId × CallF) := [(115, conCall conJoin), (65, conCall (conP oIndex))]
theorem CL24_all : ∀ p ∈ CL24, ConOk T p.1 p.2 := all_cons' conJN.ok (all_cons' conIX.ok all_nil')
def C24 := conTab CL24
theorem C24_ok : ∀ n c, C24 n = some c → ConOk T n c := conTab_ok CL24_all
theorem live24 : Con Tryd.prog 33 cYes := yes_con rfl C24_ok (by kernel_rfl)
end
end Go.Proofs.YtjcpcnoakphecaaDoor
