/-
  An access read from bytes: the walks (part 0). Conditions: none.
-/
import Derived.Test.YtjcpcnoakphecaaDoorTrG
set_option linter.unusedSectionVars false
set_option linter.unusedVariables false
namespace Go.Proofs.YtjcpcnoakphecaaDoor
open Go Go.AE Go.SX Go.RowKit
set_option maxRecDepth 1000000
theorem rdA0f : (lcRv false 0 15 (vW 0 3 (wrA 0))).Ok Tryd.prog 74 := LC.Ok.of_treeF (L := noJ) (lem := noX) (T := T) (W := W0) (n := 12) (cf := 300) (d := 20) (opn := []) (cls := []) (fun _ _ _ h => by cases h) (fun _ _ h => by cases h) Cw_ok noT_ok rfl rfl (by kernel_rfl)
theorem rdA0t : (lcRv true 0 15 (vW 0 3 (wrA 0))).Ok Tryd.prog 74 := LC.Ok.of_treeF (L := noJ) (lem := noX) (T := T) (W := W0) (n := 12) (cf := 300) (d := 20) (opn := []) (cls := []) (fun _ _ _ h => by cases h) (fun _ _ h => by cases h) Cw_ok noT_ok rfl rfl (by kernel_rfl)
end Go.Proofs.YtjcpcnoakphecaaDoor
