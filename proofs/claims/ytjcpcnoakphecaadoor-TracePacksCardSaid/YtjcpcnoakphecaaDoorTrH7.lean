/-
  An access read from bytes: the walks (part 7). Conditions: none.
-/
import Derived.Test.YtjcpcnoakphecaaDoorTrG
set_option linter.unusedSectionVars false
set_option linter.unusedVariables false
namespace Go.Proofs.YtjcpcnoakphecaaDoor
open Go Go.AE Go.SX Go.RowKit
set_option maxRecDepth 1000000
theorem rdB2f : (lcRv false 32 47 (vW 2 12 (wrB 2))).Ok Tryd.prog 75 := LC.Ok.of_treeF (L := noJ) (lem := noX) (T := T) (W := W0) (n := 12) (cf := 300) (d := 20) (opn := []) (cls := []) (fun _ _ _ h => by cases h) (fun _ _ h => by cases h) Cw_ok noT_ok rfl rfl (by kernel_rfl)
theorem rdB3f : (lcRv false 48 63 (vW 3 24 (wrB 3))).Ok Tryd.prog 75 := LC.Ok.of_treeF (L := noJ) (lem := noX) (T := T) (W := W0) (n := 12) (cf := 300) (d := 20) (opn := []) (cls := []) (fun _ _ _ h => by cases h) (fun _ _ h => by cases h) Cw_ok noT_ok rfl rfl (by kernel_rfl)
theorem rdBzf : (lcRv false 80 255 vZ).Ok Tryd.prog 75 := LC.Ok.of_treeF (L := noJ) (lem := noX) (T := T) (W := W0) (n := 12) (cf := 300) (d := 20) (opn := []) (cls := []) (fun _ _ _ h => by cases h) (fun _ _ h => by cases h) Cw_ok noT_ok rfl rfl (by kernel_rfl)
theorem rdAzf : (lcRv false 80 255 vZ).Ok Tryd.prog 74 := LC.Ok.of_treeF (L := noJ) (lem := noX) (T := T) (W := W0) (n := 12) (cf := 300) (d := 20) (opn := []) (cls := []) (fun _ _ _ h => by cases h) (fun _ _ h => by cases h) Cw_ok noT_ok rfl rfl (by kernel_rfl)
theorem rdAzt : (lcRv true 80 255 vZ).Ok Tryd.prog 74 := LC.Ok.of_treeF (L := noJ) (lem := noX) (T := T) (W := W0) (n := 12) (cf := 300) (d := 20) (opn := []) (cls := []) (fun _ _ _ h => by cases h) (fun _ _ h => by cases h) Cw_ok noT_ok rfl rfl (by kernel_rfl)
end Go.Proofs.YtjcpcnoakphecaaDoor
