/-
  An instruction written: the walks (part 2). Conditions: none.
-/
import Derived.Test.YtjcpcnoakphecaaDoorTxA
set_option linter.unusedSectionVars false
set_option linter.unusedVariables false
set_option linter.unusedSimpArgs false
namespace Go.Proofs.YtjcpcnoakphecaaDoor
open Go Go.AE Go.SX Go.RowKit
set_option maxRecDepth 1000000
theorem txA10 : (lcTx 10 (txP 10) szB).Ok Tryd.prog 88 := LC.Ok.of_treeF (L := noJ) (lem := noX) (T := T) (W := W0) (n := 12) (cf := 300) (d := 20) (opn := []) (cls := []) (fun _ _ _ h => by cases h) (fun _ _ h => by cases h) CM_ok noT_ok rfl rfl (by kernel_rfl)
theorem txB10 : (lcTx 10 (txQ 10) (nQ 10)).Ok Tryd.prog 34 := LC.Ok.of_treeF (L := noJ) (lem := noX) (T := T) (W := W0) (n := 12) (cf := 300) (d := 20) (opn := []) (cls := []) (fun _ _ _ h => by cases h) (fun _ _ h => by cases h) CM_ok noT_ok rfl rfl (by kernel_rfl)
theorem txA11 : (lcTx 11 (txP 11) szB).Ok Tryd.prog 88 := LC.Ok.of_treeF (L := noJ) (lem := noX) (T := T) (W := W0) (n := 12) (cf := 300) (d := 20) (opn := []) (cls := []) (fun _ _ _ h => by cases h) (fun _ _ h => by cases h) CM_ok noT_ok rfl rfl (by kernel_rfl)
theorem txB11 : (lcTx 11 (txQ 11) (nQ 11)).Ok Tryd.prog 34 := LC.Ok.of_treeF (L := noJ) (lem := noX) (T := T) (W := W0) (n := 12) (cf := 300) (d := 20) (opn := []) (cls := []) (fun _ _ _ h => by cases h) (fun _ _ h => by cases h) CM_ok noT_ok rfl rfl (by kernel_rfl)
theorem txA12 : (lcTx 12 (txP 12) szB).Ok Tryd.prog 88 := LC.Ok.of_treeF (L := noJ) (lem := noX) (T := T) (W := W0) (n := 12) (cf := 300) (d := 20) (opn := []) (cls := []) (fun _ _ _ h => by cases h) (fun _ _ h => by cases h) CM_ok noT_ok rfl rfl (by kernel_rfl)
theorem txB12 : (lcTx 12 (txQ 12) (nQ 12)).Ok Tryd.prog 34 := LC.Ok.of_treeF (L := noJ) (lem := noX) (T := T) (W := W0) (n := 12) (cf := 300) (d := 20) (opn := []) (cls := []) (fun _ _ _ h => by cases h) (fun _ _ h => by cases h) CM_ok noT_ok rfl rfl (by kernel_rfl)
theorem txA13 : (lcTx 13 (txP 13) szB).Ok Tryd.prog 88 := LC.Ok.of_treeF (L := noJ) (lem := noX) (T := T) (W := W0) (n := 12) (cf := 300) (d := 20) (opn := []) (cls := []) (fun _ _ _ h => by cases h) (fun _ _ h => by cases h) CM_ok noT_ok rfl rfl (by kernel_rfl)
theorem txB13 : (lcTx 13 (txQ 13) (nQ 13)).Ok Tryd.prog 34 := LC.Ok.of_treeF (L := noJ) (lem := noX) (T := T) (W := W0) (n := 12) (cf := 300) (d := 20) (opn := []) (cls := []) (fun _ _ _ h => by cases h) (fun _ _ h => by cases h) CM_ok noT_ok rfl rfl (by kernel_rfl)
theorem txA14 : (lcTx 14 (txP 14) szB).Ok Tryd.prog 88 := LC.Ok.of_treeF (L := noJ) (lem := noX) (T := T) (W := W0) (n := 12) (cf := 300) (d := 20) (opn := []) (cls := []) (fun _ _ _ h => by cases h) (fun _ _ h => by cases h) CM_ok noT_ok rfl rfl (by kernel_rfl)
theorem txB14 : (lcTx 14 (txQ 14) (nQ 14)).Ok Tryd.prog 34 := LC.Ok.of_treeF (L := noJ) (lem := noX) (T := T) (W := W0) (n := 12) (cf := 300) (d := 20) (opn := []) (cls := []) (fun _ _ _ h => by cases h) (fun _ _ h => by cases h) CM_ok noT_ok rfl rfl (by kernel_rfl)
end Go.Proofs.YtjcpcnoakphecaaDoor
