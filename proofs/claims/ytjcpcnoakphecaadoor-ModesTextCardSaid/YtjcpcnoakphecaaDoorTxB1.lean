/-
  An instruction written: the walks (part 1). Conditions: none.
-/
import Derived.Test.YtjcpcnoakphecaaDoorTxA
set_option linter.unusedSectionVars false
set_option linter.unusedVariables false
set_option linter.unusedSimpArgs false
namespace Go.Proofs.YtjcpcnoakphecaaDoor
open Go Go.AE Go.SX Go.RowKit
set_option maxRecDepth 1000000
theorem txA5 : (lcTx 5 (txP 5) szB).Ok Tryd.prog 88 := LC.Ok.of_treeF (L := noJ) (lem := noX) (T := T) (W := W0) (n := 12) (cf := 300) (d := 20) (opn := []) (cls := []) (fun _ _ _ h => by cases h) (fun _ _ h => by cases h) CM_ok noT_ok rfl rfl (by kernel_rfl)
theorem txB5 : (lcTx 5 (txQ 5) (nQ 5)).Ok Tryd.prog 34 := LC.Ok.of_treeF (L := noJ) (lem := noX) (T := T) (W := W0) (n := 12) (cf := 300) (d := 20) (opn := []) (cls := []) (fun _ _ _ h => by cases h) (fun _ _ h => by cases h) CM_ok noT_ok rfl rfl (by kernel_rfl)
theorem txA6 : (lcTx 6 (txP 6) szB).Ok Tryd.prog 88 := LC.Ok.of_treeF (L := noJ) (lem := noX) (T := T) (W := W0) (n := 12) (cf := 300) (d := 20) (opn := []) (cls := []) (fun _ _ _ h => by cases h) (fun _ _ h => by cases h) CM_ok noT_ok rfl rfl (by kernel_rfl)
theorem txB6 : (lcTx 6 (txQ 6) (nQ 6)).Ok Tryd.prog 34 := LC.Ok.of_treeF (L := noJ) (lem := noX) (T := T) (W := W0) (n := 12) (cf := 300) (d := 20) (opn := []) (cls := []) (fun _ _ _ h => by cases h) (fun _ _ h => by cases h) CM_ok noT_ok rfl rfl (by kernel_rfl)
theorem txA7 : (lcTx 7 (txP 7) szB).Ok Tryd.prog 88 := LC.Ok.of_treeF (L := noJ) (lem := noX) (T := T) (W := W0) (n := 12) (cf := 300) (d := 20) (opn := []) (cls := []) (fun _ _ _ h => by cases h) (fun _ _ h => by cases h) CM_ok noT_ok rfl rfl (by kernel_rfl)
theorem txB7 : (lcTx 7 (txQ 7) (nQ 7)).Ok Tryd.prog 34 := LC.Ok.of_treeF (L := noJ) (lem := noX) (T := T) (W := W0) (n := 12) (cf := 300) (d := 20) (opn := []) (cls := []) (fun _ _ _ h => by cases h) (fun _ _ h => by cases h) CM_ok noT_ok rfl rfl (by kernel_rfl)
theorem txA8 : (lcTx 8 (txP 8) szB).Ok Tryd.prog 88 := LC.Ok.of_treeF (L := noJ) (lem := noX) (T := T) (W := W0) (n := 12) (cf := 300) (d := 20) (opn := []) (cls := []) (fun _ _ _ h => by cases h) (fun _ _ h => by cases h) CM_ok noT_ok rfl rfl (by kernel_rfl)
theorem txB8 : (lcTx 8 (txQ 8) (nQ 8)).Ok Tryd.prog 34 := LC.Ok.of_treeF (L := noJ) (lem := noX) (T := T) (W := W0) (n := 12) (cf := 300) (d := 20) (opn := []) (cls := []) (fun _ _ _ h => by cases h) (fun _ _ h => by cases h) CM_ok noT_ok rfl rfl (by kernel_rfl)
theorem txA9 : (lcTx 9 (txP 9) szB).Ok Tryd.prog 88 := LC.Ok.of_treeF (L := noJ) (lem := noX) (T := T) (W := W0) (n := 12) (cf := 300) (d := 20) (opn := []) (cls := []) (fun _ _ _ h => by cases h) (fun _ _ h => by cases h) CM_ok noT_ok rfl rfl (by kernel_rfl)
theorem txB9 : (lcTx 9 (txQ 9) (nQ 9)).Ok Tryd.prog 34 := LC.Ok.of_treeF (L := noJ) (lem := noX) (T := T) (W := W0) (n := 12) (cf := 300) (d := 20) (opn := []) (cls := []) (fun _ _ _ h => by cases h) (fun _ _ h => by cases h) CM_ok noT_ok rfl rfl (by kernel_rfl)
end Go.Proofs.YtjcpcnoakphecaaDoor
