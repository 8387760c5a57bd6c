/-
  An instruction written: the walks (part 3). Conditions: none.
-/
import Derived.Test.YtjcpcnoakphecaaDoorTxA
set_option linter.unusedSectionVars false
set_option linter.unusedVariables false
set_option linter.unusedSimpArgs false
namespace Go.Proofs.YtjcpcnoakphecaaDoor
open Go Go.AE Go.SX Go.RowKit
set_option maxRecDepth 1000000
theorem txA15 : (lcTx 15 (txP 15) szB).Ok Tryd.prog 88 := LC.Ok.of_treeF (L := noJ) (lem := noX) (T := T) (W := W0) (n := 12) (cf := 300) (d := 20) (opn := []) (cls := []) (fun _ _ _ h => by cases h) (fun _ _ h => by cases h) CM_ok noT_ok rfl rfl (by kernel_rfl)
theorem txB15 : (lcTx 15 (txQ 15) (nQ 15)).Ok Tryd.prog 34 := LC.Ok.of_treeF (L := noJ) (lem := noX) (T := T) (W := W0) (n := 12) (cf := 300) (d := 20) (opn := []) (cls := []) (fun _ _ _ h => by cases h) (fun _ _ h => by cases h) CM_ok noT_ok rfl rfl (by kernel_rfl)
theorem txA16 : (lcTx 16 (txP 16) szB).Ok Tryd.prog 88 := LC.Ok.of_treeF (L := noJ) (lem := noX) (T := T) (W := W0) (n := 12) (cf := 300) (d := 20) (opn := []) (cls := []) (fun _ _ _ h => by cases h) (fun _ _ h => by cases h) CM_ok noT_ok rfl rfl (by kernel_rfl)
theorem txB16 : (lcTx 16 (txQ 16) (nQ 16)).Ok Tryd.prog 34 := LC.Ok.of_treeF (L := noJ) (lem := noX) (T := T) (W := W0) (n := 12) (cf := 300) (d := 20) (opn := []) (cls := []) (fun _ _ _ h => by cases h) (fun _ _ h => by cases h) CM_ok noT_ok rfl rfl (by kernel_rfl)
theorem txA17 : (lcTx 17 (txP 17) szB).Ok Tryd.prog 88 := LC.Ok.of_treeF (L := noJ) (lem := noX) (T := T) (W := W0) (n := 12) (cf := 300) (d := 20) (opn := []) (cls := []) (fun _ _ _ h => by cases h) (fun _ _ h => by cases h) CM_ok noT_ok rfl rfl (by kernel_rfl)
theorem txB17 : (lcTx 17 (txQ 17) (nQ 17)).Ok Tryd.prog 34 := LC.Ok.of_treeF (L := noJ) (lem := noX) (T := T) (W := W0) (n := 12) (cf := 300) (d := 20) (opn := []) (cls := []) (fun _ _ _ h => by cases h) (fun _ _ h => by cases h) CM_ok noT_ok rfl rfl (by kernel_rfl)
theorem txA18 : (lcTx 18 (txP 18) szB).Ok Tryd.prog 88 := LC.Ok.of_treeF (L := noJ) (lem := noX) (T := T) (W := W0) (n := 12) (cf := 300) (d := 20) (opn := []) (cls := []) (fun _ _ _ h => by cases h) (fun _ _ h => by cases h) CM_ok noT_ok rfl rfl (by kernel_rfl)
theorem txB18 : (lcTx 18 (txQ 18) (nQ 18)).Ok Tryd.prog 34 := LC.Ok.of_treeF (L := noJ) (lem := noX) (T := T) (W := W0) (n := 12) (cf := 300) (d := 20) (opn := []) (cls := []) (fun _ _ _ h => by cases h) (fun _ _ h => by cases h) CM_ok noT_ok rfl rfl (by kernel_rfl)
theorem txA19 : (lcTx 19 (txP 19) szB).Ok Tryd.prog 88 := LC.Ok.of_treeF (L := noJ) (lem := noX) (T := T) (W := W0) (n := 12) (cf := 300) (d := 20) (opn := []) (cls := []) (fun _ _ _ h => by cases h) (fun _ _ h => by cases h) CM_ok noT_ok rfl rfl (by kernel_rfl)
theorem txB19 : (lcTx 19 (txQ 19) (nQ 19)).Ok Tryd.prog 34 := LC.Ok.of_treeF (L := noJ) (lem := noX) (T := T) (W := W0) (n := 12) (cf := 300) (d := 20) (opn := []) (cls := []) (fun _ _ _ h => by cases h) (fun _ _ h => by cases h) CM_ok noT_ok rfl rfl (by kernel_rfl)
end Go.Proofs.YtjcpcnoakphecaaDoor
