/-
  The letters of the bytes 64 to 127, by facts, as the program writes them. Conditions: none.
-/
import Derived.Test.YtfohjnfdgegfcaaDoorTimPlain
namespace Go.Proofs.YtfohjnfdgegfcaaDoor
open Go Go.AE
set_option maxRecDepth 100000
theorem ok52_16 : ((all8 o52 (part 16 4)).all (entTOk T orcT 1000 300 20 Tryd.f52 (codeOf Tryd.f52))) = true := by kernel_rfl
theorem ok52_17 : ((all8 o52 (part 17 4)).all (entTOk T orcT 1000 300 20 Tryd.f52 (codeOf Tryd.f52))) = true := by kernel_rfl
theorem ok52_18 : ((all8 o52 (part 18 4)).all (entTOk T orcT 1000 300 20 Tryd.f52 (codeOf Tryd.f52))) = true := by kernel_rfl
theorem ok52_19 : ((all8 o52 (part 19 4)).all (entTOk T orcT 1000 300 20 Tryd.f52 (codeOf Tryd.f52))) = true := by kernel_rfl
theorem ok52_20 : ((all8 o52 (part 20 4)).all (entTOk T orcT 1000 300 20 Tryd.f52 (codeOf Tryd.f52))) = true := by kernel_rfl
theorem ok52_21 : ((all8 o52 (part 21 4)).all (entTOk T orcT 1000 300 20 Tryd.f52 (codeOf Tryd.f52))) = true := by kernel_rfl
theorem ok52_22 : ((all8 o52 (part 22 4)).all (entTOk T orcT 1000 300 20 Tryd.f52 (codeOf Tryd.f52))) = true := by kernel_rfl
theorem ok52_23 : ((all8 o52 (part 23 4)).all (entTOk T orcT 1000 300 20 Tryd.f52 (codeOf Tryd.f52))) = true := by kernel_rfl
theorem ok52_24 : ((all8 o52 (part 24 4)).all (entTOk T orcT 1000 300 20 Tryd.f52 (codeOf Tryd.f52))) = true := by kernel_rfl
theorem ok52_25 : ((all8 o52 (part 25 4)).all (entTOk T orcT 1000 300 20 Tryd.f52 (codeOf Tryd.f52))) = true := by kernel_rfl
theorem ok52_26 : ((all8 o52 (part 26 4)).all (entTOk T orcT 1000 300 20 Tryd.f52 (codeOf Tryd.f52))) = true := by kernel_rfl
theorem ok52_27 : ((all8 o52 (part 27 4)).all (entTOk T orcT 1000 300 20 Tryd.f52 (codeOf Tryd.f52))) = true := by kernel_rfl
theorem ok52_28 : ((all8 o52 (part 28 4)).all (entTOk T orcT 1000 300 20 Tryd.f52 (codeOf Tryd.f52))) = true := by kernel_rfl
theorem ok52_29 : ((all8 o52 (part 29 4)).all (entTOk T orcT 1000 300 20 Tryd.f52 (codeOf Tryd.f52))) = true := by kernel_rfl
theorem ok52_30 : ((all8 o52 (part 30 4)).all (entTOk T orcT 1000 300 20 Tryd.f52 (codeOf Tryd.f52))) = true := by kernel_rfl
theorem ok52_31 : ((all8 o52 (part 31 4)).all (entTOk T orcT 1000 300 20 Tryd.f52 (codeOf Tryd.f52))) = true := by kernel_rfl
theorem part52_1 : ∀ j, j < 16 → ∀ e ∈ all8 o52 (part (16 + j) 4), EntIs Tryd.prog 52 e := by
  intro j hj
  match j, hj with
  | 0, _ => exact entsTOk_ok (f := 52) Tryd.func52 rfl ok52_16
  | 1, _ => exact entsTOk_ok (f := 52) Tryd.func52 rfl ok52_17
  | 2, _ => exact entsTOk_ok (f := 52) Tryd.func52 rfl ok52_18
  | 3, _ => exact entsTOk_ok (f := 52) Tryd.func52 rfl ok52_19
  | 4, _ => exact entsTOk_ok (f := 52) Tryd.func52 rfl ok52_20
  | 5, _ => exact entsTOk_ok (f := 52) Tryd.func52 rfl ok52_21
  | 6, _ => exact entsTOk_ok (f := 52) Tryd.func52 rfl ok52_22
  | 7, _ => exact entsTOk_ok (f := 52) Tryd.func52 rfl ok52_23
  | 8, _ => exact entsTOk_ok (f := 52) Tryd.func52 rfl ok52_24
  | 9, _ => exact entsTOk_ok (f := 52) Tryd.func52 rfl ok52_25
  | 10, _ => exact entsTOk_ok (f := 52) Tryd.func52 rfl ok52_26
  | 11, _ => exact entsTOk_ok (f := 52) Tryd.func52 rfl ok52_27
  | 12, _ => exact entsTOk_ok (f := 52) Tryd.func52 rfl ok52_28
  | 13, _ => exact entsTOk_ok (f := 52) Tryd.func52 rfl ok52_29
  | 14, _ => exact entsTOk_ok (f := 52) Tryd.func52 rfl ok52_30
  | 15, _ => exact entsTOk_ok (f := 52) Tryd.func52 rfl ok52_31
  | n + 16, h => exact absurd h (by omega)
end Go.Proofs.YtfohjnfdgegfcaaDoor
