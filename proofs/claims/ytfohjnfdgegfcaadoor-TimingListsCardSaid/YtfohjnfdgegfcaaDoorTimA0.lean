/-
  The letters of the bytes 0 to 63, by facts, as the program writes them. Conditions: none.
-/
import Derived.Test.YtfohjnfdgegfcaaDoorTimPlain
namespace Go.Proofs.YtfohjnfdgegfcaaDoor
open Go Go.AE
set_option maxRecDepth 100000
theorem ok52_0 : ((all8 o52 (part 0 4)).all (entTOk T orcT 1000 300 20 Tryd.f52 (codeOf Tryd.f52))) = true := by kernel_rfl
theorem ok52_1 : ((all8 o52 (part 1 4)).all (entTOk T orcT 1000 300 20 Tryd.f52 (codeOf Tryd.f52))) = true := by kernel_rfl
theorem ok52_2 : ((all8 o52 (part 2 4)).all (entTOk T orcT 1000 300 20 Tryd.f52 (codeOf Tryd.f52))) = true := by kernel_rfl
theorem ok52_3 : ((all8 o52 (part 3 4)).all (entTOk T orcT 1000 300 20 Tryd.f52 (codeOf Tryd.f52))) = true := by kernel_rfl
theorem ok52_4 : ((all8 o52 (part 4 4)).all (entTOk T orcT 1000 300 20 Tryd.f52 (codeOf Tryd.f52))) = true := by kernel_rfl
theorem ok52_5 : ((all8 o52 (part 5 4)).all (entTOk T orcT 1000 300 20 Tryd.f52 (codeOf Tryd.f52))) = true := by kernel_rfl
theorem ok52_6 : ((all8 o52 (part 6 4)).all (entTOk T orcT 1000 300 20 Tryd.f52 (codeOf Tryd.f52))) = true := by kernel_rfl
theorem ok52_7 : ((all8 o52 (part 7 4)).all (entTOk T orcT 1000 300 20 Tryd.f52 (codeOf Tryd.f52))) = true := by kernel_rfl
theorem ok52_8 : ((all8 o52 (part 8 4)).all (entTOk T orcT 1000 300 20 Tryd.f52 (codeOf Tryd.f52))) = true := by kernel_rfl
theorem ok52_9 : ((all8 o52 (part 9 4)).all (entTOk T orcT 1000 300 20 Tryd.f52 (codeOf Tryd.f52))) = true := by kernel_rfl
theorem ok52_10 : ((all8 o52 (part 10 4)).all (entTOk T orcT 1000 300 20 Tryd.f52 (codeOf Tryd.f52))) = true := by kernel_rfl
theorem ok52_11 : ((all8 o52 (part 11 4)).all (entTOk T orcT 1000 300 20 Tryd.f52 (codeOf Tryd.f52))) = true := by kernel_rfl
theorem ok52_12 : ((all8 o52 (part 12 4)).all (entTOk T orcT 1000 300 20 Tryd.f52 (codeOf Tryd.f52))) = true := by kernel_rfl
theorem ok52_13 : ((all8 o52 (part 13 4)).all (entTOk T orcT 1000 300 20 Tryd.f52 (codeOf Tryd.f52))) = true := by kernel_rfl
theorem ok52_14 : ((all8 o52 (part 14 4)).all (entTOk T orcT 1000 300 20 Tryd.f52 (codeOf Tryd.f52))) = true := by kernel_rfl
theorem ok52_15 : ((all8 o52 (part 15 4)).all (entTOk T orcT 1000 300 20 Tryd.f52 (codeOf Tryd.f52))) = true := by kernel_rfl
theorem part52_0 : ∀ j, j < 16 → ∀ e ∈ all8 o52 (part (0 + j) 4), EntIs Tryd.prog 52 e := by
  intro j hj
  match j, hj with
  | 0, _ => exact entsTOk_ok (f := 52) Tryd.func52 rfl ok52_0
  | 1, _ => exact entsTOk_ok (f := 52) Tryd.func52 rfl ok52_1
  | 2, _ => exact entsTOk_ok (f := 52) Tryd.func52 rfl ok52_2
  | 3, _ => exact entsTOk_ok (f := 52) Tryd.func52 rfl ok52_3
  | 4, _ => exact entsTOk_ok (f := 52) Tryd.func52 rfl ok52_4
  | 5, _ => exact entsTOk_ok (f := 52) Tryd.func52 rfl ok52_5
  | 6, _ => exact entsTOk_ok (f := 52) Tryd.func52 rfl ok52_6
  | 7, _ => exact entsTOk_ok (f := 52) Tryd.func52 rfl ok52_7
  | 8, _ => exact entsTOk_ok (f := 52) Tryd.func52 rfl ok52_8
  | 9, _ => exact entsTOk_ok (f := 52) Tryd.func52 rfl ok52_9
  | 10, _ => exact entsTOk_ok (f := 52) Tryd.func52 rfl ok52_10
  | 11, _ => exact entsTOk_ok (f := 52) Tryd.func52 rfl ok52_11
  | 12, _ => exact entsTOk_ok (f := 52) Tryd.func52 rfl ok52_12
  | 13, _ => exact entsTOk_ok (f := 52) Tryd.func52 rfl ok52_13
  | 14, _ => exact entsTOk_ok (f := 52) Tryd.func52 rfl ok52_14
  | 15, _ => exact entsTOk_ok (f := 52) Tryd.func52 rfl ok52_15
  | n + 16, h => exact absurd h (by omega)
end Go.Proofs.YtfohjnfdgegfcaaDoor
