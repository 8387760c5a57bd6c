/-
  The letters of the bytes 0 to 63, by facts, as the document writes them. Conditions: none.
-/
import Derived.Test.YtfohjnfdgegfcaaDoorTimPlain
namespace Go.Proofs.YtfohjnfdgegfcaaDoor
open Go Go.AE
set_option maxRecDepth 100000
theorem ok26_0 : ((all8 o26 (part 0 4)).all (entTOk T orcL 1000 300 20 Tryd.f26 (codeOf Tryd.f26))) = true := by kernel_rfl
theorem ok26_1 : ((all8 o26 (part 1 4)).all (entTOk T orcL 1000 300 20 Tryd.f26 (codeOf Tryd.f26))) = true := by kernel_rfl
theorem ok26_2 : ((all8 o26 (part 2 4)).all (entTOk T orcL 1000 300 20 Tryd.f26 (codeOf Tryd.f26))) = true := by kernel_rfl
theorem ok26_3 : ((all8 o26 (part 3 4)).all (entTOk T orcL 1000 300 20 Tryd.f26 (codeOf Tryd.f26))) = true := by kernel_rfl
theorem ok26_4 : ((all8 o26 (part 4 4)).all (entTOk T orcL 1000 300 20 Tryd.f26 (codeOf Tryd.f26))) = true := by kernel_rfl
theorem ok26_5 : ((all8 o26 (part 5 4)).all (entTOk T orcL 1000 300 20 Tryd.f26 (codeOf Tryd.f26))) = true := by kernel_rfl
theorem ok26_6 : ((all8 o26 (part 6 4)).all (entTOk T orcL 1000 300 20 Tryd.f26 (codeOf Tryd.f26))) = true := by kernel_rfl
theorem ok26_7 : ((all8 o26 (part 7 4)).all (entTOk T orcL 1000 300 20 Tryd.f26 (codeOf Tryd.f26))) = true := by kernel_rfl
theorem ok26_8 : ((all8 o26 (part 8 4)).all (entTOk T orcL 1000 300 20 Tryd.f26 (codeOf Tryd.f26))) = true := by kernel_rfl
theorem ok26_9 : ((all8 o26 (part 9 4)).all (entTOk T orcL 1000 300 20 Tryd.f26 (codeOf Tryd.f26))) = true := by kernel_rfl
theorem ok26_10 : ((all8 o26 (part 10 4)).all (entTOk T orcL 1000 300 20 Tryd.f26 (codeOf Tryd.f26))) = true := by kernel_rfl
theorem ok26_11 : ((all8 o26 (part 11 4)).all (entTOk T orcL 1000 300 20 Tryd.f26 (codeOf Tryd.f26))) = true := by kernel_rfl
theorem ok26_12 : ((all8 o26 (part 12 4)).all (entTOk T orcL 1000 300 20 Tryd.f26 (codeOf Tryd.f26))) = true := by kernel_rfl
theorem ok26_13 : ((all8 o26 (part 13 4)).all (entTOk T orcL 1000 300 20 Tryd.f26 (codeOf Tryd.f26))) = true := by kernel_rfl
theorem ok26_14 : ((all8 o26 (part 14 4)).all (entTOk T orcL 1000 300 20 Tryd.f26 (codeOf Tryd.f26))) = true := by kernel_rfl
theorem ok26_15 : ((all8 o26 (part 15 4)).all (entTOk T orcL 1000 300 20 Tryd.f26 (codeOf Tryd.f26))) = true := by kernel_rfl
theorem part26_0 : ∀ j, j < 16 → ∀ e ∈ all8 o26 (part (0 + j) 4), EntIs Tryd.prog 26 e := by
  intro j hj
  match j, hj with
  | 0, _ => exact entsTOk_ok (f := 26) Tryd.func26 rfl ok26_0
  | 1, _ => exact entsTOk_ok (f := 26) Tryd.func26 rfl ok26_1
  | 2, _ => exact entsTOk_ok (f := 26) Tryd.func26 rfl ok26_2
  | 3, _ => exact entsTOk_ok (f := 26) Tryd.func26 rfl ok26_3
  | 4, _ => exact entsTOk_ok (f := 26) Tryd.func26 rfl ok26_4
  | 5, _ => exact entsTOk_ok (f := 26) Tryd.func26 rfl ok26_5
  | 6, _ => exact entsTOk_ok (f := 26) Tryd.func26 rfl ok26_6
  | 7, _ => exact entsTOk_ok (f := 26) Tryd.func26 rfl ok26_7
  | 8, _ => exact entsTOk_ok (f := 26) Tryd.func26 rfl ok26_8
  | 9, _ => exact entsTOk_ok (f := 26) Tryd.func26 rfl ok26_9
  | 10, _ => exact entsTOk_ok (f := 26) Tryd.func26 rfl ok26_10
  | 11, _ => exact entsTOk_ok (f := 26) Tryd.func26 rfl ok26_11
  | 12, _ => exact entsTOk_ok (f := 26) Tryd.func26 rfl ok26_12
  | 13, _ => exact entsTOk_ok (f := 26) Tryd.func26 rfl ok26_13
  | 14, _ => exact entsTOk_ok (f := 26) Tryd.func26 rfl ok26_14
  | 15, _ => exact entsTOk_ok (f := 26) Tryd.func26 rfl ok26_15
  | n + 16, h => exact absurd h (by omega)
end Go.Proofs.YtfohjnfdgegfcaaDoor
