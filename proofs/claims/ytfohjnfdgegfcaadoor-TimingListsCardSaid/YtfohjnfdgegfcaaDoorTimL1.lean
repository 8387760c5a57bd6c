/-
  The letters of the bytes 64 to 127, by facts, as the document writes them. Conditions: none.
-/
import Derived.Test.YtfohjnfdgegfcaaDoorTimPlain
namespace Go.Proofs.YtfohjnfdgegfcaaDoor
open Go Go.AE
set_option maxRecDepth 100000
theorem ok26_16 : ((all8 o26 (part 16 4)).all (entTOk T orcL 1000 300 20 Tryd.f26 (codeOf Tryd.f26))) = true := by kernel_rfl
theorem ok26_17 : ((all8 o26 (part 17 4)).all (entTOk T orcL 1000 300 20 Tryd.f26 (codeOf Tryd.f26))) = true := by kernel_rfl
theorem ok26_18 : ((all8 o26 (part 18 4)).all (entTOk T orcL 1000 300 20 Tryd.f26 (codeOf Tryd.f26))) = true := by kernel_rfl
theorem ok26_19 : ((all8 o26 (part 19 4)).all (entTOk T orcL 1000 300 20 Tryd.f26 (codeOf Tryd.f26))) = true := by kernel_rfl
theorem ok26_20 : ((all8 o26 (part 20 4)).all (entTOk T orcL 1000 300 20 Tryd.f26 (codeOf Tryd.f26))) = true := by kernel_rfl
theorem ok26_21 : ((all8 o26 (part 21 4)).all (entTOk T orcL 1000 300 20 Tryd.f26 (codeOf Tryd.f26))) = true := by kernel_rfl
theorem ok26_22 : ((all8 o26 (part 22 4)).all (entTOk T orcL 1000 300 20 Tryd.f26 (codeOf Tryd.f26))) = true := by kernel_rfl
theorem ok26_23 : ((all8 o26 (part 23 4)).all (entTOk T orcL 1000 300 20 Tryd.f26 (codeOf Tryd.f26))) = true := by kernel_rfl
theorem ok26_24 : ((all8 o26 (part 24 4)).all (entTOk T orcL 1000 300 20 Tryd.f26 (codeOf Tryd.f26))) = true := by kernel_rfl
theorem ok26_25 : ((all8 o26 (part 25 4)).all (entTOk T orcL 1000 300 20 Tryd.f26 (codeOf Tryd.f26))) = true := by kernel_rfl
theorem ok26_26 : ((all8 o26 (part 26 4)).all (entTOk T orcL 1000 300 20 Tryd.f26 (codeOf Tryd.f26))) = true := by kernel_rfl
theorem ok26_27 : ((all8 o26 (part 27 4)).all (entTOk T orcL 1000 300 20 Tryd.f26 (codeOf Tryd.f26))) = true := by kernel_rfl
theorem ok26_28 : ((all8 o26 (part 28 4)).all (entTOk T orcL 1000 300 20 Tryd.f26 (codeOf Tryd.f26))) = true := by kernel_rfl
theorem ok26_29 : ((all8 o26 (part 29 4)).all (entTOk T orcL 1000 300 20 Tryd.f26 (codeOf Tryd.f26))) = true := by kernel_rfl
theorem ok26_30 : ((all8 o26 (part 30 4)).all (entTOk T orcL 1000 300 20 Tryd.f26 (codeOf Tryd.f26))) = true := by kernel_rfl
theorem ok26_31 : ((all8 o26 (part 31 4)).all (entTOk T orcL 1000 300 20 Tryd.f26 (codeOf Tryd.f26))) = true := by kernel_rfl
theorem part26_1 : ∀ j, j < 16 → ∀ e ∈ all8 o26 (part (16 + j) 4), EntIs Tryd.prog 26 e := by
  intro j hj
  match j, hj with
  | 0, _ => exact entsTOk_ok (f := 26) Tryd.func26 rfl ok26_16
  | 1, _ => exact entsTOk_ok (f := 26) Tryd.func26 rfl ok26_17
  | 2, _ => exact entsTOk_ok (f := 26) Tryd.func26 rfl ok26_18
  | 3, _ => exact entsTOk_ok (f := 26) Tryd.func26 rfl ok26_19
  | 4, _ => exact entsTOk_ok (f := 26) Tryd.func26 rfl ok26_20
  | 5, _ => exact entsTOk_ok (f := 26) Tryd.func26 rfl ok26_21
  | 6, _ => exact entsTOk_ok (f := 26) Tryd.func26 rfl ok26_22
  | 7, _ => exact entsTOk_ok (f := 26) Tryd.func26 rfl ok26_23
  | 8, _ => exact entsTOk_ok (f := 26) Tryd.func26 rfl ok26_24
  | 9, _ => exact entsTOk_ok (f := 26) Tryd.func26 rfl ok26_25
  | 10, _ => exact entsTOk_ok (f := 26) Tryd.func26 rfl ok26_26
  | 11, _ => exact entsTOk_ok (f := 26) Tryd.func26 rfl ok26_27
  | 12, _ => exact entsTOk_ok (f := 26) Tryd.func26 rfl ok26_28
  | 13, _ => exact entsTOk_ok (f := 26) Tryd.func26 rfl ok26_29
  | 14, _ => exact entsTOk_ok (f := 26) Tryd.func26 rfl ok26_30
  | 15, _ => exact entsTOk_ok (f := 26) Tryd.func26 rfl ok26_31
  | n + 16, h => exact absurd h (by omega)
end Go.Proofs.YtfohjnfdgegfcaaDoor
