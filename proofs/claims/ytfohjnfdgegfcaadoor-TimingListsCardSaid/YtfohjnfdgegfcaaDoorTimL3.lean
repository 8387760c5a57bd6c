/-
  The letters of the bytes 192 to 255, by facts, as the document writes them. Conditions: none.
-/
import Derived.Test.YtfohjnfdgegfcaaDoorTimPlain
namespace Go.Proofs.YtfohjnfdgegfcaaDoor
open Go Go.AE
set_option maxRecDepth 100000
theorem ok26_48 : ((all8 o26 (part 48 4)).all (entTOk T orcL 1000 300 20 Tryd.f26 (codeOf Tryd.f26))) = true := by kernel_rfl
theorem ok26_49 : ((all8 o26 (part 49 4)).all (entTOk T orcL 1000 300 20 Tryd.f26 (codeOf Tryd.f26))) = true := by kernel_rfl
theorem ok26_50 : ((all8 o26 (part 50 4)).all (entTOk T orcL 1000 300 20 Tryd.f26 (codeOf Tryd.f26))) = true := by kernel_rfl
theorem ok26_51 : ((all8 o26 (part 51 4)).all (entTOk T orcL 1000 300 20 Tryd.f26 (codeOf Tryd.f26))) = true := by kernel_rfl
theorem ok26_52 : ((all8 o26 (part 52 4)).all (entTOk T orcL 1000 300 20 Tryd.f26 (codeOf Tryd.f26))) = true := by kernel_rfl
theorem ok26_53 : ((all8 o26 (part 53 4)).all (entTOk T orcL 1000 300 20 Tryd.f26 (codeOf Tryd.f26))) = true := by kernel_rfl
theorem ok26_54 : ((all8 o26 (part 54 4)).all (entTOk T orcL 1000 300 20 Tryd.f26 (codeOf Tryd.f26))) = true := by kernel_rfl
theorem ok26_55 : ((all8 o26 (part 55 4)).all (entTOk T orcL 1000 300 20 Tryd.f26 (codeOf Tryd.f26))) = true := by kernel_rfl
theorem ok26_56 : ((all8 o26 (part 56 4)).all (entTOk T orcL 1000 300 20 Tryd.f26 (codeOf Tryd.f26))) = true := by kernel_rfl
theorem ok26_57 : ((all8 o26 (part 57 4)).all (entTOk T orcL 1000 300 20 Tryd.f26 (codeOf Tryd.f26))) = true := by kernel_rfl
theorem ok26_58 : ((all8 o26 (part 58 4)).all (entTOk T orcL 1000 300 20 Tryd.f26 (codeOf Tryd.f26))) = true := by kernel_rfl
theorem ok26_59 : ((all8 o26 (part 59 4)).all (entTOk T orcL 1000 300 20 Tryd.f26 (codeOf Tryd.f26))) = true := by kernel_rfl
theorem ok26_60 : ((all8 o26 (part 60 4)).all (entTOk T orcL 1000 300 20 Tryd.f26 (codeOf Tryd.f26))) = true := by kernel_rfl
theorem ok26_61 : ((all8 o26 (part 61 4)).all (entTOk T orcL 1000 300 20 Tryd.f26 (codeOf Tryd.f26))) = true := by kernel_rfl
theorem ok26_62 : ((all8 o26 (part 62 4)).all (entTOk T orcL 1000 300 20 Tryd.f26 (codeOf Tryd.f26))) = true := by kernel_rfl
theorem ok26_63 : ((all8 o26 (part 63 4)).all (entTOk T orcL 1000 300 20 Tryd.f26 (codeOf Tryd.f26))) = true := by kernel_rfl
theorem part26_3 : ∀ j, j < 16 → ∀ e ∈ all8 o26 (part (48 + j) 4), EntIs Tryd.prog 26 e := by
  intro j hj
  match j, hj with
  | 0, _ => exact entsTOk_ok (f := 26) Tryd.func26 rfl ok26_48
  | 1, _ => exact entsTOk_ok (f := 26) Tryd.func26 rfl ok26_49
  | 2, _ => exact entsTOk_ok (f := 26) Tryd.func26 rfl ok26_50
  | 3, _ => exact entsTOk_ok (f := 26) Tryd.func26 rfl ok26_51
  | 4, _ => exact entsTOk_ok (f := 26) Tryd.func26 rfl ok26_52
  | 5, _ => exact entsTOk_ok (f := 26) Tryd.func26 rfl ok26_53
  | 6, _ => exact entsTOk_ok (f := 26) Tryd.func26 rfl ok26_54
  | 7, _ => exact entsTOk_ok (f := 26) Tryd.func26 rfl ok26_55
  | 8, _ => exact entsTOk_ok (f := 26) Tryd.func26 rfl ok26_56
  | 9, _ => exact entsTOk_ok (f := 26) Tryd.func26 rfl ok26_57
  | 10, _ => exact entsTOk_ok (f := 26) Tryd.func26 rfl ok26_58
  | 11, _ => exact entsTOk_ok (f := 26) Tryd.func26 rfl ok26_59
  | 12, _ => exact entsTOk_ok (f := 26) Tryd.func26 rfl ok26_60
  | 13, _ => exact entsTOk_ok (f := 26) Tryd.func26 rfl ok26_61
  | 14, _ => exact entsTOk_ok (f := 26) Tryd.func26 rfl ok26_62
  | 15, _ => exact entsTOk_ok (f := 26) Tryd.func26 rfl ok26_63
  | n + 16, h => exact absurd h (by omega)
end Go.Proofs.YtfohjnfdgegfcaaDoor
