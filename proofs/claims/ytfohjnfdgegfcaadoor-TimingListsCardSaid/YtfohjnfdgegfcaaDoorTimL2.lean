/-
  The letters of the bytes 128 to 191, by facts, as the document writes them. Conditions: none.
-/
import Derived.Test.YtfohjnfdgegfcaaDoorTimPlain
namespace Go.Proofs.YtfohjnfdgegfcaaDoor
open Go Go.AE
set_option maxRecDepth 100000
theorem ok26_32 : ((all8 o26 (part 32 4)).all (entTOk T orcL 1000 300 20 Tryd.f26 (codeOf Tryd.f26))) = true := by kernel_rfl
theorem ok26_33 : ((all8 o26 (part 33 4)).all (entTOk T orcL 1000 300 20 Tryd.f26 (codeOf Tryd.f26))) = true := by kernel_rfl
theorem ok26_34 : ((all8 o26 (part 34 4)).all (entTOk T orcL 1000 300 20 Tryd.f26 (codeOf Tryd.f26))) = true := by kernel_rfl
theorem ok26_35 : ((all8 o26 (part 35 4)).all (entTOk T orcL 1000 300 20 Tryd.f26 (codeOf Tryd.f26))) = true := by kernel_rfl
theorem ok26_36 : ((all8 o26 (part 36 4)).all (entTOk T orcL 1000 300 20 Tryd.f26 (codeOf Tryd.f26))) = true := by kernel_rfl
theorem ok26_37 : ((all8 o26 (part 37 4)).all (entTOk T orcL 1000 300 20 Tryd.f26 (codeOf Tryd.f26))) = true := by kernel_rfl
theorem ok26_38 : ((all8 o26 (part 38 4)).all (entTOk T orcL 1000 300 20 Tryd.f26 (codeOf Tryd.f26))) = true := by kernel_rfl
theorem ok26_39 : ((all8 o26 (part 39 4)).all (entTOk T orcL 1000 300 20 Tryd.f26 (codeOf Tryd.f26))) = true := by kernel_rfl
theorem ok26_40 : ((all8 o26 (part 40 4)).all (entTOk T orcL 1000 300 20 Tryd.f26 (codeOf Tryd.f26))) = true := by kernel_rfl
theorem ok26_41 : ((all8 o26 (part 41 4)).all (entTOk T orcL 1000 300 20 Tryd.f26 (codeOf Tryd.f26))) = true := by kernel_rfl
theorem ok26_42 : ((all8 o26 (part 42 4)).all (entTOk T orcL 1000 300 20 Tryd.f26 (codeOf Tryd.f26))) = true := by kernel_rfl
theorem ok26_43 : ((all8 o26 (part 43 4)).all (entTOk T orcL 1000 300 20 Tryd.f26 (codeOf Tryd.f26))) = true := by kernel_rfl
theorem ok26_44 : ((all8 o26 (part 44 4)).all (entTOk T orcL 1000 300 20 Tryd.f26 (codeOf Tryd.f26))) = true := by kernel_rfl
theorem ok26_45 : ((all8 o26 (part 45 4)).all (entTOk T orcL 1000 300 20 Tryd.f26 (codeOf Tryd.f26))) = true := by kernel_rfl
theorem ok26_46 : ((all8 o26 (part 46 4)).all (entTOk T orcL 1000 300 20 Tryd.f26 (codeOf Tryd.f26))) = true := by kernel_rfl
theorem ok26_47 : ((all8 o26 (part 47 4)).all (entTOk T orcL 1000 300 20 Tryd.f26 (codeOf Tryd.f26))) = true := by kernel_rfl
theorem part26_2 : ∀ j, j < 16 → ∀ e ∈ all8 o26 (part (32 + j) 4), EntIs Tryd.prog 26 e := by
  intro j hj
  match j, hj with
  | 0, _ => exact entsTOk_ok (f := 26) Tryd.func26 rfl ok26_32
  | 1, _ => exact entsTOk_ok (f := 26) Tryd.func26 rfl ok26_33
  | 2, _ => exact entsTOk_ok (f := 26) Tryd.func26 rfl ok26_34
  | 3, _ => exact entsTOk_ok (f := 26) Tryd.func26 rfl ok26_35
  | 4, _ => exact entsTOk_ok (f := 26) Tryd.func26 rfl ok26_36
  | 5, _ => exact entsTOk_ok (f := 26) Tryd.func26 rfl ok26_37
  | 6, _ => exact entsTOk_ok (f := 26) Tryd.func26 rfl ok26_38
  | 7, _ => exact entsTOk_ok (f := 26) Tryd.func26 rfl ok26_39
  | 8, _ => exact entsTOk_ok (f := 26) Tryd.func26 rfl ok26_40
  | 9, _ => exact entsTOk_ok (f := 26) Tryd.func26 rfl ok26_41
  | 10, _ => exact entsTOk_ok (f := 26) Tryd.func26 rfl ok26_42
  | 11, _ => exact entsTOk_ok (f := 26) Tryd.func26 rfl ok26_43
  | 12, _ => exact entsTOk_ok (f := 26) Tryd.func26 rfl ok26_44
  | 13, _ => exact entsTOk_ok (f := 26) Tryd.func26 rfl ok26_45
  | 14, _ => exact entsTOk_ok (f := 26) Tryd.func26 rfl ok26_46
  | 15, _ => exact entsTOk_ok (f := 26) Tryd.func26 rfl ok26_47
  | n + 16, h => exact absurd h (by omega)
end Go.Proofs.YtfohjnfdgegfcaaDoor
