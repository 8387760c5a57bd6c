/-
  The letters of the bytes 192 to 255, by facts, as the program writes them. Conditions: none.
-/
import Derived.Test.YtfohjnfdgegfcaaDoorTimPlain
namespace Go.Proofs.YtfohjnfdgegfcaaDoor
open Go Go.AE
set_option maxRecDepth 100000
theorem ok52_48 : ((all8 o52 (part 48 4)).all (entTOk T orcT 1000 300 20 Tryd.f52 (codeOf Tryd.f52))) = true := by kernel_rfl
theorem ok52_49 : ((all8 o52 (part 49 4)).all (entTOk T orcT 1000 300 20 Tryd.f52 (codeOf Tryd.f52))) = true := by kernel_rfl
theorem ok52_50 : ((all8 o52 (part 50 4)).all (entTOk T orcT 1000 300 20 Tryd.f52 (codeOf Tryd.f52))) = true := by kernel_rfl
theorem ok52_51 : ((all8 o52 (part 51 4)).all (entTOk T orcT 1000 300 20 Tryd.f52 (codeOf Tryd.f52))) = true := by kernel_rfl
theorem ok52_52 : ((all8 o52 (part 52 4)).all (entTOk T orcT 1000 300 20 Tryd.f52 (codeOf Tryd.f52))) = true := by kernel_rfl
theorem ok52_53 : ((all8 o52 (part 53 4)).all (entTOk T orcT 1000 300 20 Tryd.f52 (codeOf Tryd.f52))) = true := by kernel_rfl
theorem ok52_54 : ((all8 o52 (part 54 4)).all (entTOk T orcT 1000 300 20 Tryd.f52 (codeOf Tryd.f52))) = true := by kernel_rfl
theorem ok52_55 : ((all8 o52 (part 55 4)).all (entTOk T orcT 1000 300 20 Tryd.f52 (codeOf Tryd.f52))) = true := by kernel_rfl
theorem ok52_56 : ((all8 o52 (part 56 4)).all (entTOk T orcT 1000 300 20 Tryd.f52 (codeOf Tryd.f52))) = true := by kernel_rfl
theorem ok52_57 : ((all8 o52 (part 57 4)).all (entTOk T orcT 1000 300 20 Tryd.f52 (codeOf Tryd.f52))) = true := by kernel_rfl
theorem ok52_58 : ((all8 o52 (part 58 4)).all (entTOk T orcT 1000 300 20 Tryd.f52 (codeOf Tryd.f52))) = true := by kernel_rfl
theorem ok52_59 : ((all8 o52 (part 59 4)).all (entTOk T orcT 1000 300 20 Tryd.f52 (codeOf Tryd.f52))) = true := by kernel_rfl
theorem ok52_60 : ((all8 o52 (part 60 4)).all (entTOk T orcT 1000 300 20 Tryd.f52 (codeOf Tryd.f52))) = true := by kernel_rfl
theorem ok52_61 : ((all8 o52 (part 61 4)).all (entTOk T orcT 1000 300 20 Tryd.f52 (codeOf Tryd.f52))) = true := by kernel_rfl
theorem ok52_62 : ((all8 o52 (part 62 4)).all (entTOk T orcT 1000 300 20 Tryd.f52 (codeOf Tryd.f52))) = true := by kernel_rfl
theorem ok52_63 : ((all8 o52 (part 63 4)).all (entTOk T orcT 1000 300 20 Tryd.f52 (codeOf Tryd.f52))) = true := by kernel_rfl
theorem part52_3 : ∀ j, j < 16 → ∀ e ∈ all8 o52 (part (48 + j) 4), EntIs Tryd.prog 52 e := by
  intro j hj
  match j, hj with
  | 0, _ => exact entsTOk_ok (f := 52) Tryd.func52 rfl ok52_48
  | 1, _ => exact entsTOk_ok (f := 52) Tryd.func52 rfl ok52_49
  | 2, _ => exact entsTOk_ok (f := 52) Tryd.func52 rfl ok52_50
  | 3, _ => exact entsTOk_ok (f := 52) Tryd.func52 rfl ok52_51
  | 4, _ => exact entsTOk_ok (f := 52) Tryd.func52 rfl ok52_52
  | 5, _ => exact entsTOk_ok (f := 52) Tryd.func52 rfl ok52_53
  | 6, _ => exact entsTOk_ok (f := 52) Tryd.func52 rfl ok52_54
  | 7, _ => exact entsTOk_ok (f := 52) Tryd.func52 rfl ok52_55
  | 8, _ => exact entsTOk_ok (f := 52) Tryd.func52 rfl ok52_56
  | 9, _ => exact entsTOk_ok (f := 52) Tryd.func52 rfl ok52_57
  | 10, _ => exact entsTOk_ok (f := 52) Tryd.func52 rfl ok52_58
  | 11, _ => exact entsTOk_ok (f := 52) Tryd.func52 rfl ok52_59
  | 12, _ => exact entsTOk_ok (f := 52) Tryd.func52 rfl ok52_60
  | 13, _ => exact entsTOk_ok (f := 52) Tryd.func52 rfl ok52_61
  | 14, _ => exact entsTOk_ok (f := 52) Tryd.func52 rfl ok52_62
  | 15, _ => exact entsTOk_ok (f := 52) Tryd.func52 rfl ok52_63
  | n + 16, h => exact absurd h (by omega)
end Go.Proofs.YtfohjnfdgegfcaaDoor
