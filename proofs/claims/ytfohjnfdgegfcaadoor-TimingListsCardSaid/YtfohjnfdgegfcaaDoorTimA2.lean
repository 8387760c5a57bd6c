/-
  The letters of the bytes 128 to 191, by facts, as the program writes them. Conditions: none.
-/
import Derived.Test.YtfohjnfdgegfcaaDoorTimPlain
namespace Go.Proofs.YtfohjnfdgegfcaaDoor
open Go Go.AE
set_option maxRecDepth 100000
theorem ok52_32 : ((all8 o52 (part 32 4)).all (entTOk T orcT 1000 300 20 Tryd.f52 (codeOf Tryd.f52))) = true := by kernel_rfl
theorem ok52_33 : ((all8 o52 (part 33 4)).all (entTOk T orcT 1000 300 20 Tryd.f52 (codeOf Tryd.f52))) = true := by kernel_rfl
theorem ok52_34 : ((all8 o52 (part 34 4)).all (entTOk T orcT 1000 300 20 Tryd.f52 (codeOf Tryd.f52))) = true := by kernel_rfl
theorem ok52_35 : ((all8 o52 (part 35 4)).all (entTOk T orcT 1000 300 20 Tryd.f52 (codeOf Tryd.f52))) = true := by kernel_rfl
theorem ok52_36 : ((all8 o52 (part 36 4)).all (entTOk T orcT 1000 300 20 Tryd.f52 (codeOf Tryd.f52))) = true := by kernel_rfl
theorem ok52_37 : ((all8 o52 (part 37 4)).all (entTOk T orcT 1000 300 20 Tryd.f52 (codeOf Tryd.f52))) = true := by kernel_rfl
theorem ok52_38 : ((all8 o52 (part 38 4)).all (entTOk T orcT 1000 300 20 Tryd.f52 (codeOf Tryd.f52))) = true := by kernel_rfl
theorem ok52_39 : ((all8 o52 (part 39 4)).all (entTOk T orcT 1000 300 20 Tryd.f52 (codeOf Tryd.f52))) = true := by kernel_rfl
theorem ok52_40 : ((all8 o52 (part 40 4)).all (entTOk T orcT 1000 300 20 Tryd.f52 (codeOf Tryd.f52))) = true := by kernel_rfl
theorem ok52_41 : ((all8 o52 (part 41 4)).all (entTOk T orcT 1000 300 20 Tryd.f52 (codeOf Tryd.f52))) = true := by kernel_rfl
theorem ok52_42 : ((all8 o52 (part 42 4)).all (entTOk T orcT 1000 300 20 Tryd.f52 (codeOf Tryd.f52))) = true := by kernel_rfl
theorem ok52_43 : ((all8 o52 (part 43 4)).all (entTOk T orcT 1000 300 20 Tryd.f52 (codeOf Tryd.f52))) = true := by kernel_rfl
theorem ok52_44 : ((all8 o52 (part 44 4)).all (entTOk T orcT 1000 300 20 Tryd.f52 (codeOf Tryd.f52))) = true := by kernel_rfl
theorem ok52_45 : ((all8 o52 (part 45 4)).all (entTOk T orcT 1000 300 20 Tryd.f52 (codeOf Tryd.f52))) = true := by kernel_rfl
theorem ok52_46 : ((all8 o52 (part 46 4)).all (entTOk T orcT 1000 300 20 Tryd.f52 (codeOf Tryd.f52))) = true := by kernel_rfl
theorem ok52_47 : ((all8 o52 (part 47 4)).all (entTOk T orcT 1000 300 20 Tryd.f52 (codeOf Tryd.f52))) = true := by kernel_rfl
theorem part52_2 : ∀ j, j < 16 → ∀ e ∈ all8 o52 (part (32 + j) 4), EntIs Tryd.prog 52 e := by
  intro j hj
  match j, hj with
  | 0, _ => exact entsTOk_ok (f := 52) Tryd.func52 rfl ok52_32
  | 1, _ => exact entsTOk_ok (f := 52) Tryd.func52 rfl ok52_33
  | 2, _ => exact entsTOk_ok (f := 52) Tryd.func52 rfl ok52_34
  | 3, _ => exact entsTOk_ok (f := 52) Tryd.func52 rfl ok52_35
  | 4, _ => exact entsTOk_ok (f := 52) Tryd.func52 rfl ok52_36
  | 5, _ => exact entsTOk_ok (f := 52) Tryd.func52 rfl ok52_37
  | 6, _ => exact entsTOk_ok (f := 52) Tryd.func52 rfl ok52_38
  | 7, _ => exact entsTOk_ok (f := 52) Tryd.func52 rfl ok52_39
  | 8, _ => exact entsTOk_ok (f := 52) Tryd.func52 rfl ok52_40
  | 9, _ => exact entsTOk_ok (f := 52) Tryd.func52 rfl ok52_41
  | 10, _ => exact entsTOk_ok (f := 52) Tryd.func52 rfl ok52_42
  | 11, _ => exact entsTOk_ok (f := 52) Tryd.func52 rfl ok52_43
  | 12, _ => exact entsTOk_ok (f := 52) Tryd.func52 rfl ok52_44
  | 13, _ => exact entsTOk_ok (f := 52) Tryd.func52 rfl ok52_45
  | 14, _ => exact entsTOk_ok (f := 52) Tryd.func52 rfl ok52_46
  | 15, _ => exact entsTOk_ok (f := 52) Tryd.func52 rfl ok52_47
  | n + 16, h => exact absurd h (by omega)
end Go.Proofs.YtfohjnfdgegfcaaDoor
