/-
  gannetref23.Of of the bytes 0 to 63. Conditions: none.
-/
import Derived.Test.YtfohjnfdgegfcaaDoorTabBase
namespace Go.Proofs.YtfohjnfdgegfcaaDoor
open Go Go.AE
set_option maxRecDepth 100000
def tab20_0 : List Ent := [
  o20 0 [66, 82, 75] 1 2 8 true,
  o20 1 [79, 82, 65] 9 2 7 true,
  o20 2 [83, 88, 89] 0 1 3 true,
  o20 3 [83, 84, 48] 1 2 4 true,
  o20 4 [84, 83, 66] 2 2 6 true,
  o20 5 [79, 82, 65] 2 2 4 true,
  o20 6 [65, 83, 76] 2 2 6 true,
  o20 7 [82, 77, 66, 48] 2 2 7 true,
  o20 8 [80, 72, 80] 0 1 3 true,
  o20 9 [79, 82, 65] 1 2 2 true,
  o20 10 [65, 83, 76] 0 1 2 true,
  o20 11 [78, 79, 80] 0 1 2 false,
  o20 12 [84, 83, 66] 5 3 7 true,
  o20 13 [79, 82, 65] 5 3 5 true,
  o20 14 [65, 83, 76] 5 3 7 true,
  o20 15 [66, 66, 82, 48] 12 3 6 true,
  o20 16 [66, 80, 76] 11 2 2 true,
  o20 17 [79, 82, 65] 10 2 7 true,
  o20 18 [79, 82, 65] 8 2 7 true,
  o20 19 [83, 84, 49] 1 2 4 true,
  o20 20 [84, 82, 66] 2 2 6 true,
  o20 21 [79, 82, 65] 3 2 4 true,
  o20 22 [65, 83, 76] 3 2 6 true,
  o20 23 [82, 77, 66, 49] 2 2 7 true,
  o20 24 [67, 76, 67] 0 1 2 true,
  o20 25 [79, 82, 65] 7 3 5 true,
  o20 26 [73, 78, 67] 0 1 2 true,
  o20 27 [78, 79, 80] 0 1 2 false,
  o20 28 [84, 82, 66] 5 3 7 true,
  o20 29 [79, 82, 65] 6 3 5 true,
  o20 30 [65, 83, 76] 6 3 7 true,
  o20 31 [66, 66, 82, 49] 12 3 6 true,
  o20 32 [74, 83, 82] 5 3 7 true,
  o20 33 [65, 78, 68] 9 2 7 true,
  o20 34 [83, 65, 88] 0 1 3 true,
  o20 35 [83, 84, 50] 1 2 4 true,
  o20 36 [66, 73, 84] 2 2 4 true,
  o20 37 [65, 78, 68] 2 2 4 true,
  o20 38 [82, 79, 76] 2 2 6 true,
  o20 39 [82, 77, 66, 50] 2 2 7 true,
  o20 40 [80, 76, 80] 0 1 4 true,
  o20 41 [65, 78, 68] 1 2 2 true,
  o20 42 [82, 79, 76] 0 1 2 true,
  o20 43 [78, 79, 80] 0 1 2 false,
  o20 44 [66, 73, 84] 5 3 5 true,
  o20 45 [65, 78, 68] 5 3 5 true,
  o20 46 [82, 79, 76] 5 3 7 true,
  o20 47 [66, 66, 82, 50] 12 3 6 true,
  o20 48 [66, 77, 73] 11 2 2 true,
  o20 49 [65, 78, 68] 10 2 7 true,
  o20 50 [65, 78, 68] 8 2 7 true,
  o20 51 [78, 79, 80] 0 1 2 false,
  o20 52 [66, 73, 84] 3 2 4 true,
  o20 53 [65, 78, 68] 3 2 4 true,
  o20 54 [82, 79, 76] 3 2 6 true,
  o20 55 [82, 77, 66, 51] 2 2 7 true,
  o20 56 [83, 69, 67] 0 1 2 true,
  o20 57 [65, 78, 68] 7 3 5 true,
  o20 58 [68, 69, 67] 0 1 2 true,
  o20 59 [78, 79, 80] 0 1 2 false,
  o20 60 [66, 73, 84] 6 3 5 true,
  o20 61 [65, 78, 68] 6 3 5 true,
  o20 62 [82, 79, 76] 6 3 7 true,
  o20 63 [66, 66, 82, 51] 12 3 6 true]
theorem ok20_0_0 : entsOk T shelfO 1000 300 20 Tryd.f20 (codeOf Tryd.f20) ((tab20_0.drop 0).take 8) = true := by kernel_rfl
theorem ok20_0_1 : entsOk T shelfO 1000 300 20 Tryd.f20 (codeOf Tryd.f20) ((tab20_0.drop 8).take 8) = true := by kernel_rfl
theorem ok20_0_2 : entsOk T shelfO 1000 300 20 Tryd.f20 (codeOf Tryd.f20) ((tab20_0.drop 16).take 8) = true := by kernel_rfl
theorem ok20_0_3 : entsOk T shelfO 1000 300 20 Tryd.f20 (codeOf Tryd.f20) ((tab20_0.drop 24).take 8) = true := by kernel_rfl
theorem ok20_0_4 : entsOk T shelfO 1000 300 20 Tryd.f20 (codeOf Tryd.f20) ((tab20_0.drop 32).take 8) = true := by kernel_rfl
theorem ok20_0_5 : entsOk T shelfO 1000 300 20 Tryd.f20 (codeOf Tryd.f20) ((tab20_0.drop 40).take 8) = true := by kernel_rfl
theorem ok20_0_6 : entsOk T shelfO 1000 300 20 Tryd.f20 (codeOf Tryd.f20) ((tab20_0.drop 48).take 8) = true := by kernel_rfl
theorem ok20_0_7 : entsOk T shelfO 1000 300 20 Tryd.f20 (codeOf Tryd.f20) ((tab20_0.drop 56).take 8) = true := by kernel_rfl
theorem ok20_0 : ∀ e ∈ tab20_0, EntIs Tryd.prog 20 e := by
  have h0 := entsOk_ok (f := 20) Tryd.func20 rfl ok20_0_0
  have h1 := entsOk_ok (f := 20) Tryd.func20 rfl ok20_0_1
  have h2 := entsOk_ok (f := 20) Tryd.func20 rfl ok20_0_2
  have h3 := entsOk_ok (f := 20) Tryd.func20 rfl ok20_0_3
  have h4 := entsOk_ok (f := 20) Tryd.func20 rfl ok20_0_4
  have h5 := entsOk_ok (f := 20) Tryd.func20 rfl ok20_0_5
  have h6 := entsOk_ok (f := 20) Tryd.func20 rfl ok20_0_6
  have h7 := entsOk_ok (f := 20) Tryd.func20 rfl ok20_0_7
  intro e he
  have hs : tab20_0 = (tab20_0.drop 0).take 8 ++ ((tab20_0.drop 8).take 8 ++ ((tab20_0.drop 16).take 8 ++ ((tab20_0.drop 24).take 8 ++ ((tab20_0.drop 32).take 8 ++ ((tab20_0.drop 40).take 8 ++ ((tab20_0.drop 48).take 8 ++ ((tab20_0.drop 56).take 8))))))) := rfl
  rw [hs] at he
  simp only [List.mem_append] at he
  rcases he with h | h | h | h | h | h | h | h
  · exact h0 e h
  · exact h1 e h
  · exact h2 e h
  · exact h3 e h
  · exact h4 e h
  · exact h5 e h
  · exact h6 e h
  · exact h7 e h
end Go.Proofs.YtfohjnfdgegfcaaDoor
