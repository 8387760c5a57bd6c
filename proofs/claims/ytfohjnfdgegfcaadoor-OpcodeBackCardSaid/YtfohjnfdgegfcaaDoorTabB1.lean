/-
  gannetref23.Of of the bytes 64 to 127. Conditions: none.
-/
import Derived.Test.YtfohjnfdgegfcaaDoorTabBase
namespace Go.Proofs.YtfohjnfdgegfcaaDoor
open Go Go.AE
set_option maxRecDepth 100000
def tab20_1 : List Ent := [
  o20 64 [82, 84, 73] 0 1 7 true,
  o20 65 [69, 79, 82] 9 2 7 true,
  o20 66 [83, 65, 89] 0 1 3 true,
  o20 67 [84, 77, 65] 1 2 4 true,
  o20 68 [66, 83, 82] 11 2 8 true,
  o20 69 [69, 79, 82] 2 2 4 true,
  o20 70 [76, 83, 82] 2 2 6 true,
  o20 71 [82, 77, 66, 52] 2 2 7 true,
  o20 72 [80, 72, 65] 0 1 3 true,
  o20 73 [69, 79, 82] 1 2 2 true,
  o20 74 [76, 83, 82] 0 1 2 true,
  o20 75 [78, 79, 80] 0 1 2 false,
  o20 76 [74, 77, 80] 5 3 4 true,
  o20 77 [69, 79, 82] 5 3 5 true,
  o20 78 [76, 83, 82] 5 3 7 true,
  o20 79 [66, 66, 82, 52] 12 3 6 true,
  o20 80 [66, 86, 67] 11 2 2 true,
  o20 81 [69, 79, 82] 10 2 7 true,
  o20 82 [69, 79, 82] 8 2 7 true,
  o20 83 [84, 65, 77] 1 2 5 true,
  o20 84 [67, 83, 76] 0 1 3 true,
  o20 85 [69, 79, 82] 3 2 4 true,
  o20 86 [76, 83, 82] 3 2 6 true,
  o20 87 [82, 77, 66, 53] 2 2 7 true,
  o20 88 [67, 76, 73] 0 1 2 true,
  o20 89 [69, 79, 82] 7 3 5 true,
  o20 90 [80, 72, 89] 0 1 3 true,
  o20 91 [78, 79, 80] 0 1 2 false,
  o20 92 [78, 79, 80] 0 1 2 false,
  o20 93 [69, 79, 82] 6 3 5 true,
  o20 94 [76, 83, 82] 6 3 7 true,
  o20 95 [66, 66, 82, 53] 12 3 6 true,
  o20 96 [82, 84, 83] 0 1 7 true,
  o20 97 [65, 68, 67] 9 2 7 true,
  o20 98 [67, 76, 65] 0 1 2 true,
  o20 99 [78, 79, 80] 0 1 2 false,
  o20 100 [83, 84, 90] 2 2 4 true,
  o20 101 [65, 68, 67] 2 2 4 true,
  o20 102 [82, 79, 82] 2 2 6 true,
  o20 103 [82, 77, 66, 54] 2 2 7 true,
  o20 104 [80, 76, 65] 0 1 4 true,
  o20 105 [65, 68, 67] 1 2 2 true,
  o20 106 [82, 79, 82] 0 1 2 true,
  o20 107 [78, 79, 80] 0 1 2 false,
  o20 108 [74, 77, 80] 17 3 7 true,
  o20 109 [65, 68, 67] 5 3 5 true,
  o20 110 [82, 79, 82] 5 3 7 true,
  o20 111 [66, 66, 82, 54] 12 3 6 true,
  o20 112 [66, 86, 83] 11 2 2 true,
  o20 113 [65, 68, 67] 10 2 7 true,
  o20 114 [65, 68, 67] 8 2 7 true,
  o20 115 [84, 73, 73] 19 7 17 true,
  o20 116 [83, 84, 90] 3 2 4 true,
  o20 117 [65, 68, 67] 3 2 4 true,
  o20 118 [82, 79, 82] 3 2 6 true,
  o20 119 [82, 77, 66, 55] 2 2 7 true,
  o20 120 [83, 69, 73] 0 1 2 true,
  o20 121 [65, 68, 67] 7 3 5 true,
  o20 122 [80, 76, 89] 0 1 4 true,
  o20 123 [78, 79, 80] 0 1 2 false,
  o20 124 [74, 77, 80] 18 3 7 true,
  o20 125 [65, 68, 67] 6 3 5 true,
  o20 126 [82, 79, 82] 6 3 7 true,
  o20 127 [66, 66, 82, 55] 12 3 6 true]
theorem ok20_1_0 : entsOk T shelfO 1000 300 20 Tryd.f20 (codeOf Tryd.f20) ((tab20_1.drop 0).take 8) = true := by kernel_rfl
theorem ok20_1_1 : entsOk T shelfO 1000 300 20 Tryd.f20 (codeOf Tryd.f20) ((tab20_1.drop 8).take 8) = true := by kernel_rfl
theorem ok20_1_2 : entsOk T shelfO 1000 300 20 Tryd.f20 (codeOf Tryd.f20) ((tab20_1.drop 16).take 8) = true := by kernel_rfl
theorem ok20_1_3 : entsOk T shelfO 1000 300 20 Tryd.f20 (codeOf Tryd.f20) ((tab20_1.drop 24).take 8) = true := by kernel_rfl
theorem ok20_1_4 : entsOk T shelfO 1000 300 20 Tryd.f20 (codeOf Tryd.f20) ((tab20_1.drop 32).take 8) = true := by kernel_rfl
theorem ok20_1_5 : entsOk T shelfO 1000 300 20 Tryd.f20 (codeOf Tryd.f20) ((tab20_1.drop 40).take 8) = true := by kernel_rfl
theorem ok20_1_6 : entsOk T shelfO 1000 300 20 Tryd.f20 (codeOf Tryd.f20) ((tab20_1.drop 48).take 8) = true := by kernel_rfl
theorem ok20_1_7 : entsOk T shelfO 1000 300 20 Tryd.f20 (codeOf Tryd.f20) ((tab20_1.drop 56).take 8) = true := by kernel_rfl
theorem ok20_1 : ∀ e ∈ tab20_1, EntIs Tryd.prog 20 e := by
  have h0 := entsOk_ok (f := 20) Tryd.func20 rfl ok20_1_0
  have h1 := entsOk_ok (f := 20) Tryd.func20 rfl ok20_1_1
  have h2 := entsOk_ok (f := 20) Tryd.func20 rfl ok20_1_2
  have h3 := entsOk_ok (f := 20) Tryd.func20 rfl ok20_1_3
  have h4 := entsOk_ok (f := 20) Tryd.func20 rfl ok20_1_4
  have h5 := entsOk_ok (f := 20) Tryd.func20 rfl ok20_1_5
  have h6 := entsOk_ok (f := 20) Tryd.func20 rfl ok20_1_6
  have h7 := entsOk_ok (f := 20) Tryd.func20 rfl ok20_1_7
  intro e he
  have hs : tab20_1 = (tab20_1.drop 0).take 8 ++ ((tab20_1.drop 8).take 8 ++ ((tab20_1.drop 16).take 8 ++ ((tab20_1.drop 24).take 8 ++ ((tab20_1.drop 32).take 8 ++ ((tab20_1.drop 40).take 8 ++ ((tab20_1.drop 48).take 8 ++ ((tab20_1.drop 56).take 8))))))) := rfl
  rw [hs] at he
  simp only [List.mem_append] at he
  rcases he with h | h | h | h | h | h | h | h
  · exact h0 e h
  · exact h1 e h
  · exact h2 e h
  · exact h3 e h
  · exact h4 e h
  · exact h5 e h
  · exact h6 e h
  · exact h7 e h
end Go.Proofs.YtfohjnfdgegfcaaDoor
