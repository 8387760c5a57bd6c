/-
  gannetref23.Of of the bytes 128 to 191. Conditions: none.
-/
import Derived.Test.YtfohjnfdgegfcaaDoorTabBase
namespace Go.Proofs.YtfohjnfdgegfcaaDoor
open Go Go.AE
set_option maxRecDepth 100000
def tab20_2 : List Ent := [
  o20 128 [66, 82, 65] 11 2 4 true,
  o20 129 [83, 84, 65] 9 2 7 true,
  o20 130 [67, 76, 88] 0 1 2 true,
  o20 131 [84, 83, 84] 13 3 7 true,
  o20 132 [83, 84, 89] 2 2 4 true,
  o20 133 [83, 84, 65] 2 2 4 true,
  o20 134 [83, 84, 88] 2 2 4 true,
  o20 135 [83, 77, 66, 48] 2 2 7 true,
  o20 136 [68, 69, 89] 0 1 2 true,
  o20 137 [66, 73, 84] 1 2 2 true,
  o20 138 [84, 88, 65] 0 1 2 true,
  o20 139 [78, 79, 80] 0 1 2 false,
  o20 140 [83, 84, 89] 5 3 5 true,
  o20 141 [83, 84, 65] 5 3 5 true,
  o20 142 [83, 84, 88] 5 3 5 true,
  o20 143 [66, 66, 83, 48] 12 3 6 true,
  o20 144 [66, 67, 67] 11 2 2 true,
  o20 145 [83, 84, 65] 10 2 7 true,
  o20 146 [83, 84, 65] 8 2 7 true,
  o20 147 [84, 83, 84] 15 4 8 true,
  o20 148 [83, 84, 89] 3 2 4 true,
  o20 149 [83, 84, 65] 3 2 4 true,
  o20 150 [83, 84, 88] 4 2 4 true,
  o20 151 [83, 77, 66, 49] 2 2 7 true,
  o20 152 [84, 89, 65] 0 1 2 true,
  o20 153 [83, 84, 65] 7 3 5 true,
  o20 154 [84, 88, 83] 0 1 2 true,
  o20 155 [78, 79, 80] 0 1 2 false,
  o20 156 [83, 84, 90] 5 3 5 true,
  o20 157 [83, 84, 65] 6 3 5 true,
  o20 158 [83, 84, 90] 6 3 5 true,
  o20 159 [66, 66, 83, 49] 12 3 6 true,
  o20 160 [76, 68, 89] 1 2 2 true,
  o20 161 [76, 68, 65] 9 2 7 true,
  o20 162 [76, 68, 88] 1 2 2 true,
  o20 163 [84, 83, 84] 14 3 7 true,
  o20 164 [76, 68, 89] 2 2 4 true,
  o20 165 [76, 68, 65] 2 2 4 true,
  o20 166 [76, 68, 88] 2 2 4 true,
  o20 167 [83, 77, 66, 50] 2 2 7 true,
  o20 168 [84, 65, 89] 0 1 2 true,
  o20 169 [76, 68, 65] 1 2 2 true,
  o20 170 [84, 65, 88] 0 1 2 true,
  o20 171 [78, 79, 80] 0 1 2 false,
  o20 172 [76, 68, 89] 5 3 5 true,
  o20 173 [76, 68, 65] 5 3 5 true,
  o20 174 [76, 68, 88] 5 3 5 true,
  o20 175 [66, 66, 83, 50] 12 3 6 true,
  o20 176 [66, 67, 83] 11 2 2 true,
  o20 177 [76, 68, 65] 10 2 7 true,
  o20 178 [76, 68, 65] 8 2 7 true,
  o20 179 [84, 83, 84] 16 4 8 true,
  o20 180 [76, 68, 89] 3 2 4 true,
  o20 181 [76, 68, 65] 3 2 4 true,
  o20 182 [76, 68, 88] 4 2 4 true,
  o20 183 [83, 77, 66, 51] 2 2 7 true,
  o20 184 [67, 76, 86] 0 1 2 true,
  o20 185 [76, 68, 65] 7 3 5 true,
  o20 186 [84, 83, 88] 0 1 2 true,
  o20 187 [78, 79, 80] 0 1 2 false,
  o20 188 [76, 68, 89] 6 3 5 true,
  o20 189 [76, 68, 65] 6 3 5 true,
  o20 190 [76, 68, 88] 7 3 5 true,
  o20 191 [66, 66, 83, 51] 12 3 6 true]
theorem ok20_2_0 : entsOk T shelfO 1000 300 20 Tryd.f20 (codeOf Tryd.f20) ((tab20_2.drop 0).take 8) = true := by kernel_rfl
theorem ok20_2_1 : entsOk T shelfO 1000 300 20 Tryd.f20 (codeOf Tryd.f20) ((tab20_2.drop 8).take 8) = true := by kernel_rfl
theorem ok20_2_2 : entsOk T shelfO 1000 300 20 Tryd.f20 (codeOf Tryd.f20) ((tab20_2.drop 16).take 8) = true := by kernel_rfl
theorem ok20_2_3 : entsOk T shelfO 1000 300 20 Tryd.f20 (codeOf Tryd.f20) ((tab20_2.drop 24).take 8) = true := by kernel_rfl
theorem ok20_2_4 : entsOk T shelfO 1000 300 20 Tryd.f20 (codeOf Tryd.f20) ((tab20_2.drop 32).take 8) = true := by kernel_rfl
theorem ok20_2_5 : entsOk T shelfO 1000 300 20 Tryd.f20 (codeOf Tryd.f20) ((tab20_2.drop 40).take 8) = true := by kernel_rfl
theorem ok20_2_6 : entsOk T shelfO 1000 300 20 Tryd.f20 (codeOf Tryd.f20) ((tab20_2.drop 48).take 8) = true := by kernel_rfl
theorem ok20_2_7 : entsOk T shelfO 1000 300 20 Tryd.f20 (codeOf Tryd.f20) ((tab20_2.drop 56).take 8) = true := by kernel_rfl
theorem ok20_2 : ∀ e ∈ tab20_2, EntIs Tryd.prog 20 e := by
  have h0 := entsOk_ok (f := 20) Tryd.func20 rfl ok20_2_0
  have h1 := entsOk_ok (f := 20) Tryd.func20 rfl ok20_2_1
  have h2 := entsOk_ok (f := 20) Tryd.func20 rfl ok20_2_2
  have h3 := entsOk_ok (f := 20) Tryd.func20 rfl ok20_2_3
  have h4 := entsOk_ok (f := 20) Tryd.func20 rfl ok20_2_4
  have h5 := entsOk_ok (f := 20) Tryd.func20 rfl ok20_2_5
  have h6 := entsOk_ok (f := 20) Tryd.func20 rfl ok20_2_6
  have h7 := entsOk_ok (f := 20) Tryd.func20 rfl ok20_2_7
  intro e he
  have hs : tab20_2 = (tab20_2.drop 0).take 8 ++ ((tab20_2.drop 8).take 8 ++ ((tab20_2.drop 16).take 8 ++ ((tab20_2.drop 24).take 8 ++ ((tab20_2.drop 32).take 8 ++ ((tab20_2.drop 40).take 8 ++ ((tab20_2.drop 48).take 8 ++ ((tab20_2.drop 56).take 8))))))) := rfl
  rw [hs] at he
  simp only [List.mem_append] at he
  rcases he with h | h | h | h | h | h | h | h
  · exact h0 e h
  · exact h1 e h
  · exact h2 e h
  · exact h3 e h
  · exact h4 e h
  · exact h5 e h
  · exact h6 e h
  · exact h7 e h
end Go.Proofs.YtfohjnfdgegfcaaDoor
