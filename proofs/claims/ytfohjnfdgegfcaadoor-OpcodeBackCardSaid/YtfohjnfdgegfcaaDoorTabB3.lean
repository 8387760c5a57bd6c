/-
  gannetref23.Of of the bytes 192 to 255. Conditions: none.
-/
import Derived.Test.YtfohjnfdgegfcaaDoorTabBase
namespace Go.Proofs.YtfohjnfdgegfcaaDoor
open Go Go.AE
set_option maxRecDepth 100000
def tab20_3 : List Ent := [
  o20 192 [67, 80, 89] 1 2 2 true,
  o20 193 [67, 77, 80] 9 2 7 true,
  o20 194 [67, 76, 89] 0 1 2 true,
  o20 195 [84, 68, 68] 19 7 17 true,
  o20 196 [67, 80, 89] 2 2 4 true,
  o20 197 [67, 77, 80] 2 2 4 true,
  o20 198 [68, 69, 67] 2 2 6 true,
  o20 199 [83, 77, 66, 52] 2 2 7 true,
  o20 200 [73, 78, 89] 0 1 2 true,
  o20 201 [67, 77, 80] 1 2 2 true,
  o20 202 [68, 69, 88] 0 1 2 true,
  o20 203 [78, 79, 80] 0 1 2 false,
  o20 204 [67, 80, 89] 5 3 5 true,
  o20 205 [67, 77, 80] 5 3 5 true,
  o20 206 [68, 69, 67] 5 3 7 true,
  o20 207 [66, 66, 83, 52] 12 3 6 true,
  o20 208 [66, 78, 69] 11 2 2 true,
  o20 209 [67, 77, 80] 10 2 7 true,
  o20 210 [67, 77, 80] 8 2 7 true,
  o20 211 [84, 73, 78] 19 7 17 true,
  o20 212 [67, 83, 72] 0 1 3 true,
  o20 213 [67, 77, 80] 3 2 4 true,
  o20 214 [68, 69, 67] 3 2 6 true,
  o20 215 [83, 77, 66, 53] 2 2 7 true,
  o20 216 [67, 76, 68] 0 1 2 true,
  o20 217 [67, 77, 80] 7 3 5 true,
  o20 218 [80, 72, 88] 0 1 3 true,
  o20 219 [78, 79, 80] 0 1 2 false,
  o20 220 [78, 79, 80] 0 1 2 false,
  o20 221 [67, 77, 80] 6 3 5 true,
  o20 222 [68, 69, 67] 6 3 7 true,
  o20 223 [66, 66, 83, 53] 12 3 6 true,
  o20 224 [67, 80, 88] 1 2 2 true,
  o20 225 [83, 66, 67] 9 2 7 true,
  o20 226 [78, 79, 80] 0 1 2 false,
  o20 227 [84, 73, 65] 19 7 17 true,
  o20 228 [67, 80, 88] 2 2 4 true,
  o20 229 [83, 66, 67] 2 2 4 true,
  o20 230 [73, 78, 67] 2 2 6 true,
  o20 231 [83, 77, 66, 54] 2 2 7 true,
  o20 232 [73, 78, 88] 0 1 2 true,
  o20 233 [83, 66, 67] 1 2 2 true,
  o20 234 [78, 79, 80] 0 1 2 true,
  o20 235 [78, 79, 80] 0 1 2 false,
  o20 236 [67, 80, 88] 5 3 5 true,
  o20 237 [83, 66, 67] 5 3 5 true,
  o20 238 [73, 78, 67] 5 3 7 true,
  o20 239 [66, 66, 83, 54] 12 3 6 true,
  o20 240 [66, 69, 81] 11 2 2 true,
  o20 241 [83, 66, 67] 10 2 7 true,
  o20 242 [83, 66, 67] 8 2 7 true,
  o20 243 [84, 65, 73] 19 7 17 true,
  o20 244 [83, 69, 84] 0 1 2 true,
  o20 245 [83, 66, 67] 3 2 4 true,
  o20 246 [73, 78, 67] 3 2 6 true,
  o20 247 [83, 77, 66, 55] 2 2 7 true,
  o20 248 [83, 69, 68] 0 1 2 true,
  o20 249 [83, 66, 67] 7 3 5 true,
  o20 250 [80, 76, 88] 0 1 4 true,
  o20 251 [78, 79, 80] 0 1 2 false,
  o20 252 [78, 79, 80] 0 1 2 false,
  o20 253 [83, 66, 67] 6 3 5 true,
  o20 254 [73, 78, 67] 6 3 7 true,
  o20 255 [66, 66, 83, 55] 12 3 6 true]
theorem ok20_3_0 : entsOk T shelfO 1000 300 20 Tryd.f20 (codeOf Tryd.f20) ((tab20_3.drop 0).take 8) = true := by kernel_rfl
theorem ok20_3_1 : entsOk T shelfO 1000 300 20 Tryd.f20 (codeOf Tryd.f20) ((tab20_3.drop 8).take 8) = true := by kernel_rfl
theorem ok20_3_2 : entsOk T shelfO 1000 300 20 Tryd.f20 (codeOf Tryd.f20) ((tab20_3.drop 16).take 8) = true := by kernel_rfl
theorem ok20_3_3 : entsOk T shelfO 1000 300 20 Tryd.f20 (codeOf Tryd.f20) ((tab20_3.drop 24).take 8) = true := by kernel_rfl
theorem ok20_3_4 : entsOk T shelfO 1000 300 20 Tryd.f20 (codeOf Tryd.f20) ((tab20_3.drop 32).take 8) = true := by kernel_rfl
theorem ok20_3_5 : entsOk T shelfO 1000 300 20 Tryd.f20 (codeOf Tryd.f20) ((tab20_3.drop 40).take 8) = true := by kernel_rfl
theorem ok20_3_6 : entsOk T shelfO 1000 300 20 Tryd.f20 (codeOf Tryd.f20) ((tab20_3.drop 48).take 8) = true := by kernel_rfl
theorem ok20_3_7 : entsOk T shelfO 1000 300 20 Tryd.f20 (codeOf Tryd.f20) ((tab20_3.drop 56).take 8) = true := by kernel_rfl
theorem ok20_3 : ∀ e ∈ tab20_3, EntIs Tryd.prog 20 e := by
  have h0 := entsOk_ok (f := 20) Tryd.func20 rfl ok20_3_0
  have h1 := entsOk_ok (f := 20) Tryd.func20 rfl ok20_3_1
  have h2 := entsOk_ok (f := 20) Tryd.func20 rfl ok20_3_2
  have h3 := entsOk_ok (f := 20) Tryd.func20 rfl ok20_3_3
  have h4 := entsOk_ok (f := 20) Tryd.func20 rfl ok20_3_4
  have h5 := entsOk_ok (f := 20) Tryd.func20 rfl ok20_3_5
  have h6 := entsOk_ok (f := 20) Tryd.func20 rfl ok20_3_6
  have h7 := entsOk_ok (f := 20) Tryd.func20 rfl ok20_3_7
  intro e he
  have hs : tab20_3 = (tab20_3.drop 0).take 8 ++ ((tab20_3.drop 8).take 8 ++ ((tab20_3.drop 16).take 8 ++ ((tab20_3.drop 24).take 8 ++ ((tab20_3.drop 32).take 8 ++ ((tab20_3.drop 40).take 8 ++ ((tab20_3.drop 48).take 8 ++ ((tab20_3.drop 56).take 8))))))) := rfl
  rw [hs] at he
  simp only [List.mem_append] at he
  rcases he with h | h | h | h | h | h | h | h
  · exact h0 e h
  · exact h1 e h
  · exact h2 e h
  · exact h3 e h
  · exact h4 e h
  · exact h5 e h
  · exact h6 e h
  · exact h7 e h
end Go.Proofs.YtfohjnfdgegfcaaDoor
