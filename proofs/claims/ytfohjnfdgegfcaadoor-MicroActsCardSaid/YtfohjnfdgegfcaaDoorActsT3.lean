/-
  MicroActs of the bytes 192 to 255. Conditions: none.
-/
import Derived.Test.YtfohjnfdgegfcaaDoorTabF
namespace Go.Proofs.YtfohjnfdgegfcaaDoor
open Go Go.AE
set_option maxRecDepth 100000
def tab4_3 : List Ent := (List.range 64).flatMap fun b => [⟨[By (192 + b), .bool false], .bool true, []⟩, ⟨[By (192 + b), .bool true], .bool true, []⟩]
theorem ok4_3_0 : entsOk T orc3 1000 300 20 Tryd.f4 (codeOf Tryd.f4) ((tab4_3.drop 0).take 8) = true := by kernel_rfl
theorem ok4_3_1 : entsOk T orc3 1000 300 20 Tryd.f4 (codeOf Tryd.f4) ((tab4_3.drop 8).take 8) = true := by kernel_rfl
theorem ok4_3_2 : entsOk T orc3 1000 300 20 Tryd.f4 (codeOf Tryd.f4) ((tab4_3.drop 16).take 8) = true := by kernel_rfl
theorem ok4_3_3 : entsOk T orc3 1000 300 20 Tryd.f4 (codeOf Tryd.f4) ((tab4_3.drop 24).take 8) = true := by kernel_rfl
theorem ok4_3_4 : entsOk T orc3 1000 300 20 Tryd.f4 (codeOf Tryd.f4) ((tab4_3.drop 32).take 8) = true := by kernel_rfl
theorem ok4_3_5 : entsOk T orc3 1000 300 20 Tryd.f4 (codeOf Tryd.f4) ((tab4_3.drop 40).take 8) = true := by kernel_rfl
theorem ok4_3_6 : entsOk T orc3 1000 300 20 Tryd.f4 (codeOf Tryd.f4) ((tab4_3.drop 48).take 8) = true := by kernel_rfl
theorem ok4_3_7 : entsOk T orc3 1000 300 20 Tryd.f4 (codeOf Tryd.f4) ((tab4_3.drop 56).take 8) = true := by kernel_rfl
theorem ok4_3_8 : entsOk T orc3 1000 300 20 Tryd.f4 (codeOf Tryd.f4) ((tab4_3.drop 64).take 8) = true := by kernel_rfl
theorem ok4_3_9 : entsOk T orc3 1000 300 20 Tryd.f4 (codeOf Tryd.f4) ((tab4_3.drop 72).take 8) = true := by kernel_rfl
theorem ok4_3_10 : entsOk T orc3 1000 300 20 Tryd.f4 (codeOf Tryd.f4) ((tab4_3.drop 80).take 8) = true := by kernel_rfl
theorem ok4_3_11 : entsOk T orc3 1000 300 20 Tryd.f4 (codeOf Tryd.f4) ((tab4_3.drop 88).take 8) = true := by kernel_rfl
theorem ok4_3_12 : entsOk T orc3 1000 300 20 Tryd.f4 (codeOf Tryd.f4) ((tab4_3.drop 96).take 8) = true := by kernel_rfl
theorem ok4_3_13 : entsOk T orc3 1000 300 20 Tryd.f4 (codeOf Tryd.f4) ((tab4_3.drop 104).take 8) = true := by kernel_rfl
theorem ok4_3_14 : entsOk T orc3 1000 300 20 Tryd.f4 (codeOf Tryd.f4) ((tab4_3.drop 112).take 8) = true := by kernel_rfl
theorem ok4_3_15 : entsOk T orc3 1000 300 20 Tryd.f4 (codeOf Tryd.f4) ((tab4_3.drop 120).take 8) = true := by kernel_rfl
theorem ok4_3 : ∀ e ∈ tab4_3, EntIs Tryd.prog 4 e := by
  have h0 := entsOk_ok (f := 4) Tryd.func4 rfl ok4_3_0
  have h1 := entsOk_ok (f := 4) Tryd.func4 rfl ok4_3_1
  have h2 := entsOk_ok (f := 4) Tryd.func4 rfl ok4_3_2
  have h3 := entsOk_ok (f := 4) Tryd.func4 rfl ok4_3_3
  have h4 := entsOk_ok (f := 4) Tryd.func4 rfl ok4_3_4
  have h5 := entsOk_ok (f := 4) Tryd.func4 rfl ok4_3_5
  have h6 := entsOk_ok (f := 4) Tryd.func4 rfl ok4_3_6
  have h7 := entsOk_ok (f := 4) Tryd.func4 rfl ok4_3_7
  have h8 := entsOk_ok (f := 4) Tryd.func4 rfl ok4_3_8
  have h9 := entsOk_ok (f := 4) Tryd.func4 rfl ok4_3_9
  have h10 := entsOk_ok (f := 4) Tryd.func4 rfl ok4_3_10
  have h11 := entsOk_ok (f := 4) Tryd.func4 rfl ok4_3_11
  have h12 := entsOk_ok (f := 4) Tryd.func4 rfl ok4_3_12
  have h13 := entsOk_ok (f := 4) Tryd.func4 rfl ok4_3_13
  have h14 := entsOk_ok (f := 4) Tryd.func4 rfl ok4_3_14
  have h15 := entsOk_ok (f := 4) Tryd.func4 rfl ok4_3_15
  intro e he
  have hs : tab4_3 = (tab4_3.drop 0).take 8 ++ ((tab4_3.drop 8).take 8 ++ ((tab4_3.drop 16).take 8 ++ ((tab4_3.drop 24).take 8 ++ ((tab4_3.drop 32).take 8 ++ ((tab4_3.drop 40).take 8 ++ ((tab4_3.drop 48).take 8 ++ ((tab4_3.drop 56).take 8 ++ ((tab4_3.drop 64).take 8 ++ ((tab4_3.drop 72).take 8 ++ ((tab4_3.drop 80).take 8 ++ ((tab4_3.drop 88).take 8 ++ ((tab4_3.drop 96).take 8 ++ ((tab4_3.drop 104).take 8 ++ ((tab4_3.drop 112).take 8 ++ ((tab4_3.drop 120).take 8))))))))))))))) := rfl
  rw [hs] at he
  simp only [List.mem_append] at he
  rcases he with h | h | h | h | h | h | h | h | h | h | h | h | h | h | h | h
  · exact h0 e h
  · exact h1 e h
  · exact h2 e h
  · exact h3 e h
  · exact h4 e h
  · exact h5 e h
  · exact h6 e h
  · exact h7 e h
  · exact h8 e h
  · exact h9 e h
  · exact h10 e h
  · exact h11 e h
  · exact h12 e h
  · exact h13 e h
  · exact h14 e h
  · exact h15 e h
end Go.Proofs.YtfohjnfdgegfcaaDoor
