/-
  What is known of micro.Of and gannetref23.Of, and what stands ahead of each law of layer 30. Conditions: none.
-/
import Derived.Test.YtfohjnfdgegfcaaDoorTabB0
import Derived.Test.YtfohjnfdgegfcaaDoorTabB1
import Derived.Test.YtfohjnfdgegfcaaDoorTabB2
import Derived.Test.YtfohjnfdgegfcaaDoorTabB3
import Derived.Test.YtfohjnfdgegfcaaDoorTabE0
import Derived.Test.YtfohjnfdgegfcaaDoorTabE1
import Derived.Test.YtfohjnfdgegfcaaDoorTabE2
import Derived.Test.YtfohjnfdgegfcaaDoorTabE3
namespace Go.Proofs.YtfohjnfdgegfcaaDoor
open Go Go.AE
set_option maxRecDepth 100000
def tab20 : List Ent := tab20_0 ++ (tab20_1 ++ (tab20_2 ++ tab20_3))
theorem ok20 : ∀ e ∈ tab20, EntIs Tryd.prog 20 e := by
  intro e he
  simp only [tab20, List.mem_append] at he
  rcases he with h | h | h | h
  · exact ok20_0 e h
  · exact ok20_1 e h
  · exact ok20_2 e h
  · exact ok20_3 e h
def tab16 : List Ent := tab16_0 ++ (tab16_1 ++ (tab16_2 ++ tab16_3))
theorem ok16 : ∀ e ∈ tab16, EntIs Tryd.prog 16 e := by
  intro e he
  simp only [tab16, List.mem_append] at he
  rcases he with h | h | h | h
  · exact ok16_0 e h
  · exact ok16_1 e h
  · exact ok16_2 e h
  · exact ok16_3 e h
noncomputable def orc2 : Orc Tryd.prog := (orc1.more 20 tab20 ok20).more 16 tab16 ok16
def tab14 : List Ent := [⟨[], .bool true, []⟩]
theorem ok14 : ∀ e ∈ tab14, EntIs Tryd.prog 14 e := entsOk_ok (T := T) (O := orc2) (lf := 1000) (cf := 300) (n := 20) (c := codeOf Tryd.f14) Tryd.func14 rfl (by kernel_rfl)
noncomputable def orc3 : Orc Tryd.prog := orc2.more 14 tab14 ok14
end Go.Proofs.YtfohjnfdgegfcaaDoor
