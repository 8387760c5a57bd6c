/-
  What is known of opcode.Of and micro.one, as one oracle. Conditions: none.
-/
import Derived.Test.YtfohjnfdgegfcaaDoorTabA0
import Derived.Test.YtfohjnfdgegfcaaDoorTabA1
import Derived.Test.YtfohjnfdgegfcaaDoorTabA2
import Derived.Test.YtfohjnfdgegfcaaDoorTabA3
import Derived.Test.YtfohjnfdgegfcaaDoorTabC
namespace Go.Proofs.YtfohjnfdgegfcaaDoor
open Go Go.AE
set_option maxRecDepth 100000
def tab34 : List Ent := tab34_0 ++ (tab34_1 ++ (tab34_2 ++ tab34_3))
theorem ok34 : ∀ e ∈ tab34, EntIs Tryd.prog 34 e := by
  intro e he
  simp only [tab34, List.mem_append] at he
  rcases he with h | h | h | h
  · exact ok34_0 e h
  · exact ok34_1 e h
  · exact ok34_2 e h
  · exact ok34_3 e h
noncomputable def orc1 : Orc Tryd.prog := (shelfO.more 34 tab34 ok34).more 69 tab69 ok69
end Go.Proofs.YtfohjnfdgegfcaaDoor
