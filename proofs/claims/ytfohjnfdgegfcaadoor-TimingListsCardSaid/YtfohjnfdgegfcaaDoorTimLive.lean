/-
  The head that all laws of the layer 'timing' ask first: reckoned. Conditions: none.
-/
import Derived.Test.YtfohjnfdgegfcaaDoorTimBase
namespace Go.Proofs.YtfohjnfdgegfcaaDoor
open Go Go.AE
set_option maxRecDepth 100000
theorem ok21 : ∀ e ∈ [(⟨[], .bool true, []⟩ : Ent)], EntIs Tryd.prog 21 e := entsOk_ok (T := T) (O := orcT) (lf := 1000) (cf := 300) (n := 20) (c := codeOf Tryd.f21) Tryd.func21 rfl (by kernel_rfl)
end Go.Proofs.YtfohjnfdgegfcaaDoor
