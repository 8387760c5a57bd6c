/-
  A call met at plain arguments, in the model's own words. Conditions: none.
-/
import Derived.Test.YtfohjnfdgegfcaaDoorLogF
import Derived.Test.YtfohjnfdgegfcaaDoorTabBase
namespace Go.Proofs.YtfohjnfdgegfcaaDoor
open Go Go.RowKit
theorem metO {f : FuncId} {aa : List Value} {v : Value} (h : Go.AE.ACall Tryd.prog f aa [] fun x _ => x = v) (hp : aa.all Go.AE.plainC = true) (hv : Go.AE.plainS v = true) {W : World} (hg : Go.AE.Good W fun _ => False) :
    Calls Tryd.prog f ⟨aa⟩ W fun x W' => x = .returned v ∧ Below W.heap.size W W' := by
  have hr : Go.AE.Rel Tryd.prog ⟨W, fun _ => False, hg⟩ [] [] W := ⟨rfl, fun j b gb hj => by simp at hj, fun i j bi bj gi gj _ hi => by simp at hi, fun _ _ _ => rfl, Nat.le_refl _, rfl, rfl, rfl⟩
  refine (h _ [] W aa hr (Go.AE.F2.refl _ fun x hx => Go.AE.VR.plain _ (List.all_eq_true.1 hp x hx))).mono ?_
  rintro x W' ⟨u, v', m', g', rfl, rfl, hr', hvr⟩
  rw [hvr.plain_eq hv]
  exact ⟨rfl, hr'.os, hr'.tape, hr'.output, hr'.size, fun k hk => hr'.frame k hk (fun h => h)⟩
end Go.Proofs.YtfohjnfdgegfcaaDoor
