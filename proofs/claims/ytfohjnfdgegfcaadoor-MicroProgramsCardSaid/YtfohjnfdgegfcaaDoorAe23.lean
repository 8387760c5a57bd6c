/-
  An abstract logic for the model (part 23): how frames and memories look, evaluated by functions. Conditions: none.
-/
import Derived.Test.YtfohjnfdgegfcaaDoorAe22
namespace Go.AE
open Go.RowKit
variable {P : Program}

/-- An answer, in the model's own words. -/
theorem EntIs.calls {f : FuncId} {e : Ent} (h : EntIs P f e) (hp : e.args.all plainS = true) (hv : plainS e.v = true) {W : World} (hg : Good W fun _ => False) :
    Calls P f ⟨e.args⟩ W fun x W' => x = .returned e.v ∧ Below W.heap.size W W' := by
  have hr : Rel P ⟨W, fun _ => False, hg⟩ [] [] W := ⟨rfl, fun j b gb hj => by simp at hj, fun i j bi bj gi gj _ hi => by simp at hi, fun _ _ _ => rfl, Nat.le_refl _, rfl, rfl, rfl⟩
  refine (h [] _ [] W e.args hr (F2.refl _ fun x hx => .s (SR.plain _ (List.all_eq_true.1 hp x hx)))).mono ?_
  rintro x W' ⟨v, v', m', g', rfl, ⟨rfl, rfl⟩, hr', hvr⟩
  have hpl : plainC e.v = true := by
    unfold plainC
    split
    · rename_i heq; rw [heq] at hv; cases hv
    · rfl
    · exact hv
  have he : (entO e []).1 = e.v := ren_plain _ hpl
  rw [he] at hvr
  rw [hvr.plain_eq hv]
  exact ⟨rfl, hr'.os, hr'.tape, hr'.output, hr'.size, fun k hk => hr'.frame k hk (fun h => h)⟩
end Go.AE
