/-
  The law OpcodeTells at every byte. Conditions: none.
-/
import Derived.Test.YtfohjnfdgegfcaaDoorOpHead
import Derived.Test.YtfohjnfdgegfcaaDoorLogI
namespace Go.Proofs.YtfohjnfdgegfcaaDoor
open Go Go.AE
set_option maxRecDepth 100000
set_option linter.unusedSimpArgs false
set_option maxHeartbeats 1000000
theorem f8 (b md z c : Nat) (kn : Bool) (nm : List UInt8)
    (h33 : ∀ m, ACall Tryd.prog 33 [] m fun v m' => v = .bool true ∧ m' = m)
    (h34 : ∀ m, ACall Tryd.prog 34 [By b] m fun v m' => v = .agg ⟨[S nm, By md, In z, In c]⟩ ∧ m' = m)
    (h20 : ∀ m, ACall Tryd.prog 20 [By b] m fun v m' => v = .agg ⟨[S nm, By md, In z, In c, .bool kn]⟩ ∧ m' = m)
    (h35 : ∀ m, ACall Tryd.prog 35 [By b] m fun v m' => v = .bool kn ∧ m' = m) :
    ACall Tryd.prog 8 [By b] [] fun v _ => v = .bool true := by
  refine ACall.of_evR T 100 Tryd.func8 rfl ?_
  refine (h33 _).mono ?_
  rintro v m' ⟨rfl, rfl⟩
  refine br_f rfl ?_
  refine (h34 _).mono ?_
  rintro v m' ⟨rfl, rfl⟩
  refine (h20 _).mono ?_
  rintro v m' ⟨rfl, rfl⟩
  refine And.intro rfl (And.intro rfl ?_)
  refine And.intro (by kernel_rfl) ?_
  repeat (first | refine br_t (by simp; done) ?_ | refine And.intro rfl ?_ | refine Exists.intro _ (And.intro rfl ?_))
  refine Exists.intro _ (Exists.intro none (And.intro ((h35 _).mono fun v' m' h => ⟨h.1, by rw [h.2]; simp⟩) ?_))
  repeat (first | refine br_t (by simp; done) ?_ | refine And.intro rfl ?_ | refine Exists.intro _ (And.intro rfl ?_))
  simp
theorem all8 (b : Nat) (hb : b < 256) : ACall Tryd.prog 8 [By b] [] fun v _ => v = .bool true := by
  have z : ∀ {f : FuncId} {aa : List Value} {v : Value}, EntIs Tryd.prog f ⟨aa, v, []⟩ → plainC v = true → ∀ m, ACall Tryd.prog f aa m fun x m' => x = v ∧ m' = m := fun h hv m => (h m).mono fun x m' ⟨h1, h2⟩ => ⟨by rw [h1]; exact ren_plain _ hv, by rw [h2]; show m ++ [] = m; simp⟩
  exact f8 b (opR b).mode (opR b).size (opR b).cycles (opR b).known (opR b).name (z (ok33 _ List.mem_cons_self) rfl) (z (of34 b hb) rfl) (z (of20 b hb) rfl) (z (of35 b hb) rfl)
end Go.Proofs.YtfohjnfdgegfcaaDoor
