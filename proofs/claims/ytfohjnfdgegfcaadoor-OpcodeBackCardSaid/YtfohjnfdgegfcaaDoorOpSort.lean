/-
  The library's sort and compaction of bytes, at given lists: reckoned. Conditions: none.
-/
import Derived.Test.YtfohjnfdgegfcaaDoorOpModes
namespace Go.Proofs.YtfohjnfdgegfcaaDoor
open Go Go.AE
set_option maxRecDepth 100000

/-- What a function makes of a slice of a block that may be written: reckoned. -/
noncomputable def rowOk (f : Func) (L L1 : List Nat) (v : Value) : Bool :=
  forceM [some ⟨L.map By, 5, true, false⟩] fun m0 => match evF (runO T shelfO 1000 300 20) T 300 (codeOf f) f.ntmps f.results.toList [.slice (some ⟨0, 0, none⟩) L.length L.length] m0 (fun v m' => some (gcR m0.length v m')) with
  | some (x, m') => qV x v && eqMem m' [⟨L1.map By, 5, true, false⟩]
  | none => false
theorem rowOk_ok {f : FuncId} {fn : Func} {L L1 : List Nat} {v : Value} (hf : Tryd.prog.funcs[f]? = some fn) (hb : fn.body = some (codeOf fn)) (h : rowOk fn L L1 v = true) :
    ACall Tryd.prog f [.slice (some ⟨0, 0, none⟩) L.length L.length] [some ⟨L.map By, 5, true, false⟩] fun x m' => x = v ∧ m' = [some ⟨L1.map By, 5, true, false⟩] := by
  unfold rowOk at h
  rw [forceM_eq] at h
  split at h
  · rename_i x m' hev
    simp only [Bool.and_eq_true] at h
    have hv := qV_eq h.1
    have hm := eqMem_eq h.2
    refine (ACall.of_run (O := shelfO) (m := [some ⟨L.map By, 5, true, false⟩]) hf hb hev).mono ?_
    rintro x' m'' ⟨rfl, rfl⟩
    exact ⟨hv, hm⟩
  · cases h
theorem t1 : rowOk Tryd.f63 [2, 3, 5, 6] [2, 3, 5, 6] (.tuple ⟨[]⟩) = true := by kernel_rfl
theorem t2 : rowOk Tryd.f64 [2, 3, 5, 6] [2, 3, 5, 6] (.slice (some ⟨0, 0, none⟩) 4 4) = true := by kernel_rfl
end Go.Proofs.YtfohjnfdgegfcaaDoor
