/-
  An abstract logic for the model (part 24): how frames and memories look, evaluated by functions. Conditions: none.
-/
import Derived.Test.YtfohjnfdgegfcaaDoorAe23
namespace Go.AE
open Go.RowKit
variable {P : Program}

/-- What a function answers to a slice of a block that holds these cells, wherever the block lies; it leaves all as it was. -/
structure EntR where
  cells : List Value
  elem : TypeId
  n : Nat
  v : Value

def ReadIs (P : Program) (f : FuncId) (e : EntR) : Prop := ∀ (m : Mem) (j : Nat) (b : ABlk), m[j]? = some (some b) → b.cells = e.cells → b.elem = e.elem → ACall P f [.slice (some ⟨j, 0, none⟩) e.n e.n] m fun v m' => v = e.v ∧ m' = m

noncomputable def readOk (T : Tab P) (O : Orc P) (lf cf n : Nat) (fn : Func) (c : Code) (e : EntR) : Bool :=
  forceM [some ⟨e.cells, e.elem, false, false⟩] fun m0 => match evF (runO T O lf cf n) T cf c fn.ntmps fn.results.toList [.slice (some ⟨0, 0, none⟩) e.n e.n] m0 (fun v m' => some (gcR m0.length v m')) with
  | some (v, m') => qV v e.v && eqMem m' [⟨e.cells, e.elem, false, false⟩] && e.cells.all plainS && plainS e.v
  | none => false

theorem lowS_plain {v : Value} (h : plainS v = true) (n : Nat) : lowS n v = true := by
  unfold plainS at h
  split at h <;> first | rfl | cases h

theorem readOk_ok {T : Tab P} {O : Orc P} {lf cf n : Nat} {f : FuncId} {fn : Func} {c : Code} {e : EntR} (hf : P.funcs[f]? = some fn) (hb : fn.body = some c) (h : readOk T O lf cf n fn c e = true) : ReadIs P f e := by
  intro m j b hj hcells helem
  unfold readOk at h
  rw [forceM_eq] at h
  split at h
  · rename_i v m' hev
    simp only [Bool.and_eq_true] at h
    obtain ⟨⟨⟨h1, h2⟩, h3⟩, h4⟩ := h
    have hv := qV_eq h1
    have hm := eqMem_eq h2
    have hrun := ACall.of_run (O := O) hf hb hev
    have hjl : j < m.length := by
      rcases Nat.lt_or_ge j m.length with h' | h'
      · exact h'
      · rw [List.getElem?_eq_none h'] at hj; cases hj
    have hren : ∀ ρ : Nat → Nat, e.cells.map (renS ρ) = e.cells := fun ρ => by
      conv => rhs; rw [← List.map_id e.cells]
      exact List.map_congr_left fun x hx => renS_plain ρ (List.all_eq_true.1 h3 x hx)
    have hsh : Shows m [j] [some ⟨e.cells, e.elem, false, false⟩] := by
      refine ⟨rfl, fun i b0 hb0 => ?_⟩
      cases i with
      | succ i => simp at hb0
      | zero =>
        simp only [List.getElem?_cons_zero, Option.some.injEq] at hb0
        subst hb0
        exact ⟨j, b, rfl, hj, by rw [hcells]; exact (hren _).symm, helem, fun h => (by cases h), rfl, List.all_eq_true.2 fun x hx => lowS_plain (List.all_eq_true.1 h3 x hx) _⟩
    have := ACall.frame (K := fun v' nb => v' = v ∧ nb = []) (hrun.mono fun v' m'' ⟨h1, h2⟩ => ⟨[], by rw [h2, hm]; rfl, rfl, h1, rfl⟩) m [j] hsh (fun j' hj' => by simp at hj'; omega) rfl
    refine this.mono ?_
    rintro v' m'' ⟨v0, nb, ⟨rfl, hnb⟩, rfl, rfl⟩
    have hnb' : nb = [] := by simpa using hnb
    subst hnb'
    have hpl : plainC e.v = true := by
      unfold plainC
      split
      · rename_i heq; rw [heq] at h4; cases h4
      · rfl
      · exact h4
    rw [hv]
    exact ⟨ren_plain _ hpl, by simp⟩
  · cases h
end Go.AE
