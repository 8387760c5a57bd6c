/-
  How long a slice among the arguments can be. Conditions: none.
-/
import Derived.Test.YtnibdhcfkjmnaaaGreatLog10
import Derived.SizedLaws
namespace Go.Proofs.YtnibdhcfkjmnaaaGreat
open Go Go.AE Go.SX Go.ChangeShapes Go.RowKit
variable {P : Program} {H : Type} {enc : TypeId × Value → H} {w : World} {base : Nat} {sp : Nat → Bool} {hd : Bool}
theorem trod_is_slice {fuel : Nat} {t : TypeId} {cs : List Value} {el el' : List (DataW H)} {ps : List MemPlace} (h : DataW.trod enc P w base sp hd fuel t cs = some (.slice el el', ps)) : ∃ e, P.underlying t = some (.slice e) := by
  cases fuel with
  | zero => simp [DataW.trod] at h
  | succ n =>
    unfold DataW.trod at h
    split at h
    all_goals first
      | exact ⟨_, ‹P.underlying t = some (.slice _)›⟩
      | (exfalso; simp at h; done)
      | (exfalso; split at h <;> simp at h; done)
      | (exfalso; split at h <;> split at h <;> simp at h; done)
      | (exfalso; simp only [Option.map_eq_some_iff, Option.bind_eq_some_iff, Prod.mk.injEq] at h; obtain ⟨x, _, h, _⟩ := h; cases h; done)
      | skip
    · exfalso
      split at h
      · split at h
        · obtain ⟨x, _, h⟩ := Option.bind_eq_some_iff.1 h
          dsimp only at h; split at h <;> simp at h
        · cases h
      · cases h
theorem sized_all : ∀ {ts : List TypeId} {args : List Value} {ds : List (DataW H)} {ps : List MemPlace}, DataW.TrodAll enc P w base sp hd ts args ds ps → ∀ {j : Nat} {el el' : List (DataW H)}, ds[j]? = some (.slice el el') → ∃ t e, ts[j]? = some t ∧ P.underlying t = some (.slice e)
  | [], [], [], _, _, j, el, el', h => by simp at h
  | t :: ts, v :: vs, d :: ds, ps, hT, j, el, el', h => by
    obtain ⟨p, q, ⟨fuel, h1⟩, h2, _⟩ := hT
    cases j with
    | zero =>
      simp at h
      subst h
      obtain ⟨e, he⟩ := trod_is_slice h1
      exact ⟨t, e, rfl, he⟩
    | succ j => exact sized_all h2 (by simpa using h)
  | [], _ :: _, _, _, hT, _, _, _, _ => by cases hT
  | [], [], _ :: _, _, hT, _, _, _, _ => by cases hT
  | _ :: _, [], _, _, hT, _, _, _, _ => by cases hT
  | _ :: _, _ :: _, [], _, hT, _, _, _, _ => by cases hT
def widthOk (P : Program) (ts : List TypeId) : Bool := ts.all fun t => match P.underlying t with
  | some (.slice e) => Nat.ble 1 (P.bytesOf e)
  | _ => true
theorem sized_of {ts : List TypeId} {args : List Value} {ds : List (DataW H)} {ps : List MemPlace} (hT : DataW.TrodAll enc P w base sp hd ts args ds ps) (hw : (DataW.weightsEach P ts ds).all (· ≤ reachBytes) = true) (hb : widthOk P ts = true) : ∀ x ∈ ds, Sized 140737488351232 x := by
  intro x hx
  refine ⟨by decide, fun el el' he => ?_⟩
  subst he
  obtain ⟨j, hj⟩ := List.getElem?_of_mem hx
  obtain ⟨t, e, ht, hu⟩ := sized_all hT hj
  have h1 := sized_slice hw ht hj hu
  have h2 := List.all_eq_true.1 hb t (List.mem_of_getElem? ht)
  rw [hu] at h2
  have h2 := Nat.le_of_ble_eq_true h2
  have h3 : reachBytes = 140737488351232 := by decide
  have h4 : el.length + el'.length ≤ (el.length + el'.length) * P.bytesOf e := Nat.le_mul_of_pos_right _ h2
  omega
end Go.Proofs.YtnibdhcfkjmnaaaGreat
