/-
  strings.Split as the executor sees it; the contracts that the laws on traces use. Conditions: those of the library's contract.
-/
import Derived.Test.YtciemdpcllpdkaaDoorBkw
import Derived.Test.YtciemdpcllpdkaaDoorShelfB
set_option linter.unusedSectionVars false
set_option linter.unusedVariables false
set_option linter.unusedSimpArgs false
namespace Go.Proofs.YtciemdpcllpdkaaDoor
open Go Go.AE Go.SX Go.RowKit Go.Shelf
set_option maxRecDepth 1000000
def splitL (s sep : List UInt8) : List (List UInt8) := (Lib.splitB ⟨⟨sep⟩⟩ 0 (Lib.countB ⟨⟨s⟩⟩ ⟨⟨sep⟩⟩) ⟨⟨s⟩⟩).map (·.data.toList)
section
variable [Fam]
def conSplit : ConF := fun _ args m => match args with
  | [.a (.s (.z (.s (.s s)))), .a (.s (.z (.s (.s sep))))] => bif Nat.blt s.length 4294967281 && (Nat.blt 0 sep.length && Nat.beq (splitL s sep).length (Lib.countB ⟨⟨s⟩⟩ ⟨⟨sep⟩⟩ + 1)) then
      some ([], .z (.sl m.length (.i 0) 0 0 (.i ((splitL s sep).length : Nat)) (.i ((splitL s sep).length : Nat))), m ++ [some ⟨.cs ((splitL s sep).map fun l => .z (.s (.s l))), 9, true, true⟩]) else none
  | _ => none
theorem conSplit_ok : Con Tryd.prog 29 conSplit := by
  intro g args m ns v m' e hf hg hn
  unfold conSplit at hf
  split at hf
  case h_2 => cases hf
  rename_i s sep
  cases hq : Nat.blt s.length 4294967281 && (Nat.blt 0 sep.length && Nat.beq (splitL s sep).length (Lib.countB ⟨⟨s⟩⟩ ⟨⟨sep⟩⟩ + 1)) with
  | false => rw [hq] at hf; cases hf
  | true =>
  rw [hq] at hf
  cases hf
  simp only [Bool.and_eq_true, Nat.blt_eq] at hq
  obtain ⟨h1, h2, h3⟩ := hq
  have h3 := Nat.eq_of_beq_eq_true h3
  intro cx g' W args' hr ha
  cases ha with | cons a1 a2 => cases a2 with | cons a2 a3 => cases a3 with
  | nil =>
  rename_i y1 y2
  obtain rfl := VR.plain_eq (v := .string _) rfl a1
  obtain rfl := VR.plain_eq (v := .string _) rfl a2
  obtain ⟨_, n, hn⟩ := hr.good
  refine (Tryd.strings_Split ⟨⟨s⟩⟩ ⟨⟨sep⟩⟩ n W (by show s.length < _; exact h1) hn (by show 1 ≤ sep.length; exact h2)).mono ?_
  rintro e' W' ⟨rfl, rfl⟩
  have hcells : F2 (SR g') (((splitL s sep).map fun l => (SS.z (.s (.s l)) : SS)).map (SS.den e)) ((Lib.splitB ⟨⟨sep⟩⟩ 0 (Lib.countB ⟨⟨s⟩⟩ ⟨⟨sep⟩⟩) ⟨⟨s⟩⟩).map Value.string) := by
    unfold splitL
    rw [List.map_map, List.map_map]
    have : ∀ L : List ByteArray, F2 (SR g') (L.map ((SS.den e ∘ fun l => SS.z (.s (.s l))) ∘ fun b : ByteArray => b.data.toList)) (L.map Value.string) := fun L => by
      induction L with
      | nil => exact .nil
      | cons b L ih => exact .cons (.str _) ih
    exact this _
  have hr2 := hr.newRow hcells 9
  refine ⟨_, _, denM e (m ++ [some ⟨.cs ((splitL s sep).map fun l => .z (.s (.s l))), 9, true, true⟩]), [some ⟨W.heap.size, 0, 0⟩], rfl, ⟨rfl, rfl⟩, ?_, ?_⟩
  · rw [denM_app]
    exact hr2
  · have hl : (g' ++ [some (⟨W.heap.size, 0, 0⟩ : GB)])[m.length]? = some (some ⟨W.heap.size, 0, 0⟩) := by
      have := last_app (x := some (⟨W.heap.size, 0, 0⟩ : GB)) hr.len
      rwa [denM_len] at this
    have := SR.slice (g := g' ++ [some (⟨W.heap.size, 0, 0⟩ : GB)]) m.length 0 (splitL s sep).length (splitL s sep).length ⟨W.heap.size, 0, 0⟩ hl
    rw [h3] at this
    refine .s ?_
    show SR _ (.slice (some ⟨m.length, 0, none⟩) (((splitL s sep).length : Nat) : Int).toNat (((splitL s sep).length : Nat) : Int).toNat) _
    rw [Int.toNat_natCast, h3]
    exact this
end
end Go.Proofs.YtciemdpcllpdkaaDoor
