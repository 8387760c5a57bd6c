/-
  What opcode.Names answers; what the laws of the layer ask first. Conditions: none.
-/
import Derived.Test.YtfohjnfdgegfcaaDoorOpNames
import Derived.Test.YtfohjnfdgegfcaaDoorOpSort
import Derived.Sort.KeysCollected
namespace Go.Proofs.YtfohjnfdgegfcaaDoor
open Go Go.AE Go.RowKit Go.Shelf
set_option maxRecDepth 100000
set_option linter.unusedSimpArgs false
/-- The names of all known bytes, sorted. -/
def sortedN : List (List UInt8) := [
  [65, 68, 67],
  [65, 68, 67],
  [65, 68, 67],
  [65, 68, 67],
  [65, 68, 67],
  [65, 68, 67],
  [65, 68, 67],
  [65, 68, 67],
  [65, 68, 67],
  [65, 78, 68],
  [65, 78, 68],
  [65, 78, 68],
  [65, 78, 68],
  [65, 78, 68],
  [65, 78, 68],
  [65, 78, 68],
  [65, 78, 68],
  [65, 78, 68],
  [65, 83, 76],
  [65, 83, 76],
  [65, 83, 76],
  [65, 83, 76],
  [65, 83, 76],
  [66, 66, 82, 48],
  [66, 66, 82, 49],
  [66, 66, 82, 50],
  [66, 66, 82, 51],
  [66, 66, 82, 52],
  [66, 66, 82, 53],
  [66, 66, 82, 54],
  [66, 66, 82, 55],
  [66, 66, 83, 48],
  [66, 66, 83, 49],
  [66, 66, 83, 50],
  [66, 66, 83, 51],
  [66, 66, 83, 52],
  [66, 66, 83, 53],
  [66, 66, 83, 54],
  [66, 66, 83, 55],
  [66, 67, 67],
  [66, 67, 83],
  [66, 69, 81],
  [66, 73, 84],
  [66, 73, 84],
  [66, 73, 84],
  [66, 73, 84],
  [66, 73, 84],
  [66, 77, 73],
  [66, 78, 69],
  [66, 80, 76],
  [66, 82, 65],
  [66, 82, 75],
  [66, 83, 82],
  [66, 86, 67],
  [66, 86, 83],
  [67, 76, 65],
  [67, 76, 67],
  [67, 76, 68],
  [67, 76, 73],
  [67, 76, 86],
  [67, 76, 88],
  [67, 76, 89],
  [67, 77, 80],
  [67, 77, 80],
  [67, 77, 80],
  [67, 77, 80],
  [67, 77, 80],
  [67, 77, 80],
  [67, 77, 80],
  [67, 77, 80],
  [67, 77, 80],
  [67, 80, 88],
  [67, 80, 88],
  [67, 80, 88],
  [67, 80, 89],
  [67, 80, 89],
  [67, 80, 89],
  [67, 83, 72],
  [67, 83, 76],
  [68, 69, 67],
  [68, 69, 67],
  [68, 69, 67],
  [68, 69, 67],
  [68, 69, 67],
  [68, 69, 88],
  [68, 69, 89],
  [69, 79, 82],
  [69, 79, 82],
  [69, 79, 82],
  [69, 79, 82],
  [69, 79, 82],
  [69, 79, 82],
  [69, 79, 82],
  [69, 79, 82],
  [69, 79, 82],
  [73, 78, 67],
  [73, 78, 67],
  [73, 78, 67],
  [73, 78, 67],
  [73, 78, 67],
  [73, 78, 88],
  [73, 78, 89],
  [74, 77, 80],
  [74, 77, 80],
  [74, 77, 80],
  [74, 83, 82],
  [76, 68, 65],
  [76, 68, 65],
  [76, 68, 65],
  [76, 68, 65],
  [76, 68, 65],
  [76, 68, 65],
  [76, 68, 65],
  [76, 68, 65],
  [76, 68, 65],
  [76, 68, 88],
  [76, 68, 88],
  [76, 68, 88],
  [76, 68, 88],
  [76, 68, 88],
  [76, 68, 89],
  [76, 68, 89],
  [76, 68, 89],
  [76, 68, 89],
  [76, 68, 89],
  [76, 83, 82],
  [76, 83, 82],
  [76, 83, 82],
  [76, 83, 82],
  [76, 83, 82],
  [78, 79, 80],
  [79, 82, 65],
  [79, 82, 65],
  [79, 82, 65],
  [79, 82, 65],
  [79, 82, 65],
  [79, 82, 65],
  [79, 82, 65],
  [79, 82, 65],
  [79, 82, 65],
  [80, 72, 65],
  [80, 72, 80],
  [80, 72, 88],
  [80, 72, 89],
  [80, 76, 65],
  [80, 76, 80],
  [80, 76, 88],
  [80, 76, 89],
  [82, 77, 66, 48],
  [82, 77, 66, 49],
  [82, 77, 66, 50],
  [82, 77, 66, 51],
  [82, 77, 66, 52],
  [82, 77, 66, 53],
  [82, 77, 66, 54],
  [82, 77, 66, 55],
  [82, 79, 76],
  [82, 79, 76],
  [82, 79, 76],
  [82, 79, 76],
  [82, 79, 76],
  [82, 79, 82],
  [82, 79, 82],
  [82, 79, 82],
  [82, 79, 82],
  [82, 79, 82],
  [82, 84, 73],
  [82, 84, 83],
  [83, 65, 88],
  [83, 65, 89],
  [83, 66, 67],
  [83, 66, 67],
  [83, 66, 67],
  [83, 66, 67],
  [83, 66, 67],
  [83, 66, 67],
  [83, 66, 67],
  [83, 66, 67],
  [83, 66, 67],
  [83, 69, 67],
  [83, 69, 68],
  [83, 69, 73],
  [83, 69, 84],
  [83, 77, 66, 48],
  [83, 77, 66, 49],
  [83, 77, 66, 50],
  [83, 77, 66, 51],
  [83, 77, 66, 52],
  [83, 77, 66, 53],
  [83, 77, 66, 54],
  [83, 77, 66, 55],
  [83, 84, 48],
  [83, 84, 49],
  [83, 84, 50],
  [83, 84, 65],
  [83, 84, 65],
  [83, 84, 65],
  [83, 84, 65],
  [83, 84, 65],
  [83, 84, 65],
  [83, 84, 65],
  [83, 84, 65],
  [83, 84, 88],
  [83, 84, 88],
  [83, 84, 88],
  [83, 84, 89],
  [83, 84, 89],
  [83, 84, 89],
  [83, 84, 90],
  [83, 84, 90],
  [83, 84, 90],
  [83, 84, 90],
  [83, 88, 89],
  [84, 65, 73],
  [84, 65, 77],
  [84, 65, 88],
  [84, 65, 89],
  [84, 68, 68],
  [84, 73, 65],
  [84, 73, 73],
  [84, 73, 78],
  [84, 77, 65],
  [84, 82, 66],
  [84, 82, 66],
  [84, 83, 66],
  [84, 83, 66],
  [84, 83, 84],
  [84, 83, 84],
  [84, 83, 84],
  [84, 83, 84],
  [84, 83, 88],
  [84, 88, 65],
  [84, 88, 83],
  [84, 89, 65]]
/-- Each once. -/
def namesL : List (List UInt8) := [
  [65, 68, 67],
  [65, 78, 68],
  [65, 83, 76],
  [66, 66, 82, 48],
  [66, 66, 82, 49],
  [66, 66, 82, 50],
  [66, 66, 82, 51],
  [66, 66, 82, 52],
  [66, 66, 82, 53],
  [66, 66, 82, 54],
  [66, 66, 82, 55],
  [66, 66, 83, 48],
  [66, 66, 83, 49],
  [66, 66, 83, 50],
  [66, 66, 83, 51],
  [66, 66, 83, 52],
  [66, 66, 83, 53],
  [66, 66, 83, 54],
  [66, 66, 83, 55],
  [66, 67, 67],
  [66, 67, 83],
  [66, 69, 81],
  [66, 73, 84],
  [66, 77, 73],
  [66, 78, 69],
  [66, 80, 76],
  [66, 82, 65],
  [66, 82, 75],
  [66, 83, 82],
  [66, 86, 67],
  [66, 86, 83],
  [67, 76, 65],
  [67, 76, 67],
  [67, 76, 68],
  [67, 76, 73],
  [67, 76, 86],
  [67, 76, 88],
  [67, 76, 89],
  [67, 77, 80],
  [67, 80, 88],
  [67, 80, 89],
  [67, 83, 72],
  [67, 83, 76],
  [68, 69, 67],
  [68, 69, 88],
  [68, 69, 89],
  [69, 79, 82],
  [73, 78, 67],
  [73, 78, 88],
  [73, 78, 89],
  [74, 77, 80],
  [74, 83, 82],
  [76, 68, 65],
  [76, 68, 88],
  [76, 68, 89],
  [76, 83, 82],
  [78, 79, 80],
  [79, 82, 65],
  [80, 72, 65],
  [80, 72, 80],
  [80, 72, 88],
  [80, 72, 89],
  [80, 76, 65],
  [80, 76, 80],
  [80, 76, 88],
  [80, 76, 89],
  [82, 77, 66, 48],
  [82, 77, 66, 49],
  [82, 77, 66, 50],
  [82, 77, 66, 51],
  [82, 77, 66, 52],
  [82, 77, 66, 53],
  [82, 77, 66, 54],
  [82, 77, 66, 55],
  [82, 79, 76],
  [82, 79, 82],
  [82, 84, 73],
  [82, 84, 83],
  [83, 65, 88],
  [83, 65, 89],
  [83, 66, 67],
  [83, 69, 67],
  [83, 69, 68],
  [83, 69, 73],
  [83, 69, 84],
  [83, 77, 66, 48],
  [83, 77, 66, 49],
  [83, 77, 66, 50],
  [83, 77, 66, 51],
  [83, 77, 66, 52],
  [83, 77, 66, 53],
  [83, 77, 66, 54],
  [83, 77, 66, 55],
  [83, 84, 48],
  [83, 84, 49],
  [83, 84, 50],
  [83, 84, 65],
  [83, 84, 88],
  [83, 84, 89],
  [83, 84, 90],
  [83, 88, 89],
  [84, 65, 73],
  [84, 65, 77],
  [84, 65, 88],
  [84, 65, 89],
  [84, 68, 68],
  [84, 73, 65],
  [84, 73, 73],
  [84, 73, 78],
  [84, 77, 65],
  [84, 82, 66],
  [84, 83, 66],
  [84, 83, 84],
  [84, 83, 88],
  [84, 88, 65],
  [84, 88, 83],
  [84, 89, 65]]
def chain : List (List UInt8) → Bool
  | [] => true
  | x :: l => match l with
    | [] => true
    | y :: _ => leB x y && chain l
theorem leB_trans {a b c : List UInt8} (h1 : leB a b = true) (h2 : leB b c = true) : leB a c = true := by
  simp only [leB, decide_eq_true_eq] at *
  exact List.le_trans h1 h2
theorem chain_pair : ∀ l : List (List UInt8), chain l = true → l.Pairwise fun a b => leB a b = true
  | [], _ => .nil
  | [x], _ => List.pairwise_cons.2 ⟨fun y hy => (by cases hy), .nil⟩
  | x :: y :: l, h => by
    simp only [chain, Bool.and_eq_true] at h
    have ih := chain_pair (y :: l) h.2
    refine List.pairwise_cons.2 ⟨fun z hz => ?_, ih⟩
    rcases List.mem_cons.1 hz with rfl | hz
    · exact h.1
    · exact leB_trans h.1 ((List.pairwise_cons.1 ih).1 z hz)
theorem chainN : chain sortedN = true := by kernel_rfl
theorem permN : (namesOf (upto 256)).isPerm sortedN = true := by kernel_rfl
theorem compactN : Lib.compact sortedN = namesL := by kernel_rfl
theorem onceN : once (namesOf (upto 256)) = namesL := by
  have h1 : (namesOf (upto 256)).mergeSort leB = sortedN.mergeSort leB := mergeSort_of_perm (List.isPerm_iff.1 permN)
  have h2 : sortedN.mergeSort leB = sortedN := List.mergeSort_of_pairwise (chain_pair _ chainN)
  unfold once
  rw [show ((namesOf (upto 256)).mergeSort fun x y => decide (x ≤ y)) = sortedN from h1.trans h2, compactN]

theorem good_calls35 (n : Nat) (b : Nat) (hb : b < 256) (W : World) (hW : GoodAt W) : CallsIn Fence.wide n Tryd.prog 35 #[.int .u8 b] W fun e W' => e = .returned (.bool (opR b).known) ∧ RowKit.Below W.heap.size W W' :=
  callsIn_wide.2 ((of35 b hb).calls rfl rfl hW)
theorem good_calls34 (n : Nat) (b : Nat) (hb : b < 256) (W : World) (hW : GoodAt W) : CallsIn Fence.wide n Tryd.prog 34 #[.int .u8 b] W fun e W' => e = .returned (opV b) ∧ RowKit.Below W.heap.size W W' := by
  have hr : Go.AE.Rel Tryd.prog ⟨W, fun _ => False, hW⟩ [] [] W := ⟨rfl, fun j b gb hj => by simp at hj, fun i j bi bj gi gj _ hi => by simp at hi, fun _ _ _ => rfl, Nat.le_refl _, rfl, rfl, rfl⟩
  refine callsIn_wide.2 ((of34 b hb [] _ [] W [.int .u8 b] hr (.cons (.s (.int _ _)) .nil)).mono ?_)
  rintro x W' ⟨v, v', m', g', rfl, ⟨rfl, rfl⟩, hr', hvr⟩
  refine ⟨?_, hr'.os, hr'.tape, hr'.output, hr'.size, fun k hk => hr'.frame k hk (fun h => h)⟩
  obtain ⟨ys, rfl, hf⟩ := Go.AE.VR.inv_agg (xs := [St (opR b).name, By (opR b).mode, In (opR b).size, In (opR b).cycles]) hvr
  obtain ⟨l⟩ := ys
  simp only at hf
  cases hf with
  | cons a1 hf => cases hf with
    | cons a2 hf => cases hf with
      | cons a3 hf => cases hf with
        | cons a4 hf =>
          have e1 := a1.plain_eq rfl
          have e2 := a2.plain_eq rfl
          have e3 := a3.plain_eq rfl
          have e4 := a4.plain_eq rfl
          cases hf
          subst e1 e2 e3 e4
          rfl
theorem size_of_good {W : World} (h : GoodAt W) : 1 ≤ W.heap.size := by
  obtain ⟨_, n, hn⟩ := h
  rcases Nat.lt_or_ge 0 W.heap.size with h' | h'
  · exact h'
  · simp only [World.cell?, Array.getElem?_eq_none h'] at hn
    cases hn
/-- opcode.Names. -/
theorem ent38 : EntIs Tryd.prog 38 ⟨[], .slice (some ⟨0, 0, none⟩) namesL.length namesL.length, [⟨namesL.map St, 9, true, false⟩]⟩ := by
  intro m
  have := ACall.of_row (f := 38) (aa := []) (m := m) (e := 9) (xs := namesL.map St) (P := Tryd.prog) rfl (List.all_eq_true.2 fun x hx => by obtain ⟨c, _, rfl⟩ := List.mem_map.1 hx; rfl) (by kernel_rfl) (fun W hW => by
    refine (callsIn_wide (n := 3)).1 ((names_in 3 (by omega) (fun b hb W hW => good_calls35 _ b hb W hW) (fun b hb W hW => good_calls34 _ b hb W hW) W hW (size_of_good hW)).mono ?_)
    rintro e W' ⟨g, cap, rfl, hrow, hb⟩
    rw [onceN] at hrow ⊢
    refine ⟨⟨g, cap, by rw [List.length_map], ?_⟩, hb⟩
    exact rowAt_of hrow)
  refine this.mono ?_
  rintro v m' ⟨rfl, rfl⟩
  refine ⟨by rw [List.length_map]; rfl, ?_⟩
  show _ = m ++ [some (renBlk (place [] m.length) ⟨namesL.map St, 9, true, false⟩)]
  have : (namesL.map St).map (renS (place [] m.length)) = namesL.map St := by
    rw [List.map_map]
    exact List.map_congr_left fun _ _ => rfl
  simp only [renBlk, this]
end Go.Proofs.YtfohjnfdgegfcaaDoor
