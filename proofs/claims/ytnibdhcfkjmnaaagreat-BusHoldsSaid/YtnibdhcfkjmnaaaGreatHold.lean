/-
  What is written to work memory is read: in plain words, of the bus's names. Conditions: none.
-/
import Derived.Test.YtnibdhcfkjmnaaaGreatStA
set_option linter.unusedSectionVars false
set_option linter.unusedVariables false
set_option linter.unusedSimpArgs false
namespace Go.Proofs.YtnibdhcfkjmnaaaGreat
open Go Go.AE Go.SX Go.RowKit
set_option maxRecDepth 1000000
variable [HF] [HOk1] [HOk2] [HOk3] [ROk] [BOk] [BOk2] [SOk]
def memAt (s : D) (a : Int) : Int := (((bpt s 5).toS.getD (a % 8192).toNat 0).toNat : Nat)
/-- A bus with n accesses left, whose work memory holds v at a. -/
structure HoldSt (s : D) (a v n : Int) : Prop where
  left : (bpt s 7).toI = n
  at_ : memAt s a = v
theorem sel_ram {l : List BRow} {e : En} (h7 : 0 < (X.v 7).I e) (hw : whI (adN.I e) = 1) : selB l e = rowAt l 2 := by
  unfold selB rowB
  rw [hw, if_neg (by omega), if_neg (by omega), if_pos (by omega)]
theorem adN_at {s : D} {a : D} {l : List D} : adN.I (envOf (comps 11 s ++ a :: l)) = a.toI % 2097152 := by
  show ((envOf (comps 11 s ++ a :: l)).ρ 11).toI % 2097152 = _
  have h := arg_at (s := s) (l := a :: l) 0
  rw [show ((11 : Nat) + 0) = 11 from rfl] at h
  rw [h]; rfl
theorem off_at {s : D} {a : D} {l : List D} : OFF.I (envOf (comps 11 s ++ a :: l)) = a.toI % 8192 := by
  show ((envOf (comps 11 s ++ a :: l)).ρ 11).toI % 8192 = _
  have h := arg_at (s := s) (l := a :: l) 0
  rw [show ((11 : Nat) + 0) = 11 from rfl] at h
  rw [h]; rfl
theorem nth_off {s : D} {a : D} {l : List D} : (X.o .nth (.v 5) OFF).I (envOf (comps 11 s ++ a :: l)) = memAt s a.toI := by
  show ((((((envOf (comps 11 s ++ a :: l)).ρ 5).toS.getD (OFF.I (envOf (comps 11 s ++ a :: l))).toNat 0).toNat : Nat)) : Int) = _
  rw [off_at, rd_at (s := s) (l := a :: l) rfl 5 (by omega)]
  rfl
theorem mem_rg (s : D) (a : Int) : 0 ≤ memAt s a ∧ memAt s a ≤ 255 := by
  unfold memAt
  have := ((bpt s 5).toS.getD (a % 8192).toNat 0).toNat_lt
  omega
theorem mem_same {s t : D} {a b : Int} (h : bpt t 5 = bpt s 5) (hab : a % 8192 = b % 8192) : memAt t a = memAt s b := by
  unfold memAt
  rw [h, hab]
theorem pk_hold {s a : D} {v n : Int} (h : HoldSt s a.toI v n) (hw : whI (a.toI % 2097152) = 1) : (pkVD (.p s a)).toI = v := by
  have he : eB 1 (.p s a) = envOf (comps 11 s ++ [a]) := eB_pack (l := [a]) rfl
  have hr : selP busPk (envOf (comps 11 s ++ [a])) = rowAt busPk 1 := by
    unfold selP rowP
    rw [adN_at, hw, if_neg (by omega), if_pos (by omega)]
  unfold pkVD
  rw [he, hr]
  show clampI 0 255 ((X.o .nth (.v 5) OFF).I (envOf (comps 11 s ++ [a]))) = v
  rw [nth_off, clampI_eq (mem_rg s _).1 (mem_rg s _).2, h.at_]
theorem rd_hold {s a k : D} {b v n : Int} (h : HoldSt s b v n) (hn : 0 < n) (hw : whI (a.toI % 2097152) = 1) (hab : a.toI % 8192 = b % 8192) : (brVD (.p s (.p a k))).toI = v ∧ HoldSt (brSD (.p s (.p a k))) b v (n - 1) := by
  have he : eB 2 (.p s (.p a k)) = envOf (comps 11 s ++ [a, k]) := eB_pack (l := [a, k]) rfl
  have h7 : (X.v 7).I (envOf (comps 11 s ++ [a, k])) = n := (congrArg D.toI (rd_at (s := s) (l := [a, k]) rfl 7 (by omega))).trans h.left
  have hr : selB busRd (envOf (comps 11 s ++ [a, k])) = rowAt busRd 2 := sel_ram (by rw [h7]; exact hn) (by rw [adN_at]; exact hw)
  refine ⟨?_, ?_, ?_⟩
  · unfold brVD
    rw [he, hr]
    show clampI 0 255 ((X.o .nth (.v 5) OFF).I (envOf (comps 11 s ++ [a, k]))) = v
    rw [nth_off, clampI_eq (mem_rg s _).1 (mem_rg s _).2, mem_same rfl hab, h.at_]
  · unfold brSD
    rw [he, hr, pt_pack rfl]
    show (X.v 7).I (envOf (comps 11 s ++ [a, k])) + -1 = n - 1
    rw [h7]; rfl
  · rw [← h.at_]
    refine mem_same ?_ rfl
    unfold brSD
    rw [he, hr, pt_pack rfl]
    exact rd_at (s := s) (l := [a, k]) rfl 5 (by omega)
theorem wr_hold {s a v k : D} {n : Int} (h7 : (bpt s 7).toI = n) (hn : 0 < n) (hl : (bpt s 5).toS.length = 8192) (hv0 : 0 ≤ v.toI) (hv1 : v.toI ≤ 255) (hw : whI (a.toI % 2097152) = 1) : HoldSt (bwSD (.p s (.p a (.p v k)))) a.toI v.toI (n - 1) := by
  have he : eB 3 (.p s (.p a (.p v k))) = envOf (comps 11 s ++ [a, v, k]) := eB_pack (l := [a, v, k]) rfl
  have h7' : (X.v 7).I (envOf (comps 11 s ++ [a, v, k])) = n := (congrArg D.toI (rd_at (s := s) (l := [a, v, k]) rfl 7 (by omega))).trans h7
  have hr : selB busWr (envOf (comps 11 s ++ [a, v, k])) = rowAt busWr 2 := sel_ram (by rw [h7']; exact hn) (by rw [adN_at]; exact hw)
  refine ⟨?_, ?_⟩
  · unfold bwSD
    rw [he, hr, pt_pack rfl]
    show (X.v 7).I (envOf (comps 11 s ++ [a, v, k])) + -1 = n - 1
    rw [h7']; rfl
  · have h5 : bpt (bwSD (.p s (.p a (.p v k)))) 5 = .s ((bpt s 5).toS.set (a.toI % 8192).toNat (UInt8.ofNat v.toI.toNat)) := by
      unfold bwSD
      rw [he, hr, pt_pack rfl]
      show D.s (((envOf (comps 11 s ++ [a, v, k])).ρ 5).toS.set (OFF.I (envOf (comps 11 s ++ [a, v, k]))).toNat (UInt8.ofNat ((envOf (comps 11 s ++ [a, v, k])).ρ 12).toI.toNat)) = _
      rw [off_at, rd_at (s := s) (l := [a, v, k]) rfl 5 (by omega)]
      have h12 := arg_at (s := s) (l := [a, v, k]) 1
      rw [show ((11 : Nat) + 1) = 12 from rfl] at h12
      rw [h12]; rfl
    unfold memAt
    rw [h5]
    show ((((((bpt s 5).toS.set (a.toI % 8192).toNat (UInt8.ofNat v.toI.toNat)).getD (a.toI % 8192).toNat 0).toNat : Nat)) : Int) = v.toI
    rw [List.getD_eq_getElem?_getD, List.getElem?_set_self (by rw [hl]; omega)]
    show (((UInt8.ofNat v.toI.toNat).toNat : Nat) : Int) = v.toI
    rw [UInt8.toNat_ofNat']
    omega
/-- Elsewhere a write changes neither image nor work memory. -/
theorem pk_same {s t a : D} (h4 : bpt t 4 = bpt s 4) (h5 : bpt t 5 = bpt s 5) : (pkVD (.p t a)) = (pkVD (.p s a)) := by
  have he : ∀ s : D, eB 1 (.p s a) = envOf (comps 11 s ++ [a]) := fun s => eB_pack (l := [a]) rfl
  have e4 : (envOf (comps 11 t ++ [a])).ρ 4 = (envOf (comps 11 s ++ [a])).ρ 4 := by rw [rd_at (s := t) (l := [a]) rfl 4 (by omega), rd_at (s := s) (l := [a]) rfl 4 (by omega), h4]
  have e5 : (envOf (comps 11 t ++ [a])).ρ 5 = (envOf (comps 11 s ++ [a])).ρ 5 := by rw [rd_at (s := t) (l := [a]) rfl 5 (by omega), rd_at (s := s) (l := [a]) rfl 5 (by omega), h5]
  have e11 : (envOf (comps 11 t ++ [a])).ρ 11 = (envOf (comps 11 s ++ [a])).ρ 11 := by
    have h1 := arg_at (s := s) (l := [a]) 0
    have h2 := arg_at (s := t) (l := [a]) 0
    rw [show ((11 : Nat) + 0) = 11 from rfl] at h1 h2
    rw [h1, h2]
  unfold pkVD
  rw [he, he]
  have ea : adN.I (envOf (comps 11 t ++ [a])) = adN.I (envOf (comps 11 s ++ [a])) := by rw [adN_at, adN_at]
  unfold selP rowP
  rw [ea]
  split
  · show D.i (clampI 0 255 (bif decide (((envOf (comps 11 t ++ [a])).ρ 11).toI % 2097152 < ((((envOf (comps 11 t ++ [a])).ρ 4).toS.length : Nat) : Int)) then ((((((envOf (comps 11 t ++ [a])).ρ 4).toS.getD (((envOf (comps 11 t ++ [a])).ρ 11).toI % 2097152).toNat 0).toNat : Nat)) : Int) else 255)) = D.i (clampI 0 255 (bif decide (((envOf (comps 11 s ++ [a])).ρ 11).toI % 2097152 < ((((envOf (comps 11 s ++ [a])).ρ 4).toS.length : Nat) : Int)) then ((((((envOf (comps 11 s ++ [a])).ρ 4).toS.getD (((envOf (comps 11 s ++ [a])).ρ 11).toI % 2097152).toNat 0).toNat : Nat)) : Int) else 255))
    rw [e4, e11]
  · split
    · show D.i (clampI 0 255 ((((((envOf (comps 11 t ++ [a])).ρ 5).toS.getD (((envOf (comps 11 t ++ [a])).ρ 11).toI % 8192).toNat 0).toNat : Nat)) : Int)) = D.i (clampI 0 255 ((((((envOf (comps 11 s ++ [a])).ρ 5).toS.getD (((envOf (comps 11 s ++ [a])).ρ 11).toI % 8192).toNat 0).toNat : Nat)) : Int))
      rw [e5, e11]
    · rfl
theorem wr_out {s a v k : D} (hw : whI (a.toI % 2097152) ≠ 1) : bpt (bwSD (.p s (.p a (.p v k)))) 4 = bpt s 4 ∧ bpt (bwSD (.p s (.p a (.p v k)))) 5 = bpt s 5 := by
  have he : eB 3 (.p s (.p a (.p v k))) = envOf (comps 11 s ++ [a, v, k]) := eB_pack (l := [a, v, k]) rfl
  have h4 := rd_at (s := s) (l := [a, v, k]) rfl 4 (by omega)
  have h5 := rd_at (s := s) (l := [a, v, k]) rfl 5 (by omega)
  have key : ∀ i, i < 7 → i ≠ 2 → bpt (packD ((rowAt busWr i).sp.map (X.den (envOf (comps 11 s ++ [a, v, k]))))) 4 = bpt s 4 ∧ bpt (packD ((rowAt busWr i).sp.map (X.den (envOf (comps 11 s ++ [a, v, k]))))) 5 = bpt s 5 := by
    intro i hi hi2
    rw [← h4, ← h5]
    rcases (by omega : i = 0 ∨ i = 1 ∨ i = 3 ∨ i = 4 ∨ i = 5 ∨ i = 6) with rfl | rfl | rfl | rfl | rfl | rfl <;> (rw [pt_pack rfl, pt_pack rfl]; exact ⟨rfl, rfl⟩)
  unfold bwSD
  rw [he]
  have hne : ∃ i, i < 7 ∧ i ≠ 2 ∧ selB busWr (envOf (comps 11 s ++ [a, v, k])) = rowAt busWr i := by
    unfold selB rowB
    rw [adN_at]
    split
    · exact ⟨0, by omega, by omega, rfl⟩
    · split
      · exact ⟨1, by omega, by omega, rfl⟩
      · split
        · exfalso; omega
        · repeat' split
          · exact ⟨3, by omega, by omega, rfl⟩
          · exact ⟨4, by omega, by omega, rfl⟩
          · exact ⟨5, by omega, by omega, rfl⟩
          · exact ⟨6, by omega, by omega, rfl⟩
  obtain ⟨i, h1, h2, h3⟩ := hne
  rw [h3]
  exact key i h1 h2
theorem pk_out {s a v k : D} (hw : whI (a.toI % 2097152) ≠ 1) : pkVD (.p (bwSD (.p s (.p a (.p v k)))) a) = pkVD (.p s a) := pk_same (wr_out hw).1 (wr_out hw).2
end Go.Proofs.YtnibdhcfkjmnaaaGreat
