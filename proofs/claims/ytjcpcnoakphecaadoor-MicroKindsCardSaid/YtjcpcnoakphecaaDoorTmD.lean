/-
  What the laws on timing need of letters and kinds; what the names stand for. Conditions: none.
-/
import Derived.Test.YtjcpcnoakphecaaDoorTmC
set_option linter.unusedSectionVars false
set_option linter.unusedVariables false
set_option linter.unusedSimpArgs false
namespace Go.Proofs.YtjcpcnoakphecaaDoor
open Go Go.AE Go.SX Go.RowKit
set_option maxRecDepth 1000000
theorem tx_nth {l : List UInt8} {i : Nat} (x : i < l.length) : ((((txF l).getD i 0).toNat : Nat) : Int) = bif decide ((((l.getD i 0).toNat : Nat) : Int) < 8) then (((lettersL.getD (((l.getD i 0).toNat : Nat) : Int).toNat 0).toNat : Nat) : Int) else 63 := by
  have h : (txF l).getD i 0 = tx1 (l.getD i 0) := by
    unfold txF
    rw [List.getD_eq_getElem?_getD, List.getD_eq_getElem?_getD, List.getElem?_map, List.getElem?_eq_getElem x]; rfl
  rw [h]
  unfold tx1
  have hb : Nat.blt (l.getD i 0).toNat 8 = decide ((((l.getD i 0).toNat : Nat) : Int) < 8) := by
    rw [Bool.eq_iff_iff, Nat.blt_eq, decide_eq_true_eq]; omega
  rw [hb]
  cases decide ((((l.getD i 0).toNat : Nat) : Int) < 8) with
  | true => simp
  | false => rfl
theorem word_nth {s : List UInt8} {n i : Nat} (h : Word s n) (h1 : 1 ≤ i) (h2 : i < (kdF s).length) : 1 ≤ ((kdF s).getD i 0).toNat ∧ ((kdF s).getD i 0).toNat ≤ 7 := by
  obtain ⟨r, rfl, _, _, h3⟩ := h.r
  obtain ⟨k, rfl⟩ : ∃ k, i = k + 1 := ⟨i - 1, by omega⟩
  have hk : k < r.length := by
    unfold kdF at h2
    rw [List.length_map] at h2
    simpa using h2
  have e1 : (kdF (70 :: r)).getD (k + 1) 0 = kd1 (r[k]) := by
    unfold kdF
    rw [List.getD_eq_getElem?_getD, List.getElem?_map, List.getElem?_cons_succ, List.getElem?_eq_getElem hk]; rfl
  rw [e1]
  exact kd_tail _ (h3 _ (List.getElem_mem hk))
theorem word_head {s : List UInt8} {n : Nat} (h : Word s n) : (kdF s).getD 0 0 = 0 := by
  obtain ⟨r, rfl, _⟩ := h.r
  exact kd_head
/-! What the names stand for. -/
open Classical in
noncomputable def phiD : Nat → D → D
  | 40, d => opD d
  | 41, d => .i (ixI (ixB d.snd.toI.toNat.toUInt8 d.fst.toS))
  | 42, d => .s (txF d.toS)
  | 43, d => joinD d
  | 45, d => .s (kdF d.toS)
  | 46, d => .s (allF d.fst.toI.toNat d.snd.fst.toB d.snd.snd.fst.toB d.snd.snd.snd.fst.toB d.snd.snd.snd.snd.toI)
  | 47, d => .i (mostP (d.fst.toS.take d.snd.toI.toNat))
  | 48, d => .i (mostB d.toI.toNat)
  | 49, d => .s (Lib.repeatL d.fst.toS d.snd.toI.toNat)
  | 55, d => .b (decide (KdP d.fst.toS d.snd.fst.toI d.snd.snd.toS))
  | 56, d => .b (decide (TxP d.fst.toS d.snd.fst.toI d.snd.snd.toR))
  | 57, d => .b (decide (MoP d.fst.toS d.snd.fst.toI d.snd.snd.toI))
  | _, _ => .u
theorem hasLo {a n : Int} (h1 : a ≤ n) : (Rg.mk (some a) none).has n := ⟨fun x hx => (by cases hx; exact h1), fun x hx => (by cases hx)⟩
theorem phiD_ok : ∀ f p d, (rgD f p).has ((phiD f d).proj p).toI := by
  intro f p d
  have ho := op_rg d.toI.toNat
  unfold rgD
  split
  · exact hasM (by show (0 : Int) ≤ ((opR d.toI.toNat).mode : Nat); omega) (by show (((opR d.toI.toNat).mode : Nat) : Int) ≤ 19; omega)
  · exact hasM (by show (1 : Int) ≤ ((opR d.toI.toNat).size : Nat); omega) (by show (((opR d.toI.toNat).size : Nat) : Int) ≤ 7; omega)
  · exact hasM (by show (2 : Int) ≤ ((opR d.toI.toNat).cycles : Nat); omega) (by show (((opR d.toI.toNat).cycles : Nat) : Int) ≤ 17; omega)
  · refine hasLo ?_
    show (-1 : Int) ≤ ixI (ixB d.snd.toI.toNat.toUInt8 d.fst.toS)
    cases ixB d.snd.toI.toNat.toUInt8 d.fst.toS with
    | none => exact Int.le_refl _
    | some n => show (-1 : Int) ≤ (n : Int); omega
  · have := mostP_rg (d.fst.toS.take d.snd.toI.toNat)
    exact hasM this.1 this.2
  · have := mostB_rg d.toI.toNat
    exact hasM this.1 this.2
  · exact hasLo (Int.le_refl _)
  · exact hasT _
theorem phiD_sh : ∀ f d d', (shD f).like d d' → phiD f d = phiD f d' := by
  intro f d d' hl
  unfold shD at hl
  split at hl
  · have h : d.toI = d'.toI := hl
    show opD d = opD d'
    unfold opD
    rw [h]
  · rfl
  · have h1 : d.fst = d'.fst := hl.1
    have h2 : d.snd.toI = d'.snd.toI := hl.2
    show D.i (mostP (d.fst.toS.take d.snd.toI.toNat)) = D.i (mostP (d'.fst.toS.take d'.snd.toI.toNat))
    rw [h1, h2]
  · have h : d.toI = d'.toI := hl
    show D.i (mostB d.toI.toNat) = D.i (mostB d'.toI.toNat)
    rw [h]
  · have h1 : d.fst = d'.fst := hl.1
    have h2 : d.snd.toI = d'.snd.toI := hl.2
    show D.s (Lib.repeatL d.fst.toS d.snd.toI.toNat) = D.s (Lib.repeatL d'.fst.toS d'.snd.toI.toNat)
    rw [h1, h2]
  · rfl
  · rfl
  · rfl
  · rfl
  · have h : d = d' := hl
    rw [h]
noncomputable instance dfI : DF := ⟨phiD, phiD_ok, phiD_sh⟩
instance : DOk1 := ⟨fun _ => rfl, fun _ => rfl, fun _ => rfl, fun _ => rfl⟩
instance : DOk2 := ⟨fun _ => rfl, fun _ => rfl, fun _ => rfl, fun _ => rfl⟩
instance : DOk3 := ⟨fun _ => rfl, fun _ => rfl, fun _ => rfl, fun _ => rfl⟩
end Go.Proofs.YtjcpcnoakphecaaDoor
